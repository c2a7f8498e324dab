/- Cursor: the reference's Ints of two lists; Close. -/
import Derived.Test.YtcamhpjgpjihhaaCur10
import Derived.Test.YtcamhpjgpjihhaaWalkCursorAgain
namespace Go.Proofs.Ytcamhpjgpjihhaa
set_option linter.unusedVariables false
set_option linter.unusedSimpArgs false
open Go.RowKit

theorem ints11_same (v v' : Value) (l : List Int) (w : World) (h : Ints .i64 w v l) (h' : Ints .i64 w v' l) :
    Calls Try.prog 32 #[v, v'] w fun e w' => e = .returned (.bool true) ∧ Kp (fun _ => False) w w' := by
  obtain ⟨A, cap, rfl, hlc, hcm, hrow⟩ := h.one
  obtain ⟨A', cap', rfl, _, _, hrow'⟩ := h'.one
  clear h h'
  have hlm : l.length ≤ 9223372036854775807 := by simp only [maxLen] at hcm; omega
  clear hlc hcm
  have hnn : ((l.length : Int) != (l.length : Int)) = false := by simp
  have kk := Kp.refl (fun _ => False) w
  go_enter Try.func32, Try.ntmps32
  go_wp2_with fail
  go_loopw [5] (fun i wr => SameRel w l.length i wr) (fun i _ => l.length - (intOf i).toNat)
  case atStart => exact ⟨0, by omega, rfl, kk⟩
  case round =>
    clear kk hnn
    obtain ⟨k, hk, rfl, kk⟩ := hrel
    by_cases hlt : k < l.length
    · obtain ⟨b, off, rfl, hc⟩ := hrow k hlt
      obtain ⟨b', off', rfl, hc'⟩ := hrow' k hlt
      have d := kk.cell0 hc
      have d' := kk.cell0 hc'
      clear hc hc' hrow hrow'
      generalize l[k] = x at *
      have hxx : (x != x) = false := by simp
      go_wp2_with fail
      go_region_held3 (fun w' => w'.cell? ⟨b, off + k, none⟩ = some (.int .i64 x) ∧ w'.cell? ⟨b', off' + k, none⟩ = some (.int .i64 x)) (first | exact ⟨d, d'⟩ | go_keep) (fail)
      have kk := kk.drew
      go_wp2_with fail
      go_roundw
      case rel => exact ⟨k + 1, by omega, by go_num, kk⟩
      case measure => simp [intOf]; omega
    · go_wp2_with fail
      go_ret
      exact ⟨rfl, kk⟩


theorem OwnP.ints {w : World} {B : Nat} {v : Value} {l : List Int} (h : OwnP w B v l) : Ints .i64 w v l := OwnR.row h

theorem own_litP (w : World) (l : List Int) (hl : l.length ≤ 300) : OwnP (w.alloc (.cells (l.map fun n => Value.int .i64 n).toArray 3)) w.heap.size (.slice (some ⟨w.heap.size, 0, none⟩) l.length l.length) l := by
  have := World.ownsRow_lit (size := 1) (e := 3) (base := w.heap.size) w (l.map fun n => Value.int .i64 n).toArray l.length (Nat.le_refl _) (by simp only [maxLen]; omega) (by simp)
  unfold OwnP OwnR
  simpa using this

theorem close_no {w : World} {B bt bm : Nat} {idle last : Int} {l : CurL} (owner n : Int) (h : TabAt w B bt bm idle last l) (hl : NotMine l owner n) :
    Calls Try.prog 34 #[.pointer (some ⟨bt, 0, none⟩), .int .u64 owner, .int .u32 n] w fun e w' => e = .returned (.tuple #[.int .i64 0, .int .i64 140]) ∧ w = w' := by
  have hT := Lib.hid (mine_no h hl)
  clear h hl
  go_enter Try.func34, Try.ntmps34
  go_wp2_with fail
  refine hT.out.mono ?_
  rintro e w1 ⟨rfl, rfl⟩
  clear hT
  go_wp2_with fail
  go_ret2
  exact ⟨rfl, rfl⟩

theorem close_ok {w : World} {B bt bm : Nat} {idle last : Int} {l : CurL} {n : Int} {b : Nat} {c : Cur} (owner : Int) (h : TabAt w B bt bm idle last l) (hl : lookC l n = some (b, c)) (ho : c.owner = owner) :
    Calls Try.prog 34 #[.pointer (some ⟨bt, 0, none⟩), .int .u64 owner, .int .u32 n] w fun e w' => e = .returned (.tuple #[.int .i64 c.ask.pin, .int .i64 0]) ∧ TabAt w' B bt bm idle last (delC l n) ∧ Kt B TC True w w' := by
  have hT := Lib.hid (mine_has owner h hl ho)
  have c1 : w.cell? ⟨bt, 1, none⟩ = some (.map (some bm)) := (h.blk.cell 1).trans rfl
  obtain ⟨w9, hrun, hM9, k9, hs9⟩ := h.map.del (P := Try.prog) (ty := 0) keyU32 Try.underlying94 n
  have hT9 := Lib.hid (h.del n hM9 k9)
  have hkt := Lib.hid ((Kt.refl (B := B) (T := TC) (M := True) w).map h.map trivial h.bm k9)
  obtain ⟨hbB, v, a, y, z, q0, -⟩ := h.cur _ (lookC_mem hl)
  have q9 := q0.kp k9 (fun e => h.map.ne_blk q0 e.symm)
  have o1 : w9.cell? ⟨b, 1, none⟩ = some (.int .i64 c.ask.pin) := (q9.cell 1).trans rfl
  clear h hl ho hM9 k9 hs9 q0 q9
  go_enter Try.func34, Try.ntmps34
  go_wp2_with fail
  refine hT.out.mono ?_
  rintro e w1 ⟨rfl, rfl⟩
  clear hT
  go_wp2_with fail
  go_ret2
  exact ⟨rfl, hT9.out, hkt.out⟩
end Go.Proofs.Ytcamhpjgpjihhaa
