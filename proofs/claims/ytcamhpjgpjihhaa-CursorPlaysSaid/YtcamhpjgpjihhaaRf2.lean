/- The reference's table of cursors: cut. -/
import Derived.Test.YtcamhpjgpjihhaaRf1
namespace Go.Proofs.Ytcamhpjgpjihhaa
set_option linter.unusedVariables false
set_option linter.unusedSimpArgs false
open Go.RowKit

theorem loadC (ρ : Operand → Value) (dst : Option Tmp) (x : Operand) (ty : TypeId) (pos : String) (after : Array Edge) (gd : Option (Nat × Bool)) (w : World)
    (hp : isPtrA (ρ x) = true) (h : (rdAt w (adrOf (ρ x)) 12).isSome = true) : (execOp ρ ⟨dst, .load 80 x, ty, pos, after, gd⟩).run Try.prog w = .ok (.value (.agg ((rdAt w (adrOf (ρ x)) 12).getD #[]))) w :=
  ex_load_at (P := Try.prog) Try.underlying80 rfl (by kernel_rfl) ρ dst x ty pos after gd w hp h
attribute [local go_sem ↓] loadC
attribute [local go_sem] isPtrA_ptr adrOf_ptr
def zC : Value := .agg #[.int .u32 0, .int .u64 0, .int .i64 0, .slice none 0 0, .slice none 0 0, .slice none 0 0, .slice none 0 0, .bool false, .int .i64 0, .int .u32 0, .slice none 0 0, .int .u32 0]
theorem infoC : (Try.prog.info? 80).map (fun i => (i.zero, i.size, i.bytes)) = some (some zC, 12, 176) := by kernel_rfl

/-- A value that owns the cursors rs. -/
def RowsAt (w0 w : World) (B B1 : Nat) (v : Value) (rs : List RC) : Prop := ∃ ms, RowsO 80 12 w B1 v ms ∧ Par (RowC w0 w B) ms rs
theorem RowsAt.nil (w0 w : World) (B B1 : Nat) : RowsAt w0 w B B1 (.slice none 0 0) [] := ⟨[], RowsO.nil _ _ _ _, Par.nil _⟩
theorem RowsAt.kp {w0 w w' : World} {B B1 : Nat} {v : Value} {rs : List RC} (h : RowsAt w0 w B B1 v rs) (k : Kp (fun _ => False) w w') : RowsAt w0 w' B B1 v rs := by
  obtain ⟨ms, h1, h2⟩ := h
  exact ⟨ms, h1.kp k, h2.mono fun _ _ q => q.kt (Kt.of_kp (B := 0) (T := fun _ => False) (M := False) k) id⟩
theorem RowsAt.kt {B0 : Nat} {T : TypeId → Prop} {M : Prop} {w0 w w' : World} {B B1 : Nat} {v : Value} {rs : List RC} (h : RowsAt w0 w B B1 v rs) (k : Kt B0 T M w w') (h1 : ¬ T 113) (h2 : ¬ T 80) : RowsAt w0 w' B B1 v rs := by
  obtain ⟨ms, p1, p2⟩ := h
  exact ⟨ms, p1.kt k h2, p2.mono fun _ _ q => q.kt k h1⟩
theorem RowsAt.form {w0 w : World} {B B1 : Nat} {v : Value} {rs : List RC} (h : RowsAt w0 w B B1 v rs) : ∃ A cap, v = .slice A rs.length cap := by
  obtain ⟨ms, h1, h2⟩ := h
  rw [← h2.1]
  exact h1.form

theorem RowC.one {w0 w : World} {B : Nat} {m : List Value} {r : RC} (h : RowC w0 w B m r) : m.length = 12 ∧ m.all (·.oneCell') = true := by
  obtain ⟨v, a, y, n, ev, rfl, ⟨v', a', y', n', e, h1, h2, h3, h4⟩, h5⟩ := h
  simp only [List.cons.injEq, and_true, true_and] at e
  obtain ⟨rfl, rfl, rfl, rfl, -⟩ := e
  obtain ⟨_, _, rfl, _⟩ := h1.one
  obtain ⟨_, _, rfl, _⟩ := h2.one
  obtain ⟨_, _, rfl, _⟩ := h3.one
  obtain ⟨_, _, rfl, _⟩ := h4.one
  obtain ⟨_, _, rfl⟩ := RowsO.form h5
  exact ⟨rfl, rfl⟩
theorem cut_step_eq {α : Type} (l : List α) (k : Nat) (h : k < l.length) : (l.take (k + 1)).eraseIdx k = (l.take k).eraseIdx k := by
  have hl : (l.take k).length = k := by simp; omega
  rw [List.take_succ_eq_append_getElem h, List.eraseIdx_append_of_length_le (by omega), List.eraseIdx_of_length_le (l := l.take k) (by omega), hl]
  simp
theorem cut_step_ne {α : Type} (l : List α) (k i : Nat) (h : k < l.length) (hki : k ≠ i) : (l.take (k + 1)).eraseIdx i = (l.take k).eraseIdx i ++ [l[k]] := by
  have hl : (l.take k).length = k := by simp; omega
  rw [List.take_succ_eq_append_getElem h]
  by_cases hlt : i < k
  · rw [List.eraseIdx_append_of_lt_length (by omega)]
  · rw [List.eraseIdx_of_length_le (l := l.take k) (by omega), List.eraseIdx_of_length_le (by simp; omega)]

/-- append(l, a cursor's cells): a walk's arm. -/
theorem rows_push {w0 W w1 : World} {B B1 : Nat} {v v1 : Value} {rs : List RC} {ms : List (List Value)} {m : List Value} {r : RC} (h1 : RowsO 80 12 W B1 v ms) (h2 : Par (RowC w0 W B) ms rs) (hr : RowC w0 W B m r)
    (hown : w1.ownsRow B1 80 12 v1 (ms.length + 1) (ms.flatten ++ m)) (hg : W.grownBy w1 v.ownBlock) : RowsAt w0 w1 B B1 v1 (rs ++ [r]) := by
  have kI := (Kt.refl (B := 0) (T := fun t => t = 80) (M := False) W).grown h1.1 (Nat.zero_le _) rfl hg
  exact ⟨ms ++ [m], h1.push hown hr.one.1 hr.one.2, (h2.mono fun _ _ q => q.kt kI (by decide)).snoc (hr.kt kI (by decide))⟩

theorem RTab.blk {w0 w : World} {B c : Nat} {idle last : Int} {rs : List RC} (h : RTab w0 w B c idle last rs) : ∃ v, Blk w c #[.int .u32 idle, v, .int .u32 last] 70 := by
  obtain ⟨_, v, ms, h1, _⟩ := h
  exact ⟨v, h1⟩
/-- t.L = l: a new row of cursors. -/
theorem RTab.store {w0 w : World} {B B1 c : Nat} {idle last : Int} {rs rs' : List RC} {v : Value} (h : RTab w0 w B c idle last rs) (hR : RowsAt w0 w B B1 v rs') {n : Nat} (_ : n ≤ w.heap.size) (hB : B ≤ B1) :
    RTab w0 (w.setCell ⟨c, 1, none⟩ v) B c idle last rs' ∧ Kt B TR False w (w.setCell ⟨c, 1, none⟩ v) := by
  obtain ⟨hc, v1, ms1, h1, _⟩ := h
  obtain ⟨ms, q1, q2⟩ := hR
  have k := (Kt.refl (B := B) (T := fun t => t = 70) (M := False) w).setCell h1 rfl hc 1 v
  have hs := h1.set 1 v
  exact ⟨⟨hc, v, ms, hs, (q1.kt k (by decide)).base hB, q2.mono fun _ _ q => q.kt k (by decide)⟩, k.mono (Nat.le_refl _) (fun _ h => .inl h) id⟩

def CutRel (w0 w : World) (B i : Nat) (rs : List RC) (v j : Value) (wr : World) : Prop :=
  ∃ k : Nat, k ≤ rs.length ∧ j = .int .i64 k ∧ RowsAt w0 wr B w.heap.size v ((rs.take k).eraseIdx i) ∧ Kp (fun _ => False) w wr
set_option maxRecDepth 20000 in
set_option maxHeartbeats 1000000 in
theorem r14_cut {w0 w : World} {B c : Nat} {idle last : Int} {rs : List RC} (h : RTab w0 w B c idle last rs) (hB : B ≤ w.heap.size) {i : Nat} (hi : i < rs.length) (hl : rs.length ≤ 1000) :
    Calls Try.prog 60 #[.pointer (some ⟨c, 0, none⟩), .int .i64 i] w fun e w' => e = .returned (.tuple #[]) ∧ RTab w0 w' B c idle last (rs.eraseIdx i) ∧ Kt B TR False w w' := by
  have hH := Lib.hid h
  obtain ⟨A, cap, c1, -, -⟩ := h.slice
  clear h
  go_enter Try.func60, Try.ntmps60
  go_wp2_with fail
  go_loopw [4, 5] (fun v j wr => CutRel w0 w B i rs v j wr) (fun _ j _ => rs.length - (intOf j).toNat)
  case atStart => exact ⟨0, by omega, rfl, RowsAt.nil _ _ _ _, Kp.refl _ _⟩
  case round =>
    clear c1
    obtain ⟨k, hk, rfl, hR, kk⟩ := hrel
    have hT := hH.out.kp kk
    obtain ⟨A', cap', d1, -, -⟩ := hT.slice
    have hcl := hT.1
    by_cases hkl : k < rs.length
    · obtain ⟨g, cap2, v, a, y, z, ev, e1, hrd0, -, hask, hev, -⟩ := hT.look hkl
      rw [d1] at e1
      simp only [Option.some.injEq, Value.slice.injEq] at e1
      obtain ⟨rfl, -, rfl⟩ := e1
      obtain ⟨ms, q1, q2⟩ := hR
      by_cases hki : k = i
      · subst hki
        have e2 : ((k : Int) != (k : Int)) = false := by simp
        have hfin := Lib.hid (cut_step_eq rs k hkl)
        have hR := Lib.hid (show RowsAt w0 wr B w.heap.size _ _ from ⟨ms, q1, q2⟩)
        clear q1 q2 hrd0
        go_wp2_with fail
        go_roundw
        case rel => exact ⟨k + 1, by omega, by go_num, by rw [hfin.out]; exact hR.out, kk⟩
        case measure => simp [intOf]; omega
      · have e2 : ((k : Int) != (i : Int)) = true := by simp; omega
        have hm : RowC w0 wr B (rowC rs[k] v a y z ev) rs[k] := ⟨_, _, _, _, _, rfl, hask, hev⟩
        have hfin := Lib.hid (cut_step_ne rs k i hkl hki)
        have hBs : w.heap.size ≤ wr.heap.size := kk.size
        have hml : ms.length ≤ 1000 := by
          have := q2.1
          have := List.length_eraseIdx_le (rs.take k) i
          simp at this
          omega
        have hmH := Lib.hid hm
        have q2H := Lib.hid q2
        clear hH hT hask hev hm q2
        have hrd : rdAt wr ⟨g, k * 12, none⟩ 12 = some #[.int .u32 rs[k].n, .int .u64 rs[k].owner, .int .i64 rs[k].ask.pin, v, a, y, z, .bool rs[k].ask.has, .int .i64 rs[k].ask.ld, .int .u32 rs[k].ask.li, ev, .int .u32 rs[k].used] := hrd0
        clear hrd0
        have ho1 : Hid (∀ u ∈ (#[.int .u32 rs[k].n, .int .u64 rs[k].owner, .int .i64 rs[k].ask.pin, v, a, y, z, .bool rs[k].ask.has, .int .i64 rs[k].ask.ld, .int .u32 rs[k].ask.li, ev, .int .u32 rs[k].used] : Array Value).toList, u.oneCell' = true) := by
          have := List.all_eq_true.1 hmH.out.one.2
          exact fun u hu => this u hu
        go_wp2_with (at_builtin; refine wp_append1 (W := wr) w.heap.size rfl (.tmp 18) (.tmp 26) 68 80 zC 12 176 rfl Try.underlying68 infoC rfl (by decide) _ ms.length ms.flatten #[.int .u32 rs[k].n, .int .u64 rs[k].owner, .int .i64 rs[k].ask.pin, v, a, y, z, .bool rs[k].ask.has, .int .i64 rs[k].ask.ld, .int .u32 rs[k].ask.li, ev, .int .u32 rs[k].used] rfl rfl rfl ho1.out q1.1 hBs (by omega) (by omega) ?_)
        intro v' w6 hown hg _
        have hR := rows_push q1 q2H.out hmH.out (by simpa [rowC] using hown) hg
        have k6 : Kp (fun _ => False) w w6 := kk.then_ (Kp.of_grown (S := fun i => w.heap.size ≤ i) hg (fun k hk => (q1.1.lt k hk).1)) (fun i h1 h2 => by omega)
        clear hrd hown hg ho1
        go_wp2_with fail
        go_roundw
        case rel => exact ⟨k + 1, by omega, by go_num, by rw [hfin.out]; exact hR, k6⟩
        case measure => simp [intOf]; omega
    · have hkE : k = rs.length := by omega
      subst hkE
      have e1 : decide (rs.length < rs.length) = false := by simp
      rw [List.take_length] at hR
      obtain ⟨v', hT1⟩ := RTab.blk hT
      have hfz := hT1.frozen 1
      have hTH := Lib.hid (And.intro hT hR)
      obtain ⟨A2, cap2, rfl⟩ := hR.form
      have hT1H := Lib.hid hT1
      clear hH hT hR hT1
      go_wp2_with fail
      have hfin := RTab.store hTH.out.1 hTH.out.2 kk.size hB
      go_end0
      exact ⟨rfl, hfin.1, (Kt.of_kp kk).trans hfin.2⟩
end Go.Proofs.Ytcamhpjgpjihhaa
