/- The reference's table (lodestarref16): Ask, Keep, Ack by contracts. -/
import Derived.Test.YtnjkoapkgoiljaaDedup
import Derived.Test.YtnjkoapkgoiljaaRd
import Derived.Test.YtnjkoapkgoiljaaApd
import Derived.Deep.AppendLies
import Derived.Deep.RegionLaw
import Derived.Test.YtnjkoapkgoiljaaSame2
namespace Go.Proofs.Ytnjkoapkgoiljaa
open Go.RowKit
attribute [local go_sem ↓] load67 store67 alloc67 build67 build67_5 build67_14 build67_5c build67_14c
attribute [local go_sem] rowOf_new rowOf_drew rowOf_setCell setRow_alloc isPtr0_ptr blkOf_ptr isAggV_agg cells_agg zMsg_size zMsg_one mset_size mset_one mset5 mset21 isU32_int

/-- The reference's table lies at c: its messages' cells ms, in a row of the call's own (from base on) that v holds. -/
def R16 (w : World) (base c : Nat) (v : Value) (ms : List (List Value)) (acked : Int) : Prop :=
  Blk w c #[v, .int .i64 acked] 81 ∧ w.ownsRow base 67 28 v ms.length ms.flatten ∧ ∀ m ∈ ms, m.length = 28

theorem R16.nec {w : World} {base c : Nat} {v : Value} {ms : List (List Value)} {acked : Int} (h : R16 w base c v ms acked) : ∀ g, v.ownBlock = some g → g ≠ c := own_ne_blk h.2.1 h.1 (by decide)
theorem R16.kp {S : Nat → Prop} {w w' : World} {base c : Nat} {v : Value} {ms : List (List Value)} {acked : Int} (h : R16 w base c v ms acked) (k : Kp S w w') (hc : ¬ S c) (hv : ∀ g, v.ownBlock = some g → ¬ S g) : R16 w' base c v ms acked :=
  ⟨h.1.kp k hc, own_kp h.2.1 k hv, h.2.2⟩
theorem R16.kp0 {w w' : World} {base c : Nat} {v : Value} {ms : List (List Value)} {acked : Int} (h : R16 w base c v ms acked) (k : Kp (fun _ => False) w w') : R16 w' base c v ms acked := h.kp k id fun _ _ => id

theorem R16.slice {w : World} {base c : Nat} {v : Value} {ms : List (List Value)} {acked : Int} (h : R16 w base c v ms acked) : ∃ A cap, v = .slice A ms.length cap := by
  rcases h.2.1.2 with ⟨rfl, h0⟩ | ⟨g, cap, cur, rfl, _⟩
  · exact ⟨none, 0, by rw [h0]⟩
  · exact ⟨_, _, rfl⟩

theorem flat_get : ∀ (ms : List (List Value)) (i j : Nat) (c : Nat) (_ : ∀ m ∈ ms, m.length = c) (hi : i < ms.length) (_ : j < c), ms.flatten[i * c + j]? = ms[i][j]?
  | [], i, j, c, _, hi, _ => by simp at hi
  | m :: ms, i, j, c, h, hi, hj => by
    have hm : m.length = c := h m (by simp)
    cases i with
    | zero => simp [List.getElem?_append_left (show j < m.length by omega)]
    | succ i =>
      have := flat_get ms i j c (fun m' h' => h m' (by simp [h'])) (by simpa using hi) hj
      rw [List.flatten_cons, List.getElem?_append_right (by rw [hm, Nat.add_mul]; omega), hm]
      rw [show (i + 1) * c + j - c = i * c + j by rw [Nat.add_mul]; omega, this]
      simp

theorem R16.at {w : World} {base c : Nat} {v : Value} {ms : List (List Value)} {acked : Int} (h : R16 w base c v ms acked) (i : Nat) (hi : i < ms.length) :
    ∃ g cap, v = .slice (some ⟨g, 0, none⟩) ms.length cap ∧ rdAt w ⟨g, i * 28, none⟩ 28 = some ms[i].toArray := by
  rcases h.2.1.2 with ⟨rfl, h0⟩ | ⟨g, cap, cur, rfl, _, hg, _, _, hcs, htk⟩
  · omega
  · refine ⟨g, cap, rfl, ?_⟩
    have hl : ms[i].length = 28 := h.2.2 _ (List.getElem_mem hi)
    have := rdAt_of (w := w) (a := ⟨g, i * 28, none⟩) (es := ms[i]) (fun j hj => by
      rw [add_form, (show Blk w g cur 67 from hg).cell (i * 28 + j)]
      rw [← flat_get ms i j 28 h.2.2 hi (by omega), ← htk]
      rw [List.getElem?_take_of_lt (by omega)]
      simp)
    rwa [hl] at this

theorem load67at (ρ : Operand → Value) (dst : Option Tmp) (x : Operand) (ty : TypeId) (pos : String) (after : Array Edge) (gd : Option (Nat × Bool)) (w : World)
    (hp : isPtrA (ρ x) = true) (h : (rdAt w (adrOf (ρ x)) 28).isSome = true) : (execOp ρ ⟨dst, .load 67 x, ty, pos, after, gd⟩).run Try.prog w = .ok (.value (.agg ((rdAt w (adrOf (ρ x)) 28).getD #[]))) w :=
  ex_load_at (P := Try.prog) Try.underlying67 rfl (by kernel_rfl) ρ dst x ty pos after gd w hp h

theorem r16_ack (base c : Nat) (v : Value) (ms : List (List Value)) (acked n : Int) (w : World) (h : R16 w base c v ms acked) (hn : n ≤ ms.length) (h0 : 0 ≤ acked) (h1 : 0 ≤ n) :
    Calls Try.prog 40 #[.pointer (some ⟨c, 0, none⟩), .int .i64 n] w fun e w' => e = .returned (.int .i64 0) ∧ R16 w' base c v ms (if acked < n then n else acked) ∧ Kp (fun k => k = c) w w' := by
  obtain ⟨A, cap, rfl⟩ := h.slice
  have c0 : w.cell? ⟨c, 0, none⟩ = some (.slice A ms.length cap) := (h.1.cell 0).trans rfl
  have c1 : w.cell? ⟨c, 1, none⟩ = some (.int .i64 acked) := (h.1.cell 1).trans rfl
  have f1 := h.1.frozen 1
  have hne := h.nec
  have hK : ∀ u, Kp (fun k => k = c) w (w.setCell ⟨c, 1, none⟩ u) := fun u => (Kp.refl _ _).set1 1 u
  have hR : ∀ a : Int, R16 (w.setCell ⟨c, 1, none⟩ (.int .i64 a)) base c (.slice A ms.length cap) ms a := fun a =>
    ⟨h.1.set 1 _, own_kp h.2.1 (hK _) hne, h.2.2⟩
  have e1 : ¬ (ms.length : Int) < n := by omega
  have hKn := Lib.hid (hK (.int .i64 n))
  have hKa := Lib.hid (hK (.int .i64 acked))
  have hRn := Lib.hid (hR n)
  have hRa := Lib.hid (hR acked)
  clear hR hK hne h
  by_cases hc : acked < n
  · go_enter Try.func40, Try.ntmps40
    go_wp2
    go_ret
    exact ⟨rfl, hRn.out, hKn.out⟩
  · have hc2 : n ≤ acked := by omega
    go_enter Try.func40, Try.ntmps40
    go_wp2
    go_ret
    exact ⟨rfl, hRa.out, hKa.out⟩

theorem r16_ack_arg (base c : Nat) (v : Value) (ms : List (List Value)) (acked n : Int) (w : World) (h : R16 w base c v ms acked) (hn : (ms.length : Int) < n) :
    Calls Try.prog 40 #[.pointer (some ⟨c, 0, none⟩), .int .i64 n] w fun e w' => e = .returned (.int .i64 1) ∧ w = w' := by
  obtain ⟨A, cap, rfl⟩ := h.slice
  have c0 : w.cell? ⟨c, 0, none⟩ = some (.slice A ms.length cap) := (h.1.cell 0).trans rfl
  clear h
  go_enter Try.func40, Try.ntmps40
  go_wp2
  go_ret
  exact ⟨rfl, rfl⟩

theorem r16_ask_no (base c : Nat) (v : Value) (ms : List (List Value)) (acked req : Int) (n : Int) (w : World) (h : R16 w base c v ms acked)
    (hn : (req ≤ acked ∧ n = 3) ∨ (acked < req ∧ req = ms.length + 1 ∧ n = 1) ∨ (acked < req ∧ (ms.length : Int) + 1 < req ∧ n = 4)) (hm : ms.length < 1000) :
    Calls Try.prog 37 #[.pointer (some ⟨c, 0, none⟩), .int .i64 req] w fun e w' => e = .returned (.tuple #[.agg zMsg, .int .i64 n]) ∧ Kp (fun _ => False) w w' := by
  obtain ⟨A, cap, rfl⟩ := h.slice
  have c0 : ∀ o, (w.alloc o).cell? ⟨c, 0, none⟩ = some (.slice A ms.length cap) := fun o => ((h.1.alloc o).cell 0).trans rfl
  have c1 : ∀ o, (w.alloc o).cell? ⟨c, 1, none⟩ = some (.int .i64 acked) := fun o => ((h.1.alloc o).cell 1).trans rfl
  clear h
  rcases hn with ⟨h1, rfl⟩ | ⟨h1, rfl, rfl⟩ | ⟨h1, h2, rfl⟩
  · go_enter Try.func37, Try.ntmps37
    go_wp2
    refine bodyPost_ret (v := .tuple #[.agg zMsg, .int .i64 3]) (results_struct_tmp (P := Try.prog) (n := 28) rfl Try.underlying67 rfl (by kernel_rfl) (by decide) rfl rfl (rowOf_new _ _ _) zMsg_size) rfl ⟨rfl, (Kp.refl _ _).alloc _⟩
  · have e1 : ((ms.length : Int) + 1 == (ms.length : Int) + 1) = true := by simp
    go_enter Try.func37, Try.ntmps37
    go_wp2
    refine bodyPost_ret (v := .tuple #[.agg zMsg, .int .i64 1]) (results_struct_tmp (P := Try.prog) (n := 28) rfl Try.underlying67 rfl (by kernel_rfl) (by decide) rfl rfl (rowOf_new _ _ _) zMsg_size) rfl ⟨rfl, (Kp.refl _ _).alloc _⟩
  · have e1 : (req == (ms.length : Int) + 1) = false := by simp; omega
    have e2 : ¬ req ≤ ms.length := by omega
    go_enter Try.func37, Try.ntmps37
    go_wp2
    refine bodyPost_ret (v := .tuple #[.agg zMsg, .int .i64 4]) (results_struct_tmp (P := Try.prog) (n := 28) rfl Try.underlying67 rfl (by kernel_rfl) (by decide) rfl rfl (rowOf_new _ _ _) zMsg_size) rfl ⟨rfl, (Kp.refl _ _).alloc _⟩

section
attribute [local go_sem ↓ high] load67at
attribute [local go_sem] isPtrA_ptr adrOf_ptr
theorem r16_ask_again (base c : Nat) (v : Value) (ms : List (List Value)) (acked : Int) (k : Nat) (hk : k < ms.length) (w : World) (h : R16 w base c v ms acked) (ha : acked < k + 1) (hm : ms.length < 1000) (h1 : oneB ms[k].toArray = true) (hc : c < w.heap.size) :
    Calls Try.prog 37 #[.pointer (some ⟨c, 0, none⟩), .int .i64 (k + 1)] w fun e w' => e = .returned (.tuple #[.agg ms[k].toArray, .int .i64 2]) ∧ Kp (fun _ => False) w w' := by
  obtain ⟨g, cap, rfl, hrd⟩ := h.at k hk
  have c0 : ∀ o, (w.alloc o).cell? ⟨c, 0, none⟩ = some (.slice (some ⟨g, 0, none⟩) ms.length cap) := fun o => ((h.1.alloc o).cell 0).trans rfl
  have c1 : ∀ o, (w.alloc o).cell? ⟨c, 1, none⟩ = some (.int .i64 acked) := fun o => ((h.1.alloc o).cell 1).trans rfl
  have hrd2 : rdAt (w.alloc (.cells zMsg 67)) ⟨g, k * 28, none⟩ 28 = some ms[k].toArray := rdAt_keeps hrd (Keeps.alloc _ _)
  have hsz : ms[k].toArray.size = 28 := by have := h.2.2 _ (List.getElem_mem hk); simpa using this
  have hlt : k < ms.length := hk
  clear h hrd
  generalize hms : ms[k].toArray = cs at *
  have hmm := Lib.hid hms
  clear hms
  have e1 : ¬ (k : Int) + 1 ≤ acked := by omega
  go_enter Try.func37, Try.ntmps37
  go_wp2
  refine bodyPost_ret (v := .tuple #[.agg cs, .int .i64 2]) (results_struct_tmp (P := Try.prog) (n := 28) rfl Try.underlying67 rfl (by kernel_rfl) (by decide) rfl rfl (rowOf_new _ _ _) hsz) rfl ⟨rfl, (Kp.refl _ _).alloc _⟩
end
theorem r16_keep_arg (base c : Nat) (v : Value) (ms : List (List Value)) (acked req : Int) (cs : Array Value) (w : World) (h : R16 w base c v ms acked) (hm : ms.length < 1000) (hr : req ≠ ms.length + 1) :
    Calls Try.prog 39 #[.pointer (some ⟨c, 0, none⟩), .int .i64 req, .agg cs] w fun e w' => e = .returned (.int .i64 1) ∧ Kp (fun _ => False) w w' := by
  obtain ⟨A, cap, rfl⟩ := h.slice
  have c0 : ∀ o, (w.alloc o).cell? ⟨c, 0, none⟩ = some (.slice A ms.length cap) := fun o => ((h.1.alloc o).cell 0).trans rfl
  have e1 : (req != (ms.length : Int) + 1) = true := by simpa using hr
  clear h
  go_enter Try.func39, Try.ntmps39
  go_wp2
  go_ret
  exact ⟨rfl, (Kp.refl _ _).alloc _⟩

theorem r16_keep_full (base c : Nat) (v : Value) (ms : List (List Value)) (acked : Int) (cs : Array Value) (w : World) (h : R16 w base c v ms acked) (hm : ms.length < 1000) (h0 : 0 ≤ acked) (hf : 16 ≤ (ms.length : Int) - acked) :
    Calls Try.prog 39 #[.pointer (some ⟨c, 0, none⟩), .int .i64 (ms.length + 1), .agg cs] w fun e w' => e = .returned (.int .i64 4) ∧ Kp (fun _ => False) w w' := by
  obtain ⟨A, cap, rfl⟩ := h.slice
  have c0 : (w.alloc (.cells cs 67)).cell? ⟨c, 0, none⟩ = some (.slice A ms.length cap) := ((h.1.alloc _).cell 0).trans rfl
  have c1 : (w.alloc (.cells cs 67)).cell? ⟨c, 1, none⟩ = some (.int .i64 acked) := ((h.1.alloc _).cell 1).trans rfl
  have e1 : ((ms.length : Int) + 1 != (ms.length : Int) + 1) = false := by simp
  have e3 : IntKind.i64.wrap ((ms.length : Int) - acked) = (ms.length : Int) - acked := IntWalk.i64_in _ ⟨by omega, by omega⟩
  have kk := (Kp.refl (fun _ => False) w).alloc (.cells cs 67)
  clear h
  go_enter Try.func39, Try.ntmps39
  go_wp2_with fail
  go_region_held3 (fun w' => w'.cell? ⟨c, 0, none⟩ = some (.slice A ms.length cap) ∧ w'.cell? ⟨c, 1, none⟩ = some (.int .i64 acked)) (first | exact ⟨c0, c1⟩ | go_keep) (fail)
  have kk := kk.drew
  clear e3
  go_wp2
  go_ret
  exact ⟨rfl, kk⟩

theorem rowOf_grown {w w' : World} {row : Option Nat} (h : w.grownBy w' row) (g : Nat) (hg : g < w.heap.size) (hn : row ≠ some g) : rowOf w' g = rowOf w g := by
  unfold rowOf
  rw [h.block g hg (fun e => hn e.symm)]

theorem info67 : (Try.prog.info? 67).map (fun i => (i.zero, i.size, i.bytes)) = some (some (.agg zMsg), 28, 320) := by kernel_rfl

theorem r16_keep (base c : Nat) (v : Value) (ms : List (List Value)) (acked : Int) (m : List Value) (w : World) (h : R16 w base c v ms acked) (hm : ms.length < 1000) (h0 : 0 ≤ acked) (ha : acked ≤ ms.length) (hf : (ms.length : Int) - acked < 16) (hml : m.length = 28) (h1 : oneB m.toArray = true) (hbase : base ≤ w.heap.size) :
    Calls Try.prog 39 #[.pointer (some ⟨c, 0, none⟩), .int .i64 (ms.length + 1), .agg m.toArray] w fun e w' => e = .returned (.int .i64 0) ∧ ∃ v', R16 w' base c v' (ms ++ [m]) acked ∧ Kp (fun k => k = c ∨ v.ownBlock = some k) w w' ∧ ∀ g, v'.ownBlock = some g → v.ownBlock = some g ∨ w.heap.size ≤ g := by
  obtain ⟨i0, hi0, hz0, hz1, hz2⟩ := info_parts info67
  have hI := Lib.hid (And.intro hi0 (And.intro hz0 (And.intro hz1 hz2)))
  clear hi0 hz0 hz1 hz2
  have hc := h.1.lt
  have hne := Lib.hid h.nec
  have hown := Lib.hid h.2.1
  have h28 := Lib.hid h.2.2
  have hB := h.1
  obtain ⟨A, cap, hv⟩ := h.slice
  subst hv
  have c0 : (w.alloc (.cells m.toArray 67)).cell? ⟨c, 0, none⟩ = some (.slice A ms.length cap) := ((h.1.alloc _).cell 0).trans rfl
  have c1 : (w.alloc (.cells m.toArray 67)).cell? ⟨c, 1, none⟩ = some (.int .i64 acked) := ((h.1.alloc _).cell 1).trans rfl
  have e1 : ((ms.length : Int) + 1 != (ms.length : Int) + 1) = false := by simp
  have e3 : IntKind.i64.wrap ((ms.length : Int) - acked) = (ms.length : Int) - acked := IntWalk.i64_in _ ⟨by omega, by omega⟩
  have e4 : ¬ (16 : Int) ≤ (ms.length : Int) - acked := by omega
  have hcs : m.toArray.size = 28 := by simpa using hml
  have hml := Lib.hid hml
  clear h
  go_enter Try.func39, Try.ntmps39
  go_wp2_with fail
  go_region_held3 (fun w' => w'.cell? ⟨c, 0, none⟩ = some (.slice A ms.length cap) ∧ w'.cell? ⟨c, 1, none⟩ = some (.int .i64 acked)) (first | exact ⟨c0, c1⟩ | go_keep) (fail)
  clear e3 e1
  go_wp2_with fail
  have hR : rowOf (w.alloc (.cells m.toArray 67)) w.heap.size = m.toArray := rowOf_new _ _ _
  have hR2 : rowOf ((w.alloc (.cells m.toArray 67)).alloc (.cells m.toArray 67)) w.heap.size = m.toArray := (rowOf_alloc _ _ _ (by simp)).trans hR
  have c2 : ((w.alloc (.cells m.toArray 67)).alloc (.cells m.toArray 67)).cell? ⟨c, 0, none⟩ = some (.slice A ms.length cap) := (((hB.alloc _).alloc _).cell 0).trans rfl
  have f2 : ((w.alloc (.cells m.toArray 67)).alloc (.cells m.toArray 67)).frozen? ⟨c, 0, none⟩ = false := ((hB.alloc _).alloc _).frozen 0
  have hlen1 : m.length = 1 * 28 := by rw [hml.out]
  have hlen1 := Lib.hid hlen1
  have hnews : ∀ j u, m[j]? = some u → ((w.alloc (.cells m.toArray 67)).alloc (.cells m.toArray 67)).drew.drew.cell? ((⟨w.heap.size + 1, 0, none⟩ : Addr).add j) = some u := by
    have := World.news_of_block (w := ((w.alloc (.cells m.toArray 67)).alloc (.cells m.toArray 67)).drew.drew) (B := w.heap.size + 1) (cs := m.toArray) (t := 67) (fr := (0, 0)) (by have := Blk.new (w.alloc (.cells m.toArray 67)) m.toArray 67; rw [show (w.alloc (.cells m.toArray 67)).heap.size = w.heap.size + 1 by simp] at this; exact this)
    simpa using this
  have hnews := Lib.hid hnews
  have h1' : ∀ u ∈ m, u.oneCell' = true := by
    rw [oneB_lit] at h1
    exact fun u hu => List.all_eq_true.1 h1 u hu
  have h1' := Lib.hid h1'
  have hbase2 : base ≤ ((w.alloc (.cells m.toArray 67)).alloc (.cells m.toArray 67)).drew.drew.heap.size := by simp; omega
  have hnbox : (Value.slice A ms.length cap).ownBlock ≠ some w.heap.size := fun e => by have := (own_base' hown.out _ e).2; omega
  have hnbox := Lib.hid hnbox
  have hfold := fold_set zMsg m (by rw [zMsg_size]; exact hml.out.symm)
  unfold zMsg at hfold
  go_region_law
    ((refine step_append_lies _ (by rfl) _ _ _ (by rfl) base 67 i0 (.agg zMsg) 28 320 Try.underlying79 hI.out.1 hI.out.2.1 hI.out.2.2.1 hI.out.2.2.2 zMsg_size (by omega) (.slice A ms.length cap) ms.length ms.flatten (by rfl) (((hown.out.alloc _).alloc _).drew.drew)
        ⟨w.heap.size + 1, 0, none⟩ 1 1 m (by rfl) hlen1.out hnews.out h1'.out (by omega) (by simp only [maxLen]; omega) (by omega) hbase2 (w.heap.size + 2) (by simp) ?_; intro gg cap2 w1 hown1 hgrow hat hlt;
      have d0 := (hgrow.cell_far ⟨c, 0, none⟩ (by simp; omega) (fun e => hne.out c e.symm rfl)).trans c2;
      have d1 := (rowOf_grown hgrow w.heap.size (by simp; omega) hnbox.out).trans hR2;
      have d2 := (hgrow.frozen_far ⟨c, 0, none⟩ (by simp; omega) (fun e => hne.out c e.symm rfl)).trans f2))
  all_goals
    have hBw : Blk w1 c #[.slice A ms.length cap, .int .i64 acked] 81 := by
      have := hgrow.block c (by simp; omega) (fun e => hne.out c e.symm rfl)
      unfold Blk
      rw [this]
      exact ((hB.alloc _).alloc _)
    have hset := hBw.set 0 (.slice (some ⟨gg, 0, none⟩) (ms.length + 1) cap2)
    have kw : Kp (fun k => k = c ∨ (Value.slice A ms.length cap).ownBlock = some k) w w1 := by
      have k1 : Kp (fun k => k = c ∨ (Value.slice A ms.length cap).ownBlock = some k) w ((w.alloc (.cells m.toArray 67)).alloc (.cells m.toArray 67)).drew.drew := ((((Kp.refl _ _).alloc _).alloc _).drew).drew
      exact k1.trans (Kp.of_grown hgrow fun k hk => .inr hk)
    have kw2 := kw.setCell (p := ⟨c, 0, none⟩) (fun _ => .inl rfl) (.slice (some ⟨gg, 0, none⟩) (ms.length + 1) cap2)
    have hgc : gg ≠ c := own_ne_blk hown1 hBw (by decide) gg rfl
    have hfin : R16 (w1.setCell ⟨c, 0, none⟩ (.slice (some ⟨gg, 0, none⟩) (ms.length + 1) cap2)) base c (.slice (some ⟨gg, 0, none⟩) (ms.length + 1) cap2) (ms ++ [m]) acked := by
      refine ⟨hset, ?_, ?_⟩
      · have := own_kp hown1 (((Kp.refl (fun k => k = c) w1)).set1 0 (.slice (some ⟨gg, 0, none⟩) (ms.length + 1) cap2)) (fun g hg => by simp [Value.ownBlock] at hg; subst hg; exact hgc)
        simpa using this
      · intro m' hm'
        rcases List.mem_append.1 hm' with h | h
        · exact h28.out m' h
        · simp at h; subst h; exact hml.out
    have hat2 : ∀ g, (Value.slice (some ⟨gg, 0, none⟩) (ms.length + 1) cap2).ownBlock = some g → (Value.slice A ms.length cap).ownBlock = some g ∨ w.heap.size ≤ g := fun g hg => by
      simp only [Value.ownBlock, Option.some.injEq] at hg
      subst hg
      rcases hat with h | h
      · exact .inl h
      · exact .inr (by omega)
    have hall := Lib.hid (And.intro hfin (And.intro kw2 hat2))
    clear hfin kw2 hat2 kw hset hBw hgc hat hgrow hown1
    go_wp2
    go_ret
    exact ⟨rfl, _, hall.out⟩
end Go.Proofs.Ytnjkoapkgoiljaa
