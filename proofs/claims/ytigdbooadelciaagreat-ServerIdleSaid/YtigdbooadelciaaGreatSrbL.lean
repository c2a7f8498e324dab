/- slices.Sorted(maps.Keys(m)) at keys of the kind u64: maps.Keys, its iterator, slices.AppendSeq, slices.Collect. (Printed by gen_sorted.py, a program of this session's own.) -/
import Derived.Test.YtigdbooadelciaaGreatKt
import Derived.Test.YtigdbooadelciaaGreatIt
import Derived.Test.YtigdbooadelciaaGreatStrs
import Derived.Test.YtigdbooadelciaaGreatItw
import Derived.RangeFuncBox
import Derived.RangeFuncLeaves
import Derived.Shelf.Abstract
import Derived.WalkKit
import Derived.OwnWalkIn
import Derived.TacticsInMore
import Derived.LoopNIn
import Derived.LoopIn
import Derived.Maps.AppendAt
import Derived.Test.YtigdbooadelciaaGreatShelf
import Derived.BigRegion
namespace Go.Proofs.YtigdbooadelciaaGreat
set_option linter.unusedVariables false
set_option linter.unusedSimpArgs false
open Go.RowKit Go.Shelf
attribute [local go_sem] Oper.semAt_some

def kvKL (n : Int) : Value := .int .u64 n
theorem infoKL : (Tryz.prog.info? 40).map (fun i => (i.zero, i.size, i.bytes)) = some (some (.int .u64 0), 1, 8) := by kernel_rfl

open Classical in
/-- How many are still to come, read off the world. -/
noncomputable def leftKL (b r : Nat) (m : List (Int × Value)) (W : World) : Nat := if h : ∃ left, IterAt W b r kvKL m left then (Classical.choose h).length else 0
theorem leftK_eqL {W : World} {b r : Nat} {m left : List (Int × Value)} (h : IterAt W b r kvKL m left) : leftKL b r m W = left.length := by
  have hex : ∃ left, IterAt W b r kvKL m left := ⟨left, h⟩
  unfold leftKL
  rw [dif_pos hex]
  have key : ∀ {l1 l2 : List (Int × Value)}, IterAt W b r kvKL m l1 → IterAt W b r kvKL m l2 → l1.length = l2.length := by
    rintro l1 l2 ⟨es, clock, since, seen, c0, L, h0, h1, h2, h3, h4, h5, h6, h7, h8, h9, h10, rfl⟩ ⟨es', clock', since', seen', c0', L', h0', h1', h2', h3', h4', h5', h6', h7', h8', h9', h10', rfl⟩
    rw [h0] at h0'
    rw [h7] at h7'
    simp only [Option.some.injEq, Obj.map.injEq, Obj.mapIter.injEq] at h0' h7'
    obtain ⟨rfl, rfl⟩ := h0'
    obtain ⟨-, rfl, rfl, rfl⟩ := h7'
    have e : ∀ (L : List (MapEntry × (Int × Value))), ((L.filter fun x => !seen.contains x.1.born).map (·.2)).length = ((L.map (·.1)).filter fun x => !seen.contains x.born).length := by
      intro L
      rw [List.length_map, List.filter_map, List.length_map]
      rfl
    rw [e L, e L', h1, h1']
  exact key (Classical.choose_spec hex) h

set_option maxRecDepth 100000 in
set_option maxHeartbeats 2000000 in
theorem keys1_inL (F : Fence) (n : Nat) (hf : F.fn 84) (hro : F.round = none) (hn : 1 ≤ n) (l Bm b : Nat) (m : List (Int × Value)) (J Jx : List Int → World → Prop)
    (hY : ∀ pre x W, J pre W → pre.length < m.length → YieldAt F (n - 1) Tryz.prog l #[kvKL x] W fun e W' =>
      (e = .returned (.bool true) ∧ J (pre ++ [x]) W' ∧ KeepsWalks W W') ∨ (e = .returned (.bool false) ∧ Jx (pre ++ [x]) W'))
    (W : World) (hJ : AbidesFrom W.heap.size J) (hm : W.cell? ⟨Bm, 0, none⟩ = some (.map (some b))) (hown : MapAt W b kvKL m) (h0 : J [] W) :
    CallsIn F n Tryz.prog 84 #[.func (.yield l) #[] #[], .pointer (some ⟨Bm, 0, none⟩)] W fun e W' => (∃ v, e = .returned v) ∧
      ((∃ ss, ss.Perm (m.map (·.1)) ∧ J ss W') ∨ (∃ pre, True ∧ Jx pre W')) := by
  obtain ⟨w0, hrun, hI0, hk0, hs0⟩ := hown.range (P := Tryz.prog) (t := 110) Tryz.underlying110
  have hJ0 : J [] w0 := hJ [] W w0 none h0 ⟨hk0.os, hk0.tape, hk0.output, hk0.size, fun i hi _ => hk0.block i hi id⟩ (fun r e => by cases e)
  have hI0' := Lib.hid hI0
  clear hI0 hk0 hs0
  dsimp only [kvKL] at hY
  refine callsIn_of_wp Tryz.func84 rfl hf ?_ hro
  simp only [Tryz.ntmps84, List.size_toArray, List.length_cons, List.length_nil, Nat.reduceAdd, Nat.reduceSub, Array.replicate_succ, Array.replicate_zero, List.push_toArray, List.append_toArray, List.nil_append, List.cons_append]
  gi_wp2
  gi_loopw [3] (fun _ wr => ∃ (left : List (Int × Value)) (ss : List Int), IterAt wr b W.heap.size kvKL m left ∧ (ss ++ left.map (·.1)).Perm (m.map (·.1)) ∧ J ss wr)
    (fun _ wr => leftKL b W.heap.size m wr)
  case atStart => exact ⟨m, [], hI0'.out, by simp, hJ0⟩
  case round =>
    clear hrun
    obtain ⟨left, ss, hI, hP, hJs⟩ := hrel
    have hlen : ss.length + left.length = m.length := by have := hP.length_eq; simpa using this
    rcases hI.next (P := Tryz.prog) 0 with ⟨rfl, hnext⟩ | ⟨p, left', w2, hperm, hnext, hI2, hk2, hs2, hentry⟩
    · gi_wp2
      go_end0
      exact ⟨⟨_, rfl⟩, .inl ⟨ss, by simpa using hP, hJs⟩⟩
    · have hl2 : left.length = left'.length + 1 := by have := hperm.length_eq; simpa using this
      have hJ2 : J ss w2 := hJ ss wr w2 (some W.heap.size) hJs hk2.grownBy (fun r e => by cases e; exact ⟨Nat.le_refl _, hI.isWalk⟩)
      have hP2 : ((ss ++ [p.1]) ++ left'.map (·.1)).Perm (m.map (·.1)) := by
        refine List.Perm.trans ?_ hP
        rw [List.append_assoc]
        exact List.Perm.append_left ss (by simpa using (hperm.map (·.1)).symm)
      obtain ⟨fn, tmps, assign, body, hy, hR⟩ := hY ss p.1 w2 hJ2 (by omega)
      dsimp only [kvKL] at hnext hentry
      have hIL := Lib.hid hI
      have hI2 := Lib.hid hI2
      have hP2 := Lib.hid hP2
      clear hI hP hperm hk2 hs2
      gi_wp2
      refine hR.mono ?_
      rintro e W3 (⟨rfl, hJ3, hk3⟩ | ⟨rfl, hJx3⟩)
      · gi_wp2
        have hI3 := hI2.out.walks hk3
        go_roundw
        case rel => exact ⟨left', ss ++ [p.1], hI3, hP2.out, hJ3⟩
        case measure => rw [leftK_eqL hI3, leftK_eqL hIL.out]; omega
      · gi_wp2
        refine bodyPost_ret (results_none rfl _ _ _) rfl ?_
        exact ⟨⟨_, rfl⟩, .inr ⟨ss ++ [p.1], trivial, hJx3⟩⟩

theorem keys_stopsL (F : Fence) (n : Nat) (hf : F.fn 84) (hro : F.round = none) (hn : 1 ≤ n) (Bm b : Nat) (m : List (Int × Value)) (w : World) (hBm : Bm < w.heap.size)
    (hm : w.cell? ⟨Bm, 0, none⟩ = some (.map (some b))) (hown : MapAt w b kvKL m) :
    SeqStopsK F n Tryz.prog 84 #[.pointer (some ⟨Bm, 0, none⟩)] (fun x : Int => #[Value.int .u64 x]) KeepsWalks (fun ss => ss.Perm (m.map (·.1))) (fun _ => True) m.length w := fun l J Jx W hW hJ _ hY h0 =>
  keys1_inL F n hf hro hn l Bm b m J Jx hY W hJ ((hW.cell (p := ⟨Bm, 0, none⟩) hBm).trans hm) (hown.of_block (hW.block b hown.lt)) h0

theorem prog_keysL (b : Nat) (w : World) :
    Calls Tryz.prog 51 #[.map (some b)] w fun e w' => e = .returned (.func (.func 84) #[] #[.pointer (some ⟨w.heap.size, 0, none⟩)]) ∧ w' = w.alloc (.cells #[.map (some b)] 110) := by
  go_enter Tryz.func51, Tryz.ntmps51
  go_wp2
  go_ret
  exact ⟨rfl, rfl⟩

def CollPostL (w : World) (m : List (Int × Value)) (e : Ending) (W' : World) : Prop := ∃ (v : Value) (ss : List Int), e = .returned v ∧ ss.Perm (m.map (·.1)) ∧ W'.ownsRow w.heap.size 40 1 v ss.length (ss.map kvKL) ∧ (ss = [] → v = .slice none 0 0) ∧ Below w.heap.size w W'

set_option maxRecDepth 100000 in
set_option maxHeartbeats 2000000 in
theorem appendSeq_inL (F : Fence) (n : Nat) (h11 : F.fn 135) (hf : F.fn 84) (hro : F.round = none) (hn : 3 ≤ n) (Bm b : Nat) (m : List (Int × Value)) (hlen : m.length ≤ 1000000) (w : World) (hBm : Bm < w.heap.size)
    (hm : w.cell? ⟨Bm, 0, none⟩ = some (.map (some b))) (hown : MapAt w b kvKL m) :
    CallsIn F n Tryz.prog 135 #[.slice none 0 0, .func (.func 84) #[] #[.pointer (some ⟨Bm, 0, none⟩)]] w (CollPostL w m) := by
  have h1 : 1 ≤ n := by omega
  obtain ⟨i0, hi, hz0, hz1, hz2⟩ := info_parts infoKL
  refine callsIn_of_wp_marks Tryz.func135 rfl h11 ?_ hro
  simp only [Tryz.ntmps135, List.size_toArray, List.length_cons, List.length_nil, Nat.reduceAdd, Nat.reduceSub, Array.replicate_succ, Array.replicate_zero, List.push_toArray, List.append_toArray, List.nil_append, List.cons_append]
  gi_wp2
  have bO := Boxed.new w 87 (.slice none 0 0)
  have hB0 : Below w.heap.size w (w.alloc (.cells #[.slice none 0 0] 87)) := (Below.refl _ w).alloc (Nat.le_refl _) _
  refine wpIn_rangeFunc_ownG hro h1 (gf := 84) (lb := #[.pointer (some ⟨Bm, 0, none⟩)]) rfl hf (enters_of Tryz.func84 (by kernel_rfl) rfl)
    (keys_stopsL F (n - 1) hf hro (by omega) Bm b m (w.alloc (.cells #[.slice none 0 0] 87)) (by simp; omega) (((Kp.refl (fun _ => False) w).alloc _).cell0 hm) (hown.alloc _)) walksK_t walksK_b (Below.refl _ _) (fun _ => rfl)
    (fun pre W => (∃ v, Boxed W w.heap.size 87 v ∧ W.ownsRow w.heap.size 40 1 v pre.length (pre.map kvKL) ∧ (pre = [] → v = .slice none 0 0)) ∧ Below w.heap.size w W)
    (fun _ _ _ => False)
    (OwnFrom.and (Own.from (holdsRow_own w.heap.size w.heap.size 87 40 1 (fun pre : List Int => pre.length) (fun pre => pre.map kvKL) (fun pre v => pre = [] → v = .slice none 0 0)) _) (ownFrom_below (Nat.le_refl _) (by simp)))
    (fun _ _ _ _ _ hs _ _ => hs)
    ⟨⟨_, bO, World.ownsRow_nil _ _ _ _, fun _ => rfl⟩, hB0⟩
    (fun x => { tmps := #[.slice none 0 0, .func (.func 84) #[] #[.pointer (some ⟨Bm, 0, none⟩)], .pointer (some ⟨w.heap.size, 0, none⟩), undef, .slice none 0 0, .int .u64 x, .func (.func 84) #[] #[.pointer (some ⟨Bm, 0, none⟩)], .int .u64 x, undef, undef, undef, undef, undef], defers := [] }) ?assign ?body ?done ?stop
  case assign =>
    intro l x W K hK
    gi_wp2
    exact hK
  case body =>
    rintro l pre x W ⟨⟨v, hv, hrow, -⟩, hB⟩ hlt
    have hc := hv.cell
    gi_wp2_with (gi_at_builtin; refine wpListIn_append_own _ rfl _ _ 87 rfl w.heap.size 40 i0 (.int .u64 0) 1 8 Tryz.underlying87 hi hz0 hz1 hz2 rfl (by decide) _ _ _ rfl (hrow.alloc _) ⟨W.heap.size, 0, none⟩ 1 1 [.int .u64 x] rfl rfl (cell_one_new _ _ _) (by simp [Value.oneCell']) (by simp only [maxLen]; omega) (by omega) (by have := hB.size; simp; omega) ?_; intro v' w1 hown' hgrow _; obtain ⟨g', cap', rfl⟩ := ownsRow_succ hown'; obtain ⟨hv1, hv2, hr2, hk2, hb2⟩ := hv.appended (by decide) hrow hB.size (Nat.le_refl _) hown' hgrow; have hc1 := hv1.cell; have hf1 := hv1.frozen)
    exact ⟨hk2.from _, hk2.walks, ⟨_, hv2, by simpa [kvKL] using hr2, fun e => by simp at e⟩, hB.trans hb2⟩
  case done =>
    rintro D ys W hD hP ⟨⟨v, hv, hrow, hnl⟩, hB⟩ hK
    have hc := hv.cell
    gi_wp2
    refine ⟨by simp, .inl ⟨_, _, rfl, run_takeDeferred hK, ?_⟩⟩
    exact ⟨_, results_tmp rfl _ _ _, v, ys, rfl, hP, ownsRow_putObj hrow _ hK rfl, hnl, hB.trans (belowK_b (w := w) (Nat.le_refl _) W D _ _ (by simp at hD; omega) hK rfl rfl)⟩
  case stop =>
    rintro D c pre W _ _ h _
    exact h.elim

/-- slices.Collect(maps.Keys(m)). -/
theorem prog_collectL (Bm b : Nat) (m : List (Int × Value)) (hlen : m.length ≤ 1000000) (w : World) (hBm : Bm < w.heap.size) (hm : w.cell? ⟨Bm, 0, none⟩ = some (.map (some b))) (hown : MapAt w b kvKL m) :
    Calls Tryz.prog 82 #[.func (.func 84) #[] #[.pointer (some ⟨Bm, 0, none⟩)]] w (CollPostL w m) := by
  have hA := (callsIn_wide (n := 6)).1 (appendSeq_inL Fence.wide 6 trivial trivial rfl (by omega) Bm b m hlen w hBm hm hown)
  have hA := Lib.hid hA
  clear hm hown
  go_enter Tryz.func82, Tryz.ntmps82
  go_wp2_with fail
  refine hA.out.mono ?_
  rintro e w' ⟨v, ss, rfl, h1, h2, h4, h3⟩
  go_wp2_with fail
  go_ret
  exact ⟨v, ss, rfl, h1, h2, h4, h3⟩
end Go.Proofs.YtigdbooadelciaaGreat
namespace Go.Proofs.YtigdbooadelciaaGreat
set_option linter.unusedVariables false
set_option linter.unusedSimpArgs false
open Go.RowKit

theorem less_numL (x y : Int) (w : World) : Calls Tryz.prog 197 #[.int .u64 x, .int .u64 y] w fun e w' => e = .returned (.bool (decide (x < y))) ∧ w' = w := by
  have hnan : ∀ x w, Calls Tryz.prog 262 #[.int .u64 x] w fun e w' => e = .returned (.bool false) ∧ w' = w := by
    intro x w
    have e0 : (x != x) = false := by simp
    go_enter Tryz.func262, Tryz.ntmps262
    go_wp2_with fail
    go_ret
    exact ⟨rfl, rfl⟩
  have hn := Lib.hid hnan
  clear hnan
  go_enter Tryz.func197, Tryz.ntmps197
  go_wp2_with fail
  refine (hn.out _ _).mono ?_
  rintro e w1 ⟨rfl, rfl⟩
  go_wp2_with fail
  go_ret
  exact ⟨rfl, rfl⟩

def gNL (l : List Int) (i : Nat) : Int := l.getD i 0
theorem gN_setL {l : List Int} {i j : Nat} {v : Int} (hi : i < l.length) : gNL (l.set i v) j = if j = i then v else gNL l j := by
  unfold gNL
  by_cases h : j = i
  · subst h; simp [List.getD, hi]
  · simp [List.getD, List.getElem?_set, h, Ne.symm h]
theorem gN_getL {l : List Int} {i : Nat} (hi : i < l.length) : l[i] = gNL l i := by simp [gNL, List.getD, hi]

/-- Of the first i + 1 all but place j are in order with what is ahead of them. -/
def InsIL (l : List Int) (i j : Nat) : Prop := ∀ p q, p < q → q ≤ i → q ≠ j → gNL l p ≤ gNL l q
def SrtIL (l : List Int) (i : Nat) : Prop := ∀ p q, p < q → q < i → gNL l p ≤ gNL l q

theorem insI_swapL {l : List Int} {i j : Nat} (h : InsIL l i j) (hj : 0 < j) (hji : j ≤ i) (hi : i < l.length) (hl : gNL l j < gNL l (j - 1)) : InsIL ((l.set j (gNL l (j - 1))).set (j - 1) (gNL l j)) i (j - 1) := by
  intro p q hpq hqi hne
  have hj1 : j - 1 < (l.set j (gNL l (j - 1))).length := by rw [List.length_set]; omega
  have hj2 : j < l.length := by omega
  rw [gN_setL hj1, gN_setL hj1, gN_setL hj2, gN_setL hj2, if_neg hne]
  by_cases hq : q = j
  · subst hq
    rw [if_pos rfl]
    by_cases hp : p = q - 1
    · rw [if_pos hp]; omega
    · rw [if_neg hp, if_neg (by omega)]
      exact h p (q - 1) (by omega) (by omega) (by omega)
  · rw [if_neg hq]
    by_cases hp1 : p = j - 1
    · rw [if_pos hp1]
      exact h j q (by omega) hqi hq
    · rw [if_neg hp1]
      by_cases hp2 : p = j
      · rw [if_pos hp2]
        exact h (j - 1) q (by omega) hqi hq
      · rw [if_neg hp2]
        exact h p q hpq hqi hq
theorem insI_endL {l : List Int} {i j : Nat} (h : InsIL l i j) (hend : j = 0 ∨ gNL l (j - 1) ≤ gNL l j) : SrtIL l (i + 1) := by
  intro p q hpq hqi
  by_cases hq : q = j
  · subst hq
    rcases hend with h0 | h0
    · omega
    · by_cases hp : p = q - 1
      · rw [hp]; exact h0
      · have := h p (q - 1) (by omega) (by omega) (by omega)
        omega
  · exact h p q hpq (by omega) hq
theorem srtI_pairL {l : List Int} (h : SrtIL l l.length) : l.Pairwise (· ≤ ·) := by
  rw [List.pairwise_iff_getElem]
  intro p q hp hq hpq
  rw [gN_getL hp, gN_getL hq]
  exact h p q hpq hq

theorem swap_permL {l : List Int} {i j : Nat} (hi : i < l.length) (hj : j < l.length) : ((l.set j (gNL l i)).set i (gNL l j)).Perm l := by
  rw [← gN_getL hi, ← gN_getL hj]
  exact List.set_set_perm hj hi

def RowZL (w : World) (base g n cap : Nat) (l : List Int) : Prop := w.ownsRow base 40 1 (.slice (some ⟨g, 0, none⟩) n cap) n (l.map kvKL) ∧ l.length = n

theorem RowZL.cell {w : World} {base g n cap : Nat} {l : List Int} (h : RowZL w base g n cap l) {j : Nat} (hj : j < n) : w.cell? ⟨g, j, none⟩ = some (.int .u64 (gNL l j)) := by
  rw [h.1.cellAt j (by omega)]
  have : j < l.length := by rw [h.2]; exact hj
  simp [this, kvKL, gNL, List.getD]
theorem RowZL.drewN {w : World} {base g n cap : Nat} {l : List Int} (h : RowZL w base g n cap l) (k : Nat) : RowZL (w.drewN k) base g n cap l := h
theorem RowZL.set {w : World} {base g n cap : Nat} {l : List Int} (h : RowZL w base g n cap l) {j : Nat} (hj : j < n) (v : Int) : RowZL (w.setCell ⟨g, j, none⟩ (.int .u64 v)) base g n cap (l.set j v) := by
  refine ⟨?_, by simpa using h.2⟩
  have := (h.1.stored j (.int .u64 v)).1
  rw [List.map_set]
  exact this

def OutIL (w : World) (base g n cap : Nat) (ss : List Int) (i : Value) (wr : World) : Prop := ∃ (k : Nat) (l : List Int), 1 ≤ k ∧ (k ≤ n ∨ k = 1) ∧ i = .int .i64 k ∧ l.Perm ss ∧ SrtIL l k ∧ RowZL wr base g n cap l ∧ Kp (fun i => i = g) w wr
def InIL (w : World) (base g n cap k : Nat) (ss : List Int) (j : Value) (wr : World) : Prop := ∃ (i : Nat) (l : List Int), i ≤ k ∧ j = .int .i64 i ∧ l.Perm ss ∧ InsIL l k i ∧ RowZL wr base g n cap l ∧ Kp (fun i => i = g) w wr

def SortedPostL (w : World) (base g n cap : Nat) (ss : List Int) (e : Ending) (w' : World) : Prop := e = .returned (.tuple #[]) ∧ ∃ l : List Int, l.Perm ss ∧ l.Pairwise (· ≤ ·) ∧ RowZL w' base g n cap l ∧ Kp (fun i => i = g) w w'

set_option maxHeartbeats 2000000 in
theorem ins_sortL (base g n cap : Nat) (ss : List Int) (w : World) (h : RowZL w base g n cap ss) (hn : n ≤ 1000000) :
    Calls Tryz.prog 191 #[.slice (some ⟨g, 0, none⟩) n cap, .int .i64 0, .int .i64 n] w (SortedPostL w base g n cap ss) := by
  have kk := Kp.refl (fun i => i = g) w
  go_enter Tryz.func191, Tryz.ntmps191
  go_wp2_with fail
  go_loopw [6] (fun i wr => OutIL w base g n cap ss i wr) (fun i _ => n + 1 - (intOf i).toNat)
  case atStart => exact ⟨1, ss, by omega, .inr rfl, rfl, List.Perm.refl _, fun p q h1 h2 => by omega, h, kk⟩
  case round =>
    clear kk h
    obtain ⟨k, l, hk1, hkn, rfl, hP, hS, hR, kk⟩ := hrel
    by_cases hlt : k < n
    · have hI : InsIL l k k := fun p q h1 h2 h3 => hS p q h1 (by omega)
      have hPH := Lib.hid hP
      have hIH := Lib.hid hI
      have hRH := Lib.hid hR
      clear hP hS hI hR
      go_wp2_with fail
      go_loopw [7] (fun j wr => InIL w base g n cap k ss j wr) (fun j _ => (intOf j).toNat)
      case atStart => exact ⟨k, l, by omega, rfl, hPH.out, hIH.out, hRH.out, kk⟩
      case round =>
        clear kk hPH hIH hRH
        obtain ⟨j, l, hjk, rfl, hP, hI, hR, kk⟩ := hrel
        have hl := hR.2
        have hP := Lib.hid hP
        have hI := Lib.hid hI
        have hR := Lib.hid hR
        by_cases hj : 0 < j
        · have hd : decide (0 < j) = true := decide_eq_true hj
          have wj : IntKind.i64.wrap ((j : Int) - 1) = ((j - 1 : Nat) : Int) := by rw [IntWalk.i64_in _ ⟨by omega, by omega⟩]; omega
          have c1 := hR.out.cell (show j < n by omega)
          have c2 := hR.out.cell (show j - 1 < n by omega)
          have hj1 : ((j - 1 : Nat) : Int) < (n : Int) := by omega
          have hj2 : (j : Int) < (n : Int) := by omega
          by_cases hless : gNL l j < gNL l (j - 1)
          · have hl1 : decide (gNL l j < gNL l (j - 1)) = true := decide_eq_true hless
            have hlessH := Lib.hid hless
            clear hless
            go_wp2_with fail
            go_quiet (first | (go_at_call 197; refine Calls.quiet_of_same (less_numL _ _ _)))
            have hR := Lib.hid (hR.out.drewN nq)
            have kk := kk.drewN nq
            have c1 := hR.out.cell (show j < n by omega)
            have c2 := hR.out.cell (show j - 1 < n by omega)
            have f1 := hR.out.1.frozenAt j
            have f2 := hR.out.1.frozenAt (j - 1)
            generalize wr.drewN nq = W at *
            have hne : ¬ j = j - 1 := by omega
            have hne2 : ¬ j - 1 = j := by omega
            clear hd hl1
            go_wp2_with fail
            go_region
            have hR2 := Lib.hid ((hR.out.set (show j < n by omega) (gNL l (j - 1))).set (show j - 1 < n by omega) (gNL l j))
            have kk2 := ((kk.set1 j (.int .u64 (gNL l (j - 1)))).set1 (j - 1) (.int .u64 (gNL l j))).drew
            have hI2 := Lib.hid (insI_swapL hI.out hj hjk (by rw [hl]; exact hlt) hlessH.out)
            have hP2 := Lib.hid ((swap_permL (l := l) (i := j - 1) (j := j) (by rw [hl]; omega) (by rw [hl]; omega)).trans hP.out)
            clear c1 c2 f1 f2 hne hne2
            go_wp2_with fail
            go_roundw
            case rel => exact ⟨j - 1, _, by omega, rfl, hP2.out, hI2.out, hR2.out, kk2⟩
            case measure => simp [intOf]; omega
          · have hl1 : decide (gNL l j < gNL l (j - 1)) = false := decide_eq_false hless
            have hE := Lib.hid (insI_endL hI.out (.inr (by omega)))
            clear hless
            go_wp2_with fail
            go_quiet (first | (go_at_call 197; refine Calls.quiet_of_same (less_numL _ _ _)))
            have hR := Lib.hid (hR.out.drewN nq)
            have kk := kk.drewN nq
            clear c1 c2 hd hl1
            go_wp2_with fail
            first
            | exact ⟨⟨k + 1, l, by omega, by omega, by go_num, hP.out, hE.out, hR.out, kk⟩, by simp [intOf]; omega⟩
            | (go_roundw
               case rel => exact ⟨k + 1, l, by omega, by omega, by go_num, hP.out, hE.out, hR.out, kk⟩
               case measure => simp [intOf]; omega)
        · have hd : decide (0 < j) = false := decide_eq_false hj
          have hE := Lib.hid (insI_endL hI.out (.inl (by omega)))
          go_wp2_with fail
          go_quiet (fail)
          have hR := Lib.hid (hR.out.drewN nq)
          have kk := kk.drewN nq
          clear hd
          go_wp2_with fail
          first
          | exact ⟨⟨k + 1, l, by omega, by omega, by go_num, hP.out, hE.out, hR.out, kk⟩, by simp [intOf]; omega⟩
          | (go_roundw
             case rel => exact ⟨k + 1, l, by omega, by omega, by go_num, hP.out, hE.out, hR.out, kk⟩
             case measure => simp [intOf]; omega)
    · have hS2 : SrtIL l l.length := fun p q h1 h2 => hS p q h1 (by have := hR.2; omega)
      have hfin := Lib.hid (And.intro hP (And.intro (srtI_pairL hS2) hR))
      clear hP hS hR hS2
      go_wp2_with fail
      go_end0
      exact ⟨rfl, l, hfin.out.1, hfin.out.2.1, hfin.out.2.2, kk⟩

/-- slices.Sort, at most 12 of them, in a row of the call's own. -/
theorem prog_sortzL (base g n cap : Nat) (ss : List Int) (w : World) (h : RowZL w base g n cap ss) (hn : n ≤ 12) :
    Calls Tryz.prog 83 #[.slice (some ⟨g, 0, none⟩) n cap] w (SortedPostL w base g n cap ss) := by
  have hpd : ∀ lim : Int, Calls Tryz.prog 136 #[.slice (some ⟨g, 0, none⟩) n cap, .int .i64 0, .int .i64 n, .int .i64 lim] w (SortedPostL w base g n cap ss) := by
    intro lim
    have hI := Lib.hid (ins_sortL base g n cap ss w h (by omega))
    have hd : decide ((n : Int) ≤ 12) = true := decide_eq_true (by omega)
    clear h
    go_enter Tryz.func136, Tryz.ntmps136
    go_wp2_with fail
    go_loopw [1, 2] (fun a b wr => a = .int .i64 0 ∧ b = .int .i64 n ∧ w = wr) (fun _ _ _ => 0)
    case atStart => exact ⟨rfl, rfl, rfl⟩
    case round =>
      obtain ⟨rfl, rfl, rfl⟩ := hrel
      go_wp2_with fail
      refine hI.out.mono ?_
      rintro e w1 ⟨rfl, hl⟩
      have hl := Lib.hid hl
      clear hI
      go_wp2_with fail
      refine bodyPost_ret (results_none rfl _ _ _) rfl ?_
      exact ⟨rfl, hl.out⟩
  have hb : ∀ w, Calls Tryz.prog 77 #[.int .u64 n] w fun e w' => e = .returned (.int .i64 (Lib.bitLen (n : Int).toNat)) ∧ w' = w := fun w => Tryz.bits_Len n w (by omega) (by omega)
  have hb := Lib.hid hb
  have hp := Lib.hid hpd
  have wn : IntKind.u64.wrap (n : Int) = (n : Int) := IntWalk.u64_in _ ⟨by omega, by omega⟩
  clear hpd h
  go_enter Tryz.func83, Tryz.ntmps83
  go_wp2_with fail
  refine (hb.out _).mono ?_
  rintro e w1 ⟨rfl, rfl⟩
  go_wp2_with fail
  refine (hp.out _).mono ?_
  rintro e w2 ⟨rfl, hl⟩
  have hl := Lib.hid hl
  clear hp hb
  go_wp2_with fail
  go_end0
  exact ⟨rfl, hl.out⟩

/-- slices.Sort of nothing. -/
theorem prog_sortz_nilL (w : World) : Calls Tryz.prog 83 #[.slice none 0 0] w fun e w' => e = .returned (.tuple #[]) ∧ w = w' := by
  have hins : Calls Tryz.prog 191 #[.slice none 0 0, .int .i64 0, .int .i64 0] w fun e w' => e = .returned (.tuple #[]) ∧ w = w' := by
    go_enter Tryz.func191, Tryz.ntmps191
    go_wp2_with fail
    go_loopw [6] (fun i wr => i = .int .i64 1 ∧ w = wr) (fun _ _ => 0)
    case atStart => exact ⟨rfl, rfl⟩
    case round =>
      obtain ⟨rfl, rfl⟩ := hrel
      go_wp2_with fail
      go_end0
      exact ⟨rfl, rfl⟩
  have hpd : ∀ lim : Int, Calls Tryz.prog 136 #[.slice none 0 0, .int .i64 0, .int .i64 0, .int .i64 lim] w fun e w' => e = .returned (.tuple #[]) ∧ w = w' := by
    intro lim
    have hI := Lib.hid hins
    clear hins
    go_enter Tryz.func136, Tryz.ntmps136
    go_wp2_with fail
    go_loopw [1, 2] (fun a b wr => a = .int .i64 0 ∧ b = .int .i64 0 ∧ w = wr) (fun _ _ _ => 0)
    case atStart => exact ⟨rfl, rfl, rfl⟩
    case round =>
      obtain ⟨rfl, rfl, rfl⟩ := hrel
      go_wp2_with fail
      refine hI.out.mono ?_
      rintro e w1 ⟨rfl, rfl⟩
      clear hI
      go_wp2_with fail
      refine bodyPost_ret (results_none rfl _ _ _) rfl ?_
      exact ⟨rfl, rfl⟩
  have hb : ∀ w, Calls Tryz.prog 77 #[.int .u64 0] w fun e w' => e = .returned (.int .i64 (Lib.bitLen (0 : Int).toNat)) ∧ w' = w := fun w => Tryz.bits_Len 0 w (by omega) (by omega)
  have hb := Lib.hid hb
  have hp := Lib.hid hpd
  clear hpd hins
  go_enter Tryz.func83, Tryz.ntmps83
  go_wp2_with fail
  refine (hb.out _).mono ?_
  rintro e w1 ⟨rfl, rfl⟩
  go_wp2_with fail
  refine (hp.out _).mono ?_
  rintro e w2 ⟨rfl, rfl⟩
  clear hp hb
  go_wp2_with fail
  go_end0
  exact ⟨rfl, rfl⟩

def OwnKL (w : World) (base : Nat) (v : Value) (l : List Int) : Prop := OwnR 40 (fun n => .int .u64 n) w base v l

theorem pair_eqL {l l' : List Int} (hp : l.Perm l') (h : l.Pairwise (· ≤ ·)) (h' : l'.Pairwise (· ≤ ·)) : l = l' :=
  List.Perm.eq_of_pairwise (le := (· ≤ ·)) (fun a b _ _ h1 h2 => by omega) h h' hp

/-- slices.Sorted(maps.Keys(m)): the keys in order. -/
theorem prog_sortedL (Bm b : Nat) (m : List (Int × Value)) (hlen : m.length ≤ 12) (w : World) (hBm : Bm < w.heap.size) (hm : w.cell? ⟨Bm, 0, none⟩ = some (.map (some b))) (hown : MapAt w b kvKL m) (zs : List Int) (hz : zs.Perm (m.map (·.1))) (hzs : zs.Pairwise (· ≤ ·)) :
    Calls Tryz.prog 50 #[.func (.func 84) #[] #[.pointer (some ⟨Bm, 0, none⟩)]] w fun e w' => ∃ v, e = .returned v ∧ OwnKL w' w.heap.size v zs ∧ (zs = [] → v = .slice none 0 0) ∧ Kp (fun _ => False) w w' := by
  have hC := Lib.hid (prog_collectL Bm b m (by omega) w hBm hm hown)
  clear hm hown hBm
  go_enter Tryz.func50, Tryz.ntmps50
  go_wp2_with fail
  refine hC.out.mono ?_
  rintro e w1 ⟨v, ss, rfl, hP, hrow, hnl, hb⟩
  have hl : ss.length = m.length := by have := hP.length_eq; simpa using this
  clear hC
  have hrow2 := hrow
  rcases hrow.2 with ⟨rfl, h0⟩ | ⟨g, cap, cur, rfl, hbg, hg, hcap, hm, -⟩
  · obtain rfl : ss = [] := List.eq_nil_of_length_eq_zero h0
    have hzn : zs = [] := List.Perm.eq_nil (hz.trans hP.symm)
    have hS := Lib.hid (prog_sortz_nilL w1)
    have hbH := Lib.hid hb
    clear hrow hrow2 hP hz hb
    subst hzn
    go_wp2_with fail
    refine hS.out.mono ?_
    rintro e w2 ⟨rfl, rfl⟩
    go_wp2_with fail
    go_ret
    exact ⟨_, rfl, OwnR.nil _ _ _ _, by first | exact rfl | exact fun _ => rfl, Kp.of_below _ hbH.out⟩
  · have hS := Lib.hid (prog_sortzL w.heap.size g ss.length cap ss w1 ⟨hrow2, rfl⟩ (by omega))
    have hbH := Lib.hid hb
    have hPH := Lib.hid hP
    have hzH := Lib.hid hz
    have hnl := Lib.hid hnl
    clear hrow hrow2 hP hb hg hl
    go_wp2_with fail
    refine hS.out.mono ?_
    rintro e w2 ⟨rfl, l, hl1, hl2, hl3, hk⟩
    have he : l = zs := pair_eqL (hl1.trans (hPH.out.trans hz.symm)) hl2 hzs
    subst he
    have hfin := Lib.hid (And.intro hl3 hk)
    clear hS hl1 hl2 hl3 hk hzs hz
    go_wp2_with fail
    go_ret
    have h3 := hfin.out.1
    refine ⟨_, rfl, ?_, fun e => (by subst e; have q := hnl.out (List.Perm.eq_nil (hPH.out.trans hzH.out.symm)); cases q), Kp.of_below _ (hfin.out.2.below_of hbH.out hbH.out.size (fun i hi => by rw [hi]; exact hbg))⟩
    have e1 : ss.length = l.length := h3.2.symm
    rw [e1]
    have := h3.1
    rw [e1] at this
    exact this
end Go.Proofs.YtigdbooadelciaaGreat
