/- slices.Sorted(maps.Keys(m)) at keys of the kind u64: maps.Keys, its iterator, slices.AppendSeq, slices.Collect. (Printed by gen_sorted.py, a program of this session's own.) -/
import Derived.Test.YtgaaonbjfhklbaaKt
import Derived.Test.YtgaaonbjfhklbaaIt
import Derived.Test.YtgaaonbjfhklbaaStrs
import Derived.RangeFuncBox
import Derived.RangeFuncLeaves
import Derived.Shelf.Abstract
import Derived.WalkKit
import Derived.OwnWalkIn
import Derived.TacticsInMore
import Derived.LoopNIn
import Derived.LoopIn
import Derived.Maps.AppendAt
namespace Go.Proofs.Ytgaaonbjfhklbaa
set_option linter.unusedVariables false
set_option linter.unusedSimpArgs false
open Go.RowKit Go.Shelf
attribute [local go_sem] Oper.semAt_some

def kvK (n : Int) : Value := .int .u64 n
theorem infoK : (Try.prog.info? 23).map (fun i => (i.zero, i.size, i.bytes)) = some (some (.int .u64 0), 1, 8) := by kernel_rfl

theorem IterAt.walks {w w' : World} {b r : Nat} {m left : List (Int × Value)} (h : IterAt w b r kvK m left) (k : KeepsWalks w w') : IterAt w' b r kvK m left := by
  have h' := h
  obtain ⟨es, clock, since, seen, c0, L, h0, h1, h2, h3, h4, h5, h6, h7, h8⟩ := h
  exact h'.of_blocks ((k.same b _ h0 rfl).trans h0.symm) ((k.same r _ h7 rfl).trans h7.symm)
theorem IterAt.isWalk {w : World} {b r : Nat} {m left : List (Int × Value)} (h : IterAt w b r kvK m left) : ∃ o : Obj, w.heap[r]? = some o ∧ o.isWalk = true := by
  obtain ⟨es, clock, since, seen, c0, L, h0, h1, h2, h3, h4, h5, h6, h7, h8⟩ := h
  exact ⟨_, h7, rfl⟩
theorem Kp.grownBy {w w' : World} {r : Nat} (k : Kp (fun i => i = r) w w') : w.grownBy w' (some r) := ⟨k.os, k.tape, k.output, k.size, fun i hi hne => k.block i hi (fun e => hne (by rw [e]))⟩

open Classical in
/-- How many are still to come, read off the world. -/
noncomputable def leftK (b r : Nat) (m : List (Int × Value)) (W : World) : Nat := if h : ∃ left, IterAt W b r kvK m left then (Classical.choose h).length else 0
theorem leftK_eq {W : World} {b r : Nat} {m left : List (Int × Value)} (h : IterAt W b r kvK m left) : leftK b r m W = left.length := by
  have hex : ∃ left, IterAt W b r kvK m left := ⟨left, h⟩
  unfold leftK
  rw [dif_pos hex]
  have key : ∀ {l1 l2 : List (Int × Value)}, IterAt W b r kvK m l1 → IterAt W b r kvK m l2 → l1.length = l2.length := by
    rintro l1 l2 ⟨es, clock, since, seen, c0, L, h0, h1, h2, h3, h4, h5, h6, h7, h8, h9, h10, rfl⟩ ⟨es', clock', since', seen', c0', L', h0', h1', h2', h3', h4', h5', h6', h7', h8', h9', h10', rfl⟩
    rw [h0] at h0'
    rw [h7] at h7'
    simp only [Option.some.injEq, Obj.map.injEq, Obj.mapIter.injEq] at h0' h7'
    obtain ⟨rfl, rfl⟩ := h0'
    obtain ⟨-, rfl, rfl, rfl⟩ := h7'
    have e : ∀ (L : List (MapEntry × (Int × Value))), ((L.filter fun x => !seen.contains x.1.born).map (·.2)).length = ((L.map (·.1)).filter fun x => !seen.contains x.born).length := by
      intro L
      rw [List.length_map, List.filter_map, List.length_map]
      rfl
    rw [e L, e L', h1, h1']
  exact key (Classical.choose_spec hex) h

set_option maxRecDepth 100000 in
set_option maxHeartbeats 2000000 in
theorem keys1_in (F : Fence) (n : Nat) (hf : F.fn 51) (hro : F.round = none) (hn : 1 ≤ n) (l Bm b : Nat) (m : List (Int × Value)) (J Jx : List Int → World → Prop)
    (hY : ∀ pre x W, J pre W → pre.length < m.length → YieldAt F (n - 1) Try.prog l #[kvK x] W fun e W' =>
      (e = .returned (.bool true) ∧ J (pre ++ [x]) W' ∧ KeepsWalks W W') ∨ (e = .returned (.bool false) ∧ Jx (pre ++ [x]) W'))
    (W : World) (hJ : AbidesFrom W.heap.size J) (hm : W.cell? ⟨Bm, 0, none⟩ = some (.map (some b))) (hown : MapAt W b kvK m) (h0 : J [] W) :
    CallsIn F n Try.prog 51 #[.func (.yield l) #[] #[], .pointer (some ⟨Bm, 0, none⟩)] W fun e W' => (∃ v, e = .returned v) ∧
      ((∃ ss, ss.Perm (m.map (·.1)) ∧ J ss W') ∨ (∃ pre, True ∧ Jx pre W')) := by
  obtain ⟨w0, hrun, hI0, hk0, hs0⟩ := hown.range (P := Try.prog) (t := 80) Try.underlying80
  have hJ0 : J [] w0 := hJ [] W w0 none h0 ⟨hk0.os, hk0.tape, hk0.output, hk0.size, fun i hi _ => hk0.block i hi id⟩ (fun r e => by cases e)
  have hI0' := Lib.hid hI0
  clear hI0 hk0 hs0
  dsimp only [kvK] at hY
  refine callsIn_of_wp Try.func51 rfl hf ?_ hro
  simp only [Try.ntmps51, List.size_toArray, List.length_cons, List.length_nil, Nat.reduceAdd, Nat.reduceSub, Array.replicate_succ, Array.replicate_zero, List.push_toArray, List.append_toArray, List.nil_append, List.cons_append]
  gi_wp2
  gi_loopw [3] (fun _ wr => ∃ (left : List (Int × Value)) (ss : List Int), IterAt wr b W.heap.size kvK m left ∧ (ss ++ left.map (·.1)).Perm (m.map (·.1)) ∧ J ss wr)
    (fun _ wr => leftK b W.heap.size m wr)
  case atStart => exact ⟨m, [], hI0'.out, by simp, hJ0⟩
  case round =>
    clear hrun
    obtain ⟨left, ss, hI, hP, hJs⟩ := hrel
    have hlen : ss.length + left.length = m.length := by have := hP.length_eq; simpa using this
    rcases hI.next (P := Try.prog) 0 with ⟨rfl, hnext⟩ | ⟨p, left', w2, hperm, hnext, hI2, hk2, hs2, hentry⟩
    · gi_wp2
      go_end0
      exact ⟨⟨_, rfl⟩, .inl ⟨ss, by simpa using hP, hJs⟩⟩
    · have hl2 : left.length = left'.length + 1 := by have := hperm.length_eq; simpa using this
      have hJ2 : J ss w2 := hJ ss wr w2 (some W.heap.size) hJs hk2.grownBy (fun r e => by cases e; exact ⟨Nat.le_refl _, hI.isWalk⟩)
      have hP2 : ((ss ++ [p.1]) ++ left'.map (·.1)).Perm (m.map (·.1)) := by
        refine List.Perm.trans ?_ hP
        rw [List.append_assoc]
        exact List.Perm.append_left ss (by simpa using (hperm.map (·.1)).symm)
      obtain ⟨fn, tmps, assign, body, hy, hR⟩ := hY ss p.1 w2 hJ2 (by omega)
      dsimp only [kvK] at hnext hentry
      have hIL := Lib.hid hI
      have hI2 := Lib.hid hI2
      have hP2 := Lib.hid hP2
      clear hI hP hperm hk2 hs2
      gi_wp2
      refine hR.mono ?_
      rintro e W3 (⟨rfl, hJ3, hk3⟩ | ⟨rfl, hJx3⟩)
      · gi_wp2
        have hI3 := hI2.out.walks hk3
        go_roundw
        case rel => exact ⟨left', ss ++ [p.1], hI3, hP2.out, hJ3⟩
        case measure => rw [leftK_eq hI3, leftK_eq hIL.out]; omega
      · gi_wp2
        refine bodyPost_ret (results_none rfl _ _ _) rfl ?_
        exact ⟨⟨_, rfl⟩, .inr ⟨ss ++ [p.1], trivial, hJx3⟩⟩

theorem keys_stops (F : Fence) (n : Nat) (hf : F.fn 51) (hro : F.round = none) (hn : 1 ≤ n) (Bm b : Nat) (m : List (Int × Value)) (w : World) (hBm : Bm < w.heap.size)
    (hm : w.cell? ⟨Bm, 0, none⟩ = some (.map (some b))) (hown : MapAt w b kvK m) :
    SeqStopsK F n Try.prog 51 #[.pointer (some ⟨Bm, 0, none⟩)] (fun x : Int => #[Value.int .u64 x]) KeepsWalks (fun ss => ss.Perm (m.map (·.1))) (fun _ => True) m.length w := fun l J Jx W hW hJ _ hY h0 =>
  keys1_in F n hf hro hn l Bm b m J Jx hY W hJ ((hW.cell (p := ⟨Bm, 0, none⟩) hBm).trans hm) (hown.of_block (hW.block b hown.lt)) h0

theorem prog_keys (b : Nat) (w : World) :
    Calls Try.prog 33 #[.map (some b)] w fun e w' => e = .returned (.func (.func 51) #[] #[.pointer (some ⟨w.heap.size, 0, none⟩)]) ∧ w' = w.alloc (.cells #[.map (some b)] 80) := by
  go_enter Try.func33, Try.ntmps33
  go_wp2
  go_ret
  exact ⟨rfl, rfl⟩

def CollPost (w : World) (m : List (Int × Value)) (e : Ending) (W' : World) : Prop := ∃ (v : Value) (ss : List Int), e = .returned v ∧ ss.Perm (m.map (·.1)) ∧ W'.ownsRow w.heap.size 23 1 v ss.length (ss.map kvK) ∧ (ss = [] → v = .slice none 0 0) ∧ Below w.heap.size w W'

set_option maxRecDepth 100000 in
set_option maxHeartbeats 2000000 in
theorem appendSeq_in (F : Fence) (n : Nat) (h11 : F.fn 64) (hf : F.fn 51) (hro : F.round = none) (hn : 3 ≤ n) (Bm b : Nat) (m : List (Int × Value)) (hlen : m.length ≤ 1000000) (w : World) (hBm : Bm < w.heap.size)
    (hm : w.cell? ⟨Bm, 0, none⟩ = some (.map (some b))) (hown : MapAt w b kvK m) :
    CallsIn F n Try.prog 64 #[.slice none 0 0, .func (.func 51) #[] #[.pointer (some ⟨Bm, 0, none⟩)]] w (CollPost w m) := by
  have h1 : 1 ≤ n := by omega
  obtain ⟨i0, hi, hz0, hz1, hz2⟩ := info_parts infoK
  refine callsIn_of_wp_marks Try.func64 rfl h11 ?_ hro
  simp only [Try.ntmps64, List.size_toArray, List.length_cons, List.length_nil, Nat.reduceAdd, Nat.reduceSub, Array.replicate_succ, Array.replicate_zero, List.push_toArray, List.append_toArray, List.nil_append, List.cons_append]
  gi_wp2
  have bO := Boxed.new w 55 (.slice none 0 0)
  have hB0 : Below w.heap.size w (w.alloc (.cells #[.slice none 0 0] 55)) := (Below.refl _ w).alloc (Nat.le_refl _) _
  refine wpIn_rangeFunc_ownG hro h1 (gf := 51) (lb := #[.pointer (some ⟨Bm, 0, none⟩)]) rfl hf (enters_of Try.func51 (by kernel_rfl) rfl)
    (keys_stops F (n - 1) hf hro (by omega) Bm b m (w.alloc (.cells #[.slice none 0 0] 55)) (by simp; omega) (((Kp.refl (fun _ => False) w).alloc _).cell0 hm) (hown.alloc _)) walksK_t walksK_b (Below.refl _ _) (fun _ => rfl)
    (fun pre W => (∃ v, Boxed W w.heap.size 55 v ∧ W.ownsRow w.heap.size 23 1 v pre.length (pre.map kvK) ∧ (pre = [] → v = .slice none 0 0)) ∧ Below w.heap.size w W)
    (fun _ _ _ => False)
    (OwnFrom.and (Own.from (holdsRow_own w.heap.size w.heap.size 55 23 1 (fun pre : List Int => pre.length) (fun pre => pre.map kvK) (fun pre v => pre = [] → v = .slice none 0 0)) _) (ownFrom_below (Nat.le_refl _) (by simp)))
    (fun _ _ _ _ _ hs _ _ => hs)
    ⟨⟨_, bO, World.ownsRow_nil _ _ _ _, fun _ => rfl⟩, hB0⟩
    (fun x => { tmps := #[.slice none 0 0, .func (.func 51) #[] #[.pointer (some ⟨Bm, 0, none⟩)], .pointer (some ⟨w.heap.size, 0, none⟩), undef, .slice none 0 0, .int .u64 x, .func (.func 51) #[] #[.pointer (some ⟨Bm, 0, none⟩)], .int .u64 x, undef, undef, undef, undef, undef], defers := [] }) ?assign ?body ?done ?stop
  case assign =>
    intro l x W K hK
    gi_wp2
    exact hK
  case body =>
    rintro l pre x W ⟨⟨v, hv, hrow, -⟩, hB⟩ hlt
    have hc := hv.cell
    gi_wp2_with (gi_at_builtin; refine wpListIn_append_own _ rfl _ _ 55 rfl w.heap.size 23 i0 (.int .u64 0) 1 8 Try.underlying55 hi hz0 hz1 hz2 rfl (by decide) _ _ _ rfl (hrow.alloc _) ⟨W.heap.size, 0, none⟩ 1 1 [.int .u64 x] rfl rfl (cell_one_new _ _ _) (by simp [Value.oneCell']) (by simp only [maxLen]; omega) (by omega) (by have := hB.size; simp; omega) ?_; intro v' w1 hown' hgrow _; obtain ⟨g', cap', rfl⟩ := ownsRow_succ hown'; obtain ⟨hv1, hv2, hr2, hk2, hb2⟩ := hv.appended (by decide) hrow hB.size (Nat.le_refl _) hown' hgrow; have hc1 := hv1.cell; have hf1 := hv1.frozen)
    exact ⟨hk2.from _, hk2.walks, ⟨_, hv2, by simpa [kvK] using hr2, fun e => by simp at e⟩, hB.trans hb2⟩
  case done =>
    rintro D ys W hD hP ⟨⟨v, hv, hrow, hnl⟩, hB⟩ hK
    have hc := hv.cell
    gi_wp2
    refine ⟨by simp, .inl ⟨_, _, rfl, run_takeDeferred hK, ?_⟩⟩
    exact ⟨_, results_tmp rfl _ _ _, v, ys, rfl, hP, ownsRow_putObj hrow _ hK rfl, hnl, hB.trans (belowK_b (w := w) (Nat.le_refl _) W D _ _ (by simp at hD; omega) hK rfl rfl)⟩
  case stop =>
    rintro D c pre W _ _ h _
    exact h.elim

/-- slices.Collect(maps.Keys(m)). -/
theorem prog_collect (Bm b : Nat) (m : List (Int × Value)) (hlen : m.length ≤ 1000000) (w : World) (hBm : Bm < w.heap.size) (hm : w.cell? ⟨Bm, 0, none⟩ = some (.map (some b))) (hown : MapAt w b kvK m) :
    Calls Try.prog 49 #[.func (.func 51) #[] #[.pointer (some ⟨Bm, 0, none⟩)]] w (CollPost w m) := by
  have hA := (callsIn_wide (n := 6)).1 (appendSeq_in Fence.wide 6 trivial trivial rfl (by omega) Bm b m hlen w hBm hm hown)
  have hA := Lib.hid hA
  clear hm hown
  go_enter Try.func49, Try.ntmps49
  go_wp2_with fail
  refine hA.out.mono ?_
  rintro e w' ⟨v, ss, rfl, h1, h2, h4, h3⟩
  go_wp2_with fail
  go_ret
  exact ⟨v, ss, rfl, h1, h2, h4, h3⟩
end Go.Proofs.Ytgaaonbjfhklbaa
