/- Tags: the statements' alive. -/
import Derived.Test.YtahopbjoaoiknaaTags6
namespace Go.Proofs.Ytahopbjoaoiknaa
set_option linter.unusedVariables false
set_option linter.unusedSimpArgs false
open Go.RowKit

theorem strs_lit (w : World) (l : List ByteArray) (h : l.length ≤ maxLen) : Strs (w.alloc (.cells (l.map Value.string).toArray 9)) (.slice (some ⟨w.heap.size, 0, none⟩) l.length l.length) l := by
  refine ⟨_, _, rfl, Nat.le_refl _, h, fun i hi => ⟨_, 0, [.string l[i]], rfl, rfl, fun j hj => ?_, rfl⟩⟩
  obtain rfl : j = 0 := by omega
  rw [(Blk.new w _ _).cell]
  simp [hi]

def sA : ByteArray := ⟨#[97]⟩
def sB : ByteArray := ⟨#[98]⟩
def sC : ByteArray := ⟨#[99]⟩
def sD : ByteArray := ⟨#[100]⟩
theorem sort_bab : sortL [sB, sA, sB] = [sA, sB] := by
  have h : (bytesL [sB, sA, sB]) = [[98], [97], [98]] := by simp [bytesL, sA, sB, ByteArray.toList_eq]
  unfold sortL
  rw [h]
  have h2 : ([[98], [97], [98]] : List (List UInt8)).mergeSort (fun x y => decide (x ≤ y)) = [[97], [98], [98]] := by
    have d1 : ¬ ([98] : List UInt8) ≤ [97] := by decide
    have d2 : ([97] : List UInt8) ≤ [98] := by decide
    simp [List.mergeSort, List.MergeSort.Internal.splitInTwo, d1, d2]
  rw [h2]
  decide

theorem ok_ab : okL [sA, sB] = true := by simp [okL, risL, leB, emp, sA, sB, Op.bytesLess, ByteArray.toList_eq, ByteArray.size]
theorem chk_ba : checkN [sB, sA] = 30 := by simp [checkN, okL, risL, leB, emp, sA, sB, Op.bytesLess, ByteArray.toList_eq, ByteArray.size]
theorem m1 : matchL [sA] [sB, sC] [sD] [sA, sB] = true := by simp [matchL, hasL, sA, sB, sC, sD]
theorem m2 : matchL [sA] [sB, sC] [sD] [sA] = false := by simp [matchL, hasL, sA, sB, sC, sD]
theorem m3 : matchL [sA] [sB, sC] [sD] [sA, sC, sD] = false := by simp [matchL, hasL, sA, sB, sC, sD]

theorem load24 (ρ : Operand → Value) (dst : Option Tmp) (x : Operand) (ty : TypeId) (pos : String) (after : Array Edge) (gd : Option (Nat × Bool)) (w : World)
    (hp : isPtr0 (ρ x) = true) (h : (rowOf w (blkOf (ρ x))).size = 3) : (execOp ρ ⟨dst, .load 24 x, ty, pos, after, gd⟩).run Try.prog w = .ok (.value (.agg (rowOf w (blkOf (ρ x))))) w :=
  ex_load (P := Try.prog) Try.underlying24 rfl (by kernel_rfl) (by decide) ρ dst x ty pos after gd w hp h

def filV (w1 : World) : Array Value := #[.slice (some ⟨w1.heap.size, 0, none⟩) 1 1, .slice (some ⟨w1.heap.size + 1, 0, none⟩) 2 2, .slice (some ⟨w1.heap.size + 1 + 1, 0, none⟩) 1 1]
theorem fil_lit (w1 : World) : FilR ((((w1.alloc (.cells #[.string ⟨#[97]⟩] 9)).alloc (.cells #[.string ⟨#[98]⟩, .string ⟨#[99]⟩] 9)).alloc (.cells #[.string ⟨#[100]⟩] 9)).alloc (.cells #[.slice (some ⟨w1.heap.size, 0, none⟩) 1 1, .slice (some ⟨w1.heap.size + 1, 0, none⟩) 2 2, .slice (some ⟨w1.heap.size + 1 + 1, 0, none⟩) 1 1] 24)) (filV w1).toList [sA] [sB, sC] [sD] ∧ Blk ((((w1.alloc (.cells #[.string ⟨#[97]⟩] 9)).alloc (.cells #[.string ⟨#[98]⟩, .string ⟨#[99]⟩] 9)).alloc (.cells #[.string ⟨#[100]⟩] 9)).alloc (.cells #[.slice (some ⟨w1.heap.size, 0, none⟩) 1 1, .slice (some ⟨w1.heap.size + 1, 0, none⟩) 2 2, .slice (some ⟨w1.heap.size + 1 + 1, 0, none⟩) 1 1] 24)) (w1.heap.size + 1 + 1 + 1) (filV w1) 24 ∧ Kp (fun _ => False) w1 ((((w1.alloc (.cells #[.string ⟨#[97]⟩] 9)).alloc (.cells #[.string ⟨#[98]⟩, .string ⟨#[99]⟩] 9)).alloc (.cells #[.string ⟨#[100]⟩] 9)).alloc (.cells #[.slice (some ⟨w1.heap.size, 0, none⟩) 1 1, .slice (some ⟨w1.heap.size + 1, 0, none⟩) 2 2, .slice (some ⟨w1.heap.size + 1 + 1, 0, none⟩) 1 1] 24)) := by
  have kA := (Kp.refl (fun _ => False) w1).alloc (.cells #[.string ⟨#[97]⟩] 9)
  have kB := kA.alloc (.cells #[.string ⟨#[98]⟩, .string ⟨#[99]⟩] 9)
  have kC := kB.alloc (.cells #[.string ⟨#[100]⟩] 9)
  have a := strs_lit w1 [sA] (by decide)
  have b := strs_lit (w1.alloc (.cells #[.string ⟨#[97]⟩] 9)) [sB, sC] (by decide)
  have c := strs_lit ((w1.alloc (.cells #[.string ⟨#[97]⟩] 9)).alloc (.cells #[.string ⟨#[98]⟩, .string ⟨#[99]⟩] 9)) [sD] (by decide)
  rw [show (w1.alloc (.cells #[.string ⟨#[97]⟩] 9)).heap.size = w1.heap.size + 1 by simp] at b
  rw [show ((w1.alloc (.cells #[.string ⟨#[97]⟩] 9)).alloc (.cells #[.string ⟨#[98]⟩, .string ⟨#[99]⟩] 9)).heap.size = w1.heap.size + 1 + 1 by simp] at c
  have d := Blk.new (((w1.alloc (.cells #[.string ⟨#[97]⟩] 9)).alloc (.cells #[.string ⟨#[98]⟩, .string ⟨#[99]⟩] 9)).alloc (.cells #[.string ⟨#[100]⟩] 9)) (filV w1) 24
  rw [show (((w1.alloc (.cells #[.string ⟨#[97]⟩] 9)).alloc (.cells #[.string ⟨#[98]⟩, .string ⟨#[99]⟩] 9)).alloc (.cells #[.string ⟨#[100]⟩] 9)).heap.size = w1.heap.size + 1 + 1 + 1 by simp] at d
  have c' := c.keeps (Keeps.alloc _ (.cells (filV w1) 24))
  have b' := b.keeps ((Keeps.alloc _ (.cells #[.string ⟨#[100]⟩] 9)).trans (Keeps.alloc _ (.cells (filV w1) 24)))
  have a' := a.keeps ((Keeps.alloc _ (.cells #[.string ⟨#[98]⟩, .string ⟨#[99]⟩] 9)).trans ((Keeps.alloc _ (.cells #[.string ⟨#[100]⟩] 9)).trans (Keeps.alloc _ (.cells (filV w1) 24))))
  exact ⟨⟨_, _, _, rfl, a', b', c'⟩, d, kC.alloc _⟩

section
attribute [local go_sem ↓] load24
attribute [local go_sem] rowOf_new rowOf_drew isPtr0_ptr blkOf_ptr
set_option maxHeartbeats 2000000 in
theorem tags_alive (w : World) : Calls Try.prog 9 #[] w fun e w' => e = .returned (.bool true) ∧ Kp (fun _ => False) w w' := by
  have s1 : Strs (w.alloc (.cells #[.string ⟨#[98]⟩, .string ⟨#[97]⟩, .string ⟨#[98]⟩] 9)) (.slice (some ⟨w.heap.size, 0, none⟩) 3 3) [sB, sA, sB] := strs_lit w [sB, sA, sB] (by decide)
  have hso := Lib.hid (prog_sort _ _ _ s1 (by decide))
  clear s1
  go_enter Try.func9, Try.ntmps9
  go_wp2_with fail
  refine hso.out.mono ?_
  rintro e w1 ⟨v1, rfl, hv1, k1⟩
  rw [sort_bab] at hv1 ⊢
  rw [if_pos ok_ab]
  have hck : checkN [sA, sB] = 0 := by unfold checkN; rw [if_pos ok_ab]
  rw [hck]
  obtain ⟨A1, cap1, rfl, _⟩ := hv1.one
  clear hso hck
  go_wp2_with fail
  obtain ⟨hF, hB, kF⟩ := fil_lit w1
  unfold filV at hF hB
  have hv2 := hv1.keeps (Keeps.kp kF)
  have kk : Kp (fun _ => False) w ((((w1.alloc (.cells #[.string ⟨#[97]⟩] 9)).alloc (.cells #[.string ⟨#[98]⟩, .string ⟨#[99]⟩] 9)).alloc (.cells #[.string ⟨#[100]⟩] 9)).alloc (.cells #[.slice (some ⟨w1.heap.size, 0, none⟩) 1 1, .slice (some ⟨w1.heap.size + 1, 0, none⟩) 2 2, .slice (some ⟨w1.heap.size + 1 + 1, 0, none⟩) 1 1] 24)) := (((Kp.refl _ w).alloc _).trans (Kp.of_below _ k1)).trans kF
  generalize hV0 : ((((w1.alloc (.cells #[.string ⟨#[97]⟩] 9)).alloc (.cells #[.string ⟨#[98]⟩, .string ⟨#[99]⟩] 9)).alloc (.cells #[.string ⟨#[100]⟩] 9)).alloc (.cells #[.slice (some ⟨w1.heap.size, 0, none⟩) 1 1, .slice (some ⟨w1.heap.size + 1, 0, none⟩) 2 2, .slice (some ⟨w1.heap.size + 1 + 1, 0, none⟩) 1 1] 24)) = V at *
  have hlV : V.heap.size = w1.heap.size + 1 + 1 + 1 + 1 := by rw [← hV0]; simp
  rw [← hlV]
  generalize w1.heap.size + 1 + 1 + 1 = g at *
  have hlit := strs_lit V [sA, sB] (by decide)
  have hsm := Lib.hid (strs_same _ _ _ _ (hv2.keeps (Keeps.alloc V (.cells #[.string ⟨#[97]⟩, .string ⟨#[98]⟩] 9))) hlit)
  have hF := hF.keeps (Keeps.alloc V (.cells #[.string ⟨#[97]⟩, .string ⟨#[98]⟩] 9))
  have hB := hB.alloc (.cells #[.string ⟨#[97]⟩, .string ⟨#[98]⟩] 9)
  have kk := kk.alloc (.cells #[.string ⟨#[97]⟩, .string ⟨#[98]⟩] 9)
  clear hv1 hv2 hlit hV0 hlV kF k1
  refine hsm.out.mono ?_
  rintro e w2 ⟨rfl, k2⟩
  have kk := kk.trans k2
  have hF := hF.keeps (Keeps.kp k2)
  have hB := hB.kp k2 id
  clear hsm k2
  have s2 : Strs (w2.alloc (.cells #[.string ⟨#[98]⟩, .string ⟨#[97]⟩] 9)) (.slice (some ⟨w2.heap.size, 0, none⟩) 2 2) [sB, sA] := strs_lit w2 [sB, sA] (by decide)
  have hck := Lib.hid (prog_check _ _ _ s2)
  clear s2
  have hF := hF.keeps (Keeps.alloc w2 (.cells #[.string ⟨#[98]⟩, .string ⟨#[97]⟩] 9))
  have hB := hB.alloc (.cells #[.string ⟨#[98]⟩, .string ⟨#[97]⟩] 9)
  have kk := kk.alloc (.cells #[.string ⟨#[98]⟩, .string ⟨#[97]⟩] 9)
  go_wp2_with fail
  refine hck.out.mono ?_
  rintro e w3 ⟨rfl, rfl⟩
  rw [chk_ba]
  clear hck
  have hr := hB.row
  have s4 : Strs ((w2.alloc (.cells #[.string ⟨#[98]⟩, .string ⟨#[97]⟩] 9)).alloc (.cells #[.string ⟨#[97]⟩, .string ⟨#[98]⟩] 9)) (.slice (some ⟨w2.heap.size + 1, 0, none⟩) 2 2) [sA, sB] := by
    have := strs_lit (w2.alloc (.cells #[.string ⟨#[98]⟩, .string ⟨#[97]⟩] 9)) [sA, sB] (by decide)
    rw [show (w2.alloc (.cells #[.string ⟨#[98]⟩, .string ⟨#[97]⟩] 9)).heap.size = w2.heap.size + 1 by simp] at this
    exact this
  have hM := Lib.hid (prog_match _ [sA] [sB, sC] [sD] _ [sA, sB] _ (hF.keeps (Keeps.alloc (w2.alloc (.cells #[.string ⟨#[98]⟩, .string ⟨#[97]⟩] 9)) (.cells #[.string ⟨#[97]⟩, .string ⟨#[98]⟩] 9))) s4)
  clear s4
  have hB := hB.alloc (.cells #[.string ⟨#[97]⟩, .string ⟨#[98]⟩] 9)
  have hF := hF.keeps (Keeps.alloc (w2.alloc (.cells #[.string ⟨#[98]⟩, .string ⟨#[97]⟩] 9)) (.cells #[.string ⟨#[97]⟩, .string ⟨#[98]⟩] 9))
  have kk := kk.alloc (.cells #[.string ⟨#[97]⟩, .string ⟨#[98]⟩] 9)
  go_wp2_with fail
  refine hM.out.mono ?_
  rintro e w4 ⟨rfl, k1⟩
  rw [m1]
  have kk := kk.trans k1
  have hF := hF.keeps (Keeps.kp k1)
  have hB := hB.kp k1 id
  clear k1 hM hr
  have hr := hB.row
  have s4 : Strs (w4.alloc (.cells #[.string ⟨#[97]⟩] 9)) (.slice (some ⟨w4.heap.size, 0, none⟩) 1 1) [sA] := strs_lit w4 [sA] (by decide)
  have hM := Lib.hid (prog_match _ [sA] [sB, sC] [sD] _ [sA] _ (hF.keeps (Keeps.alloc w4 (.cells #[.string ⟨#[97]⟩] 9))) s4)
  clear s4
  have hB := hB.alloc (.cells #[.string ⟨#[97]⟩] 9)
  have hF := hF.keeps (Keeps.alloc w4 (.cells #[.string ⟨#[97]⟩] 9))
  have kk := kk.alloc (.cells #[.string ⟨#[97]⟩] 9)
  go_wp2_with fail
  refine hM.out.mono ?_
  rintro e w5 ⟨rfl, k1⟩
  rw [m2]
  have kk := kk.trans k1
  have hF := hF.keeps (Keeps.kp k1)
  have hB := hB.kp k1 id
  clear k1 hM hr
  have hr := hB.row
  have s4 : Strs (w5.alloc (.cells #[.string ⟨#[97]⟩, .string ⟨#[99]⟩, .string ⟨#[100]⟩] 9)) (.slice (some ⟨w5.heap.size, 0, none⟩) 3 3) [sA, sC, sD] := strs_lit w5 [sA, sC, sD] (by decide)
  have hM := Lib.hid (prog_match _ [sA] [sB, sC] [sD] _ [sA, sC, sD] _ (hF.keeps (Keeps.alloc w5 (.cells #[.string ⟨#[97]⟩, .string ⟨#[99]⟩, .string ⟨#[100]⟩] 9))) s4)
  clear s4
  have hB := hB.alloc (.cells #[.string ⟨#[97]⟩, .string ⟨#[99]⟩, .string ⟨#[100]⟩] 9)
  have hF := hF.keeps (Keeps.alloc w5 (.cells #[.string ⟨#[97]⟩, .string ⟨#[99]⟩, .string ⟨#[100]⟩] 9))
  have kk := kk.alloc (.cells #[.string ⟨#[97]⟩, .string ⟨#[99]⟩, .string ⟨#[100]⟩] 9)
  go_wp2_with fail
  refine hM.out.mono ?_
  rintro e w6 ⟨rfl, k1⟩
  rw [m3]
  have kk := kk.trans k1
  have hF := hF.keeps (Keeps.kp k1)
  have hB := hB.kp k1 id
  clear k1 hM hr
  go_wp2_with fail
  go_ret
  exact ⟨rfl, kk⟩
end
end Go.Proofs.Ytahopbjoaoiknaa
