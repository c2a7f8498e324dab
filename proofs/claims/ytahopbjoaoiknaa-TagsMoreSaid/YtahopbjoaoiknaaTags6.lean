/- Tags: the program's Sort. -/
import Derived.Test.YtahopbjoaoiknaaTags5
namespace Go.Proofs.Ytahopbjoaoiknaa
set_option linter.unusedVariables false
set_option linter.unusedSimpArgs false
open Go.RowKit Go.Sort

theorem kp_putRow {α : Type} [Inhabited α] (enc : α → Value) (w : World) (g off : Nat) (d : Array α) : Kp (fun i => i = g) w (putRow enc w g off d) :=
  ⟨rfl, rfl, rfl, by simp, fun k _ hn => by
    unfold putRow mapBlock
    simp [Array.getElem?_modify]
    intro e
    exact absurd e.symm hn⟩
theorem kp_ahead (S : Nat → Prop) (w : World) (n : Nat) : Kp S w (Sort.ahead w n) := ⟨rfl, rfl, rfl, Nat.le_refl _, fun _ _ _ => rfl⟩
theorem kp_grow (S : Nat → Prop) (w : World) (os : Array Obj) : Kp S w (grow w os) := ⟨rfl, rfl, rfl, by simp, fun k hk _ => heap_grow_old w os hk⟩

def bytesL (l : List ByteArray) : List (List UInt8) := l.map (·.toList)
def mkL (b : List UInt8) : ByteArray := ⟨b.toArray⟩
/-- Each once, rising. -/
def sortL (l : List ByteArray) : List ByteArray := (Lib.compact ((bytesL l).mergeSort fun x y => decide (x ≤ y))).map mkL

theorem mk_toList (s : ByteArray) : mkL s.toList = s := by
  unfold mkL
  cases s
  rw [ByteArray.toList_eq]

theorem strs_of_holds {w : World} {g cap : Nat} {d : List (List UInt8)} {n : Nat} (h : Holds encStr w g 0 d.toArray) (hn : n ≤ d.length) (hc : n ≤ cap) (hm : cap ≤ maxLen) : Strs w (.slice (some ⟨g, 0, none⟩) n cap) ((d.take n).map mkL) := by
  have hl : ((d.take n).map mkL).length = n := by simp; omega
  refine ⟨some ⟨g, 0, none⟩, cap, by rw [hl], by omega, hm, fun i hi => ⟨g, 0, [.string ((d.take n).map mkL)[i]], rfl, rfl, fun j hj => ?_, rfl⟩⟩
  obtain rfl : j = 0 := by omega
  have hi' : i < d.length := by simp at hi; omega
  have := (h i (by simpa using hi')).1
  rw [show 0 + i * 1 + 0 = 0 + i by omega, this]
  simp [mkL, hi']

def SortPost (l : List ByteArray) (w : World) (e : Ending) (w' : World) : Prop := ∃ v' : Value, e = .returned (.tuple #[if okL (sortL l) = true then v' else .slice none 0 0, .int .i64 (checkN (sortL l))]) ∧ Strs w' v' (sortL l) ∧ Below w.heap.size w w'

theorem sort_nil : sortL [] = [] := by simp [sortL, bytesL, Lib.compact, Lib.compactUpTo]

theorem holds_of_blk {w : World} {g : Nat} {cur : Array Value} {l : List ByteArray} (hb : Blk w g cur 9) (ht : cur.toList.take l.length = l.map Value.string) : Holds encStr w g 0 (bytesL l).toArray := by
  intro j hj
  have hj' : j < l.length := by simpa [bytesL] using hj
  have h1 : cur[j]? = some (.string l[j]) := by
    have : (cur.toList.take l.length)[j]? = some (.string l[j]) := by rw [ht]; simp [hj']
    rw [List.getElem?_take_of_lt hj'] at this
    simpa using this
  refine ⟨?_, ?_⟩
  · rw [hb.cell (0 + j), Nat.zero_add, h1]
    have : (bytesL l).toArray[j]! = l[j].toList := by simp [bytesL, hj']
    rw [this]
    exact congrArg (fun s => some (Value.string s)) (mk_toList l[j]).symm
  · exact hb.frozen (0 + j)

def CloneZ (w : World) (e : Ending) (w' : World) : Prop := ∃ (A1 : Option Addr) (cap1 : Nat), e = .returned (.slice A1 0 cap1) ∧ cap1 ≤ maxLen ∧ RowKit.Below w.heap.size w w'
theorem clone_zero (A : Option Addr) (cap : Nat) (w : World) : Calls Try.prog 57 #[.slice A 0 cap] w (CloneZ w) := by
  cases A with
  | none => exact (Try.slices_Clone_string_nil 0 cap w).mono fun e w' ⟨h1, h2⟩ => ⟨none, 0, h1, Nat.zero_le _, by rw [h2]; exact (Kp.refl (fun _ => False) w).below⟩
  | some a =>
    refine (Try.slices_Clone_string_zero a cap w).mono ?_
    rintro e w' ⟨v, rfl, ⟨_, h⟩, _, k⟩
    rcases h with ⟨rfl, _⟩ | ⟨g, c, cur, rfl, _, _, _, hc, _⟩
    · exact ⟨none, 0, rfl, Nat.zero_le _, k⟩
    · exact ⟨_, c, rfl, hc, k⟩

theorem prog_sort (v : Value) (l : List ByteArray) (w : World) (h : Strs w v l) (hlen : l.length ≤ 100000) :
    Calls Try.prog 26 #[v] w (SortPost l w) := by
  obtain ⟨A, cap, rfl, hlc, hcm, hrow⟩ := h.one
  by_cases hz : l.length = 0
  · obtain rfl : l = [] := List.eq_nil_of_length_eq_zero hz
    have hcl := Lib.hid (clone_zero A cap w)
    clear hrow h hlen hlc hcm hz
    go_enter Try.func26, Try.ntmps26
    go_wp2_with fail
    refine hcl.out.mono ?_
    rintro e w1 ⟨A1, cap1, rfl, hcap, k1⟩
    go_wp2_with fail
    refine (Try.slices_Sort_string_none A1 cap1 w1).mono ?_
    rintro e w2 ⟨rfl, rfl⟩
    go_wp2_with fail
    refine (Try.slices_Compact_string_empty A1 cap1 w2).mono ?_
    rintro e w3 ⟨rfl, rfl⟩
    have hs : Strs w3 (.slice A1 0 cap1) [] := ⟨A1, cap1, rfl, by simp, hcap, fun i hi => absurd hi (by simp)⟩
    have hck := Lib.hid (prog_check _ _ _ hs)
    go_wp2_with fail
    refine hck.out.mono ?_
    rintro e w4 ⟨rfl, rfl⟩
    have h0 : okL (sortL []) = true := by rw [sort_nil]; decide
    have hfin := Lib.hid (And.intro hs (And.intro k1 h0))
    clear hs hck k1 h0 hcl
    rw [show checkN [] = 0 by decide]
    go_wp2_with fail
    go_ret2
    refine ⟨.slice A1 0 cap1, ?_, by rw [sort_nil]; exact hfin.out.1, hfin.out.2.1⟩
    unfold checkN
    rw [hfin.out.2.2]
    rfl
  · obtain ⟨b, off, rfl, _⟩ := hrow 0 (by omega)
    have hcl := Lib.hid (Try.slices_Clone_string b off l.length cap l w (Nat.le_refl _) (by omega) fun j hj => by
      obtain ⟨b', off', e, hc⟩ := hrow j hj
      simp only [Option.some.injEq, Addr.mk.injEq, and_true] at e
      obtain ⟨rfl, rfl⟩ := e
      rw [hc]
      simp [List.getD, List.getElem?_eq_getElem hj])
    clear hrow h
    go_enter Try.func26, Try.ntmps26
    go_wp2_with fail
    refine hcl.out.mono ?_
    rintro e w1 ⟨v1, rfl, hown, _, k1⟩
    obtain ⟨_, hown⟩ := hown
    rcases hown with ⟨_, h0⟩ | ⟨g, cap1, cur, rfl, hg0, hb, hc1, hc2, _, ht⟩
    · omega
    rw [List.take_length, Nat.mul_one] at ht
    have hg1 : g < w1.heap.size := (show Blk w1 g cur 9 from hb).lt
    have hH := holds_of_blk hb ht
    have hg0' : w.heap.size ≤ w1.heap.size := k1.size
    have hsl : (bytesL l).length = l.length := by simp [bytesL]
    have hso := Try.slices_Sort_string g 0 cap1 (bytesL l) w1 hH hg1 (by omega)
    rw [hsl] at hso
    have hso := Lib.hid hso
    clear ht hb hcl
    go_wp2_with fail
    refine hso.out.mono ?_
    rintro e w2 ⟨rfl, n2, os2, hw2⟩
    obtain ⟨d, hd⟩ : ∃ d, d = (bytesL l).mergeSort fun x y => decide (x ≤ y) := ⟨_, rfl⟩
    have hdl : d.length = l.length := by rw [hd, List.length_mergeSort, hsl]
    rw [← hd] at hw2
    have hd' := Lib.hid hd
    clear hd
    have hH2 : Holds encStr w2 g 0 d.toArray := by
      rw [hw2]
      exact holds_grow _ _ _ _ _ _ (by simpa using hg1) (holds_putRow encStr (Sort.ahead w1 n2) g 0 (bytesL l).toArray d.toArray hH (by simp [hdl, hsl]))
    have k2 : Kp (fun i => i = g) w1 w2 := by
      rw [hw2]
      exact ((kp_ahead _ w1 n2).trans (kp_putRow encStr _ g 0 d.toArray)).trans (kp_grow _ _ os2)
    have hcp := Try.slices_Compact_string g 0 cap1 d w2 hH2 (by omega) (by omega)
    rw [hdl] at hcp
    have hcp := Lib.hid hcp
    have hb2 := k2.below_of k1 hg0' (fun i hi => by rw [hi]; exact hg0)
    clear hso hw2
    go_wp2_with fail
    refine hcp.out.mono ?_
    rintro e w3 ⟨rfl, q, hw3⟩
    have hlc2 := Lib.compact_length_le d
    have hH3 : Holds encStr w3 g 0 (Lib.compact d ++ List.replicate (l.length - (Lib.compact d).length) []).toArray := by
      rw [hw3]
      exact holds_putRow encStr (Sort.ahead w2 q) g 0 d.toArray _ hH2 (by simp; omega)
    have k3 : Kp (fun i => i = g) w2 w3 := by
      rw [hw3]
      exact (kp_ahead _ w2 q).trans (kp_putRow encStr _ g 0 _)
    have hb3 := k3.below_of hb2 hb2.size (fun i hi => by rw [hi]; exact hg0)
    have hs3 := strs_of_holds (n := (Lib.compact d).length) (cap := cap1) hH3 (by simp) (by omega) hc2
    rw [List.take_left, show (Lib.compact d).map mkL = sortL l by unfold sortL; rw [← hd'.out]] at hs3
    have hck := Lib.hid (prog_check _ _ _ hs3)
    clear hcp hw3 hH3 k3 hH2 k2 hH hb2
    go_wp2_with fail
    refine hck.out.mono ?_
    rintro e w4 ⟨rfl, rfl⟩
    have hfin : Strs w3 (.slice (some ⟨g, 0, none⟩) (Lib.compact d).length cap1) (sortL l) ∧ RowKit.Below w.heap.size w w3 := ⟨hs3, hb3⟩
    have hfin := Lib.hid hfin
    clear hs3 hck
    obtain ⟨z, hz⟩ : ∃ z, okL (sortL l) = z := ⟨_, rfl⟩
    have hz := Lib.hid hz
    unfold checkN
    cases z
    · rw [if_neg (by rw [hz.out]; decide)]
      go_wp2_with fail
      go_ret2
      refine ⟨_, ?_, hfin.out.1, hfin.out.2⟩
      unfold checkN
      rw [hz.out]
      rfl
    · rw [if_pos hz.out]
      go_wp2_with fail
      go_ret2
      refine ⟨_, ?_, hfin.out.1, hfin.out.2⟩
      unfold checkN
      rw [hz.out]
      rfl
end Go.Proofs.Ytahopbjoaoiknaa
