/- Tags: the reference's Has, Match, Fine; the program's Check. -/
import Derived.Test.YtahopbjoaoiknaaStrs
import Derived.Test.YtahopbjoaoiknaaShelf
namespace Go.Proofs.Ytahopbjoaoiknaa
set_option linter.unusedVariables false
set_option linter.unusedSimpArgs false
open Go.RowKit

def hasL (l : List ByteArray) (t : ByteArray) : Bool := l.any fun s => decide (s = t)
theorem hasL_true {l : List ByteArray} {t : ByteArray} (h : t ∈ l) : hasL l t = true := by
  unfold hasL
  rw [List.any_eq_true]
  exact ⟨t, h, by simp⟩
theorem hasL_false {l : List ByteArray} {t : ByteArray} (h : t ∉ l) : hasL l t = false := by
  unfold hasL
  rw [List.any_eq_false]
  intro x hx
  simp
  intro e
  exact h (e ▸ hx)
theorem hasL_iff {l : List ByteArray} {t : ByteArray} : hasL l t = true ↔ t ∈ l := by
  constructor
  · intro h
    by_cases hm : t ∈ l
    · exact hm
    · rw [hasL_false hm] at h; cases h
  · exact hasL_true

theorem strb_inj {x t : ByteArray} (e : x.toList = t.toList) : x = t := by
  rw [ByteArray.toList_eq, ByteArray.toList_eq] at e
  cases x
  cases t
  simpa using e
theorem strb_ne {x t : ByteArray} (h : x ≠ t) : (x.toList == t.toList) = false := by
  rw [beq_eq_false_iff_ne]
  exact fun e => h (strb_inj e)

def HasRel (w : World) (l : List ByteArray) (t : ByteArray) (i : Value) (wr : World) : Prop := ∃ k : Nat, k ≤ l.length ∧ i = .int .i64 k ∧ (∀ j (h : j < l.length), j < k → l[j] ≠ t) ∧ w = wr

/-- A filter's three lists, told. -/
def FilR (w : World) (cs : List Value) (al an no : List ByteArray) : Prop := ∃ a y n, cs = [a, y, n] ∧ Strs w a al ∧ Strs w y an ∧ Strs w n no
theorem FilR.keeps {w w' : World} {cs : List Value} {al an no : List ByteArray} (h : FilR w cs al an no) (k : Keeps w w') : FilR w' cs al an no := by
  obtain ⟨a, y, n, e, h1, h2, h3⟩ := h
  exact ⟨a, y, n, e, h1.keeps k, h2.keeps k, h3.keeps k⟩

def matchL (al an no l : List ByteArray) : Bool := (al.all fun t => hasL l t) && !(no.any fun t => hasL l t) && (an.isEmpty || an.any fun t => hasL l t)

def AllRel (w : World) (al l : List ByteArray) (i : Value) (wr : World) : Prop := ∃ k : Nat, k ≤ al.length ∧ i = .int .i64 k ∧ (∀ j (h : j < al.length), j < k → hasL l al[j] = true) ∧ w = wr
def NoRel (w : World) (no l : List ByteArray) (i : Value) (wr : World) : Prop := ∃ k : Nat, k ≤ no.length ∧ i = .int .i64 k ∧ (∀ j (h : j < no.length), j < k → hasL l no[j] = false) ∧ w = wr

theorem all_of {al l : List ByteArray} (h : ∀ j (h : j < al.length), hasL l al[j] = true) : (al.all fun t => hasL l t) = true := by
  rw [List.all_eq_true]
  intro t ht
  obtain ⟨j, hj, rfl⟩ := List.mem_iff_getElem.1 ht
  exact h j hj
theorem any_none {al l : List ByteArray} (h : ∀ j (h : j < al.length), hasL l al[j] = false) : (al.any fun t => hasL l t) = false := by
  rw [List.any_eq_false]
  intro t ht
  obtain ⟨j, hj, rfl⟩ := List.mem_iff_getElem.1 ht
  simp [h j hj]

end Go.Proofs.Ytahopbjoaoiknaa
