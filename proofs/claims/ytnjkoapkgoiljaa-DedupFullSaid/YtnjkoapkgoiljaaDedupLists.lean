/- Lists of keys and values, as a table of package dedup has them. -/
import Derived.Test.YtnjkoapkgoiljaaDedup
namespace Go.Proofs.Ytnjkoapkgoiljaa
open Go.RowKit

/-- The keys are a+1 .. a+k, in order. -/
def KeysIs (m : List (Int × Value)) (a : Int) (k : Nat) : Prop := m.map (·.1) = (List.range k).map fun j : Nat => a + 1 + (j : Int)

theorem KeysIs.len {m : List (Int × Value)} {a : Int} {k : Nat} (h : KeysIs m a k) : m.length = k := by
  have := congrArg List.length h
  simpa using this
theorem KeysIs.nil (a : Int) : KeysIs [] a 0 := rfl
theorem KeysIs.mem {m : List (Int × Value)} {a : Int} {k : Nat} (h : KeysIs m a k) : ∀ p ∈ m, a < p.1 ∧ p.1 ≤ a + k := by
  intro p hp
  have : p.1 ∈ m.map (·.1) := List.mem_map_of_mem hp
  rw [h] at this
  obtain ⟨j, hj, e⟩ := List.mem_map.1 this
  have := List.mem_range.1 hj
  omega
theorem putM_new {m : List (Int × Value)} {x : Int} (v : Value) (h : ∀ p ∈ m, p.1 ≠ x) : putM m x v = m ++ [(x, v)] := by
  have : (m.any fun p => decide (p.1 = x)) = false := by
    rw [List.any_eq_false]
    intro p hp
    simpa using h p hp
  simp [putM, this]
theorem KeysIs.put {m : List (Int × Value)} {a : Int} {k : Nat} (h : KeysIs m a k) (v : Value) : KeysIs (putM m (a + k + 1) v) a (k + 1) := by
  rw [putM_new v (fun p hp => by have := h.mem p hp; omega)]
  unfold KeysIs at *
  rw [List.map_append, h, List.range_succ, List.map_append]
  simp only [List.map_cons, List.map_nil]
  congr 2
  omega
theorem range_filter (a n : Int) (k : Nat) (h0 : a ≤ n) (h1 : n ≤ a + k) : ((List.range k).map fun j : Nat => a + 1 + (j : Int)).filter (fun x => decide (n < x)) = (List.range (a + k - n).toNat).map fun j : Nat => n + 1 + (j : Int) := by
  induction k with
  | zero =>
    have : (a + (0 : Nat) - n).toNat = 0 := by omega
    rw [this]
    rfl
  | succ k ih =>
    rw [List.range_succ, List.map_append, List.filter_append]
    by_cases h : n ≤ a + k
    · rw [ih h]
      have e : (a + ((k + 1 : Nat) : Int) - n).toNat = (a + k - n).toNat + 1 := by omega
      rw [e, List.range_succ, List.map_append]
      have : n < a + 1 + (k : Int) := by omega
      simp [this]
      omega
    · have e : (a + ((k + 1 : Nat) : Int) - n).toNat = 0 := by omega
      rw [e]
      have : ¬ n < a + 1 + (k : Int) := by omega
      simp [this]
      intro x hx
      omega
theorem KeysIs.kept {m : List (Int × Value)} {a : Int} {k : Nat} (h : KeysIs m a k) (n : Int) (h0 : a ≤ n) (h1 : n ≤ a + k) : KeysIs (Kept m n) n (a + k - n).toNat := by
  unfold KeysIs Kept at *
  have : (m.filter fun p => decide (n < p.1)).map (·.1) = (m.map (·.1)).filter (fun x => decide (n < x)) := by
    rw [List.filter_map]
    rfl
  rw [this, h, range_filter a n k h0 h1]
end Go.Proofs.Ytnjkoapkgoiljaa
