/- Lists of keys and values, as a table of package dedup has them. -/
import Derived.Test.YtnjkoapkgoiljaaDedup
namespace Go.Proofs.Ytnjkoapkgoiljaa
open Go.RowKit

/-- The keys are a+1 .. a+k, in order. -/
def KeysIs (m : List (Int × Value)) (a : Int) (k : Nat) : Prop := m.map (·.1) = (List.range k).map fun j : Nat => a + 1 + (j : Int)

theorem KeysIs.len {m : List (Int × Value)} {a : Int} {k : Nat} (h : KeysIs m a k) : m.length = k := by
  have := congrArg List.length h
  simpa using this
theorem KeysIs.nil (a : Int) : KeysIs [] a 0 := rfl
theorem KeysIs.mem {m : List (Int × Value)} {a : Int} {k : Nat} (h : KeysIs m a k) : ∀ p ∈ m, a < p.1 ∧ p.1 ≤ a + k := by
  intro p hp
  have : p.1 ∈ m.map (·.1) := List.mem_map_of_mem hp
  rw [h] at this
  obtain ⟨j, hj, e⟩ := List.mem_map.1 this
  have := List.mem_range.1 hj
  omega
theorem putM_new {m : List (Int × Value)} {x : Int} (v : Value) (h : ∀ p ∈ m, p.1 ≠ x) : putM m x v = m ++ [(x, v)] := by
  have : (m.any fun p => decide (p.1 = x)) = false := by
    rw [List.any_eq_false]
    intro p hp
    simpa using h p hp
  simp [putM, this]
theorem KeysIs.put {m : List (Int × Value)} {a : Int} {k : Nat} (h : KeysIs m a k) (v : Value) : KeysIs (putM m (a + k + 1) v) a (k + 1) := by
  rw [putM_new v (fun p hp => by have := h.mem p hp; omega)]
  unfold KeysIs at *
  rw [List.map_append, h, List.range_succ, List.map_append]
  simp only [List.map_cons, List.map_nil]
  congr 2
  omega
theorem range_filter (a n : Int) (k : Nat) (h0 : a ≤ n) (h1 : n ≤ a + k) : ((List.range k).map fun j : Nat => a + 1 + (j : Int)).filter (fun x => decide (n < x)) = (List.range (a + k - n).toNat).map fun j : Nat => n + 1 + (j : Int) := by
  induction k with
  | zero =>
    have : (a + (0 : Nat) - n).toNat = 0 := by omega
    rw [this]
    rfl
  | succ k ih =>
    rw [List.range_succ, List.map_append, List.filter_append]
    by_cases h : n ≤ a + k
    · rw [ih h]
      have e : (a + ((k + 1 : Nat) : Int) - n).toNat = (a + k - n).toNat + 1 := by omega
      rw [e, List.range_succ, List.map_append]
      have : n < a + 1 + (k : Int) := by omega
      simp [this]
      omega
    · have e : (a + ((k + 1 : Nat) : Int) - n).toNat = 0 := by omega
      rw [e]
      have : ¬ n < a + 1 + (k : Int) := by omega
      simp [this]
      intro x hx
      omega
theorem KeysIs.kept {m : List (Int × Value)} {a : Int} {k : Nat} (h : KeysIs m a k) (n : Int) (h0 : a ≤ n) (h1 : n ≤ a + k) : KeysIs (Kept m n) n (a + k - n).toNat := by
  unfold KeysIs Kept at *
  have : (m.filter fun p => decide (n < p.1)).map (·.1) = (m.map (·.1)).filter (fun x => decide (n < x)) := by
    rw [List.filter_map]
    rfl
  rw [this, h, range_filter a n k h0 h1]

/-- Answers told by their numbers. -/
def Ents (f : Int → Value) (a : Int) (k : Nat) : List (Int × Value) := (List.range k).map fun j : Nat => (a + 1 + (j : Int), f (a + 1 + (j : Int)))
theorem Ents.keys (f : Int → Value) (a : Int) (k : Nat) : KeysIs (Ents f a k) a k := by
  unfold KeysIs Ents
  rw [List.map_map]
  rfl
theorem Ents.put (f : Int → Value) (a : Int) (k : Nat) : putM (Ents f a k) (a + k + 1) (f (a + k + 1)) = Ents f a (k + 1) := by
  rw [putM_new _ (fun p hp => by have := (Ents.keys f a k).mem p hp; omega)]
  unfold Ents
  rw [List.range_succ, List.map_append]
  have : a + (k : Int) + 1 = a + 1 + k := by omega
  simp [this]
theorem Ents.val (f : Int → Value) (a : Int) (k : Nat) : ∀ p ∈ Ents f a k, p.2 = f p.1 := by
  intro p hp
  obtain ⟨j, _, rfl⟩ := List.mem_map.1 hp
  rfl
theorem Ents.eq_of {f : Int → Value} {a : Int} {k : Nat} {m : List (Int × Value)} (h : KeysIs m a k) (hv : ∀ p ∈ m, p.2 = f p.1) : m = Ents f a k := by
  have h1 : m = m.map (fun p => (p.1, f p.1)) := by
    conv => lhs; rw [← List.map_id m]
    refine List.map_congr_left fun p hp => ?_
    rw [← hv p hp]
    rfl
  have h2 : m.map (fun p => (p.1, f p.1)) = (m.map (·.1)).map (fun x => (x, f x)) := by rw [List.map_map]; rfl
  rw [h1, h2, h, List.map_map]
  rfl
theorem Ents.kept (f : Int → Value) (a n : Int) (k : Nat) (h0 : a ≤ n) (h1 : n ≤ a + k) : Kept (Ents f a k) n = Ents f n (a + k - n).toNat :=
  Ents.eq_of ((Ents.keys f a k).kept n h0 h1) (fun p hp => Ents.val f a k p (List.mem_filter.1 hp).1)
theorem Ents.look (f : Int → Value) (a x : Int) (k : Nat) (h0 : a < x) (h1 : x ≤ a + k) : lookM (Ents f a k) x = some (f x) := by
  have hmem : (x, f x) ∈ Ents f a k := List.mem_map.2 ⟨(x - a - 1).toNat, List.mem_range.2 (by omega), by
    have : a + 1 + ((x - a - 1).toNat : Int) = x := by omega
    rw [this]⟩
  unfold lookM
  cases hf : (Ents f a k).find? (fun p => decide (p.1 = x)) with
  | none =>
    have := List.find?_eq_none.1 hf _ hmem
    simp at this
  | some p =>
    have h2 := List.find?_some hf
    have h3 := Ents.val f a k p (List.mem_of_find?_eq_some hf)
    simp at h2
    simp [h3, h2]
end Go.Proofs.Ytnjkoapkgoiljaa
