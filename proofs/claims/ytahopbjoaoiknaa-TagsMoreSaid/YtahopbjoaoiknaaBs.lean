/- A slice's literal of one or two structs, as one operation. Nothing of the program stands here. -/
import Derived.Test.YtahopbjoaoiknaaSt
namespace Go.Proofs.Ytahopbjoaoiknaa
set_option linter.unusedVariables false
set_option linter.unusedSimpArgs false
open Go.RowKit

theorem fold_off : ∀ (l pre old post : List Value) (k off : Nat), pre.length = off + k → old.length = l.length →
    List.foldl (fun (cs : Array Value) (x : Value × Nat) => cs.setIfInBounds (off + x.2) x.1) (pre ++ old ++ post).toArray (l.zipIdx k) = (pre ++ l ++ post).toArray
  | [], pre, old, post, k, off, _, h => by
    have : old = [] := List.eq_nil_of_length_eq_zero (by simpa using h)
    simp [this]
  | x :: l, pre, old, post, k, off, hk, h => by
    cases old with
    | nil => simp at h
    | cons o old =>
      have ih := fold_off l (pre ++ [x]) old post (k + 1) off (by simp [hk]; omega) (by simpa using h)
      rw [List.zipIdx_cons, List.foldl_cons]
      have : (pre ++ o :: old ++ post).toArray.setIfInBounds (off + k) x = (pre ++ [x] ++ old ++ post).toArray := by
        rw [← hk]
        simp
      simp only at this ⊢
      rw [this, ih]
      simp

theorem res_cell1 {fn : Func} {p : Tmp} {ty : TypeId} (h : fn.results = #[.cell p ty]) (tmps : Array Value) (P : Program) (w : World) :
    (results fn tmps).run P w = ((asAddr (tmps.getD p undef)).run P w).andThen fun a w₁ => (loadVar ty a).run P w₁ := by
  simp only [results, h]
  simp [Sem.run_bind, Result.andThen]

/-- One result, a struct that lies in block g. -/
theorem res_struct1 {P : Program} {fn : Func} {p : Tmp} {ty : TypeId} {d : TypeDesc} {n : Nat} (h : fn.results = #[.cell p ty]) (hu : P.underlying ty = some d) (hd : (match d with | .struct _ | .array _ _ => true | _ => false) = true) (hi : (P.info? ty).map (·.size) = some n) (hn : 0 < n)
    {tmps : Array Value} {w : World} {g : Nat} {cs : Array Value} (hp : tmps.getD p undef = .pointer (some ⟨g, 0, none⟩)) (hr : rowOf w g = cs) (hc : cs.size = n) :
    (results fn tmps).run P w = .ok (.agg cs) w := by
  subst hr
  obtain ⟨t', hb⟩ := rowOf_blk (w := w) (g := g) (by omega)
  have := run_loadVar_row (P := P) w g t' ty (rowOf w g) (0, 0) d hb hu hd (by rw [hi, hc])
  rw [res_cell1 h, hp]
  simp [asAddr, this, Result.andThen]
section
variable {P : Program} {st et : TypeId} {n : Nat} {z : Value}
theorem fill1 (Z cs : Array Value) (h0 : 0 < n) (hZ : Z.size = n) (v : Value) (hv : v.cells = cs) (hc : cs.size = n) : Instr.fill (fun i => some (i * n, n)) Z [(0, v)] = some cs := by
  unfold Instr.fill
  simp only [Nat.zero_mul, Nat.zero_add, hv, hc, hZ, ne_eq, not_true_eq_false, decide_false, Bool.false_or, decide_eq_true_eq]
  rw [if_neg (by simp)]
  unfold Instr.fill
  have := fold_off cs.toList [] Z.toList [] 0 0 rfl (by simp [hZ, hc])
  simp only [List.nil_append, List.append_nil, Array.toArray_toList, Nat.zero_add] at this
  rw [← Array.toList_zipIdx] at this
  simp only [Array.foldl_toList] at this
  rw [this]
theorem fill2 (Z cs ds : Array Value) (hZ : Z.size = n + n) (v u : Value) (hv : v.cells = cs) (hu : u.cells = ds) (hc : cs.size = n) (hd : ds.size = n) : Instr.fill (fun i => some (i * n, n)) Z [(0, v), (1, u)] = some (cs ++ ds) := by
  obtain ⟨l1, l2, hZl, h1, h2⟩ : ∃ l1 l2 : List Value, Z = (l1 ++ l2).toArray ∧ l1.length = n ∧ l2.length = n := by
    refine ⟨Z.toList.take n, Z.toList.drop n, by simp, by simp; omega, by simp; omega⟩
  unfold Instr.fill
  simp only [Nat.zero_mul, Nat.zero_add, hv, hc, hZ, ne_eq, not_true_eq_false, decide_false, Bool.false_or, decide_eq_true_eq]
  rw [if_neg (by omega)]
  have e1 := fold_off cs.toList [] l1 l2 0 0 rfl (by simp [h1, hc])
  simp only [List.nil_append, Nat.zero_add] at e1
  rw [← Array.toList_zipIdx] at e1
  simp only [Array.foldl_toList] at e1
  rw [hZl, e1]
  unfold Instr.fill
  simp only [Nat.one_mul, hu, hd, ne_eq, not_true_eq_false, decide_false, Bool.false_or, decide_eq_true_eq]
  rw [if_neg (by simp [hc, h2])]
  unfold Instr.fill
  have e2 := fold_off ds.toList cs.toList l2 [] 0 n (by simp [hc]) (by simp [h2, hd])
  simp only [List.append_nil] at e2
  rw [← Array.toList_zipIdx] at e2
  simp only [Array.foldl_toList] at e2
  rw [e2]
  simp

theorem ex_bs1 (hs : P.underlying st = some (.slice et)) (hi : (P.info? et).map (·.size) = some n) (hz : ∀ w, (zeroValue et).run P w = .ok z w) (hzn : z.cells.size = n) (hn : 0 < n) (hsm : n ≤ 1000)
    (ρ : Operand → Value) (dst : Option Tmp) (x : Operand) (ty : TypeId) (pos : String) (after : Array Edge) (gd : Option (Nat × Bool)) (w : World) (h : (ρ x).cells.size = n) :
    (execOp ρ ⟨dst, .buildSlice st 1 #[(0, x)], ty, pos, after, gd⟩).run P w = .ok (.value (.slice (some ⟨w.heap.size, 0, none⟩) 1 1)) (w.alloc (.cells (ρ x).cells et)) := by
  obtain ⟨i, hi1, hi2⟩ := Option.map_eq_some_iff.1 hi
  have hf := fill1 ((Array.range (1 * n)).map (z.cells[· % z.cells.size]!)) (ρ x).cells hn (by simp) (ρ x) rfl h
  have h1 : ¬ (2 ^ 24 < 1 * n) := by omega
  have h2 : ¬ (1 * n = 0) := by omega
  simp only [Nat.one_mul] at hf h1 h2
  simp [execOp, Instr.buildSlice, run_underlying hs, sizeOf, typeInfo, hi1, hi2, h2, hz, hf, Result.andThen, newRow, show ¬ 16777216 < n by omega]
theorem ex_bs2 (hs : P.underlying st = some (.slice et)) (hi : (P.info? et).map (·.size) = some n) (hz : ∀ w, (zeroValue et).run P w = .ok z w) (hzn : z.cells.size = n) (hn : 0 < n) (hsm : n ≤ 1000)
    (ρ : Operand → Value) (dst : Option Tmp) (x y : Operand) (ty : TypeId) (pos : String) (after : Array Edge) (gd : Option (Nat × Bool)) (w : World) (h : (ρ x).cells.size = n) (h' : (ρ y).cells.size = n) :
    (execOp ρ ⟨dst, .buildSlice st 2 #[(0, x), (1, y)], ty, pos, after, gd⟩).run P w = .ok (.value (.slice (some ⟨w.heap.size, 0, none⟩) 2 2)) (w.alloc (.cells ((ρ x).cells ++ (ρ y).cells) et)) := by
  obtain ⟨i, hi1, hi2⟩ := Option.map_eq_some_iff.1 hi
  have hf := fill2 ((Array.range (2 * n)).map (z.cells[· % z.cells.size]!)) (ρ x).cells (ρ y).cells (by simp; omega) (ρ x) (ρ y) rfl rfl h h'
  have h2 : ¬ (2 * n = 0) := by omega
  simp [execOp, Instr.buildSlice, run_underlying hs, sizeOf, typeInfo, hi1, hi2, h2, hz, hf, Result.andThen, newRow, show ¬ 16777216 < 2 * n by omega]
end
end Go.Proofs.Ytahopbjoaoiknaa
