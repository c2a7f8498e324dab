/- What came in as an argument, opened by its type: cells, numbers, strings, slices, structs. Nothing of the program stands here. -/
import Derived.Test.YtahopbjoaoiknaaOwn
import Derived.ProofKit
import Derived.OpenShut
import Derived.Carry
namespace Go.Proofs.Ytahopbjoaoiknaa
set_option linter.unusedVariables false
set_option linter.unusedSimpArgs false
open Go.RowKit Go.ChangeShapes Go.WideShapes

/-- These cells read as a value of type t. -/
def CameC (P : Program) (w : World) (t : TypeId) (cs : List Value) : Prop :=
  ∃ (H : Type) (enc : TypeId × Value → H) (fuel : Nat) (d : DataW H) (ps : List MemPlace), DataW.trod enc P w 0 (fun _ => true) true fuel t cs = some (d, ps)

/-- An argument of type t that came in. -/
def Came (P : Program) (w : World) (t : TypeId) (v : Value) : Prop := CameC P w t v.cells.toList ∧ ∃ base, Value.okWide P w .any base t v

theorem Came.mk' {P : Program} {w : World} {t : TypeId} {v : Value} {base : Nat} {H : Type} {enc : TypeId × Value → H} {d : DataW H} {ps : List MemPlace}
    (h : DataW.Trod enc P w 0 (fun _ => true) true t v d ps) (ho : Value.okWide P w .any base t v) : Came P w t v := by
  obtain ⟨fuel, hf⟩ := h
  exact ⟨⟨H, enc, fuel, d, ps, hf⟩, base, ho⟩

section
variable {P : Program} {w : World} {t : TypeId} {cs : List Value}

theorem CameC.int {k : IntKind} (hu : P.underlying t = some (.int k)) (h : CameC P w t cs) : ∃ n, cs = [.int k n] ∧ (Lit.int k n).wf = true := by
  obtain ⟨H, enc, fuel, d, ps, h⟩ := h
  obtain ⟨n, rfl, _, hw⟩ := DataW.trod_int hu h
  exact ⟨n, rfl, hw⟩

theorem CameC.bool (hu : P.underlying t = some .bool) (h : CameC P w t cs) : ∃ b, cs = [.bool b] := by
  obtain ⟨H, enc, fuel, d, ps, h⟩ := h
  cases fuel with
  | zero => simp [DataW.trod] at h
  | succ n =>
    simp only [DataW.trod, hu] at h
    split at h <;> first | (exact ⟨_, rfl⟩) | simp_all

theorem CameC.string (hu : P.underlying t = some .string) (h : CameC P w t cs) : ∃ s, cs = [.string s] ∧ s.size ≤ maxLen := by
  obtain ⟨H, enc, fuel, d, ps, h⟩ := h
  cases fuel with
  | zero => simp [DataW.trod] at h
  | succ n =>
    simp only [DataW.trod, hu] at h
    split at h <;> first | (split at h <;> simp_all) | simp_all

theorem CameC.slice {e : TypeId} (hu : P.underlying t = some (.slice e)) (h : CameC P w t cs) :
    cs = [.slice none 0 0] ∨ ∃ a len cap, cs = [.slice (some a) len cap] ∧ len ≤ cap ∧ cap ≤ maxLen ∧ ∀ i, i < len → ∃ es, w.cells? 0 (a.add (i * P.cellsOf e)) (P.cellsOf e) = some es ∧ CameC P w e es := by
  obtain ⟨H, enc, fuel, d, ps, h⟩ := h
  cases fuel with
  | zero => simp [DataW.trod] at h
  | succ n =>
    simp only [DataW.trod, hu] at h
    split at h
    all_goals first | (exact .inl rfl) | skip
    all_goals first | (exfalso; simp_all; done) | skip
    rename_i e' a len cap hs
    obtain rfl : e = e' := by simpa using hs
    simp only [Nat.zero_le, true_and] at h
    split at h
    · rename_i hb
      refine .inr ⟨a, len, cap, rfl, hb.1, hb.2, fun i hi => ?_⟩
      obtain ⟨elems, hm, _⟩ := Option.bind_eq_some_iff.1 h
      have hall : ∀ (l : List Nat) (out : List (DataW H × List MemPlace)), l.mapM (fun i => (w.cells? 0 (a.add (i * P.cellsOf e)) (P.cellsOf e)).bind (DataW.trod enc P w 0 (fun _ => true) true n e)) = some out → ∀ i ∈ l, ∃ es, w.cells? 0 (a.add (i * P.cellsOf e)) (P.cellsOf e) = some es ∧ CameC P w e es := by
        intro l
        induction l with
        | nil => intro out _ i hi; simp at hi
        | cons x xs ih =>
          intro out ho i hi
          rw [List.mapM_cons] at ho
          obtain ⟨y, hy, ho⟩ := Option.bind_eq_some_iff.1 ho
          obtain ⟨ys, hys, _⟩ := Option.bind_eq_some_iff.1 ho
          rcases List.mem_cons.1 hi with rfl | hi
          · obtain ⟨es, he, ht⟩ := Option.bind_eq_some_iff.1 hy
            exact ⟨es, he, H, enc, n, y.1, y.2, ht⟩
          · exact ih ys hys i hi
      exact hall _ _ hm i (by simpa using hi)
    · simp at h

theorem CameC.struct {fs : Array Go.Field} (hu : P.underlying t = some (.struct fs)) (h : CameC P w t cs) :
    cs.length = P.cellsOf t ∧ ∀ f ∈ fs.toList, CameC P w f.type ((cs.drop f.offset).take (P.cellsOf f.type)) := by
  obtain ⟨H, enc, fuel, d, ps, h⟩ := h
  cases fuel with
  | zero => simp [DataW.trod] at h
  | succ n =>
    simp only [DataW.trod, hu] at h
    split at h
    · rename_i hl
      refine ⟨hl, ?_⟩
      obtain ⟨xs, hm, _⟩ := Option.map_eq_some_iff.1 h
      have hall : ∀ (l : List Go.Field) (out : List (DataW H × List MemPlace)), l.mapM (fun f => DataW.trod enc P w 0 (fun _ => true) true n f.type ((cs.drop f.offset).take (P.cellsOf f.type))) = some out → ∀ f ∈ l, CameC P w f.type ((cs.drop f.offset).take (P.cellsOf f.type)) := by
        intro l
        induction l with
        | nil => intro out _ i hi; simp at hi
        | cons x xs ih =>
          intro out ho i hi
          rw [List.mapM_cons] at ho
          obtain ⟨y, hy, ho⟩ := Option.bind_eq_some_iff.1 ho
          obtain ⟨ys, hys, _⟩ := Option.bind_eq_some_iff.1 ho
          rcases List.mem_cons.1 hi with rfl | hi
          · exact ⟨H, enc, n, y.1, y.2, hy⟩
          · exact ih ys hys i hi
      exact hall _ _ hm
    · simp at h
end

section
variable {P : Program} {w : World} {t : TypeId} {v : Value}
theorem Came.int {k : IntKind} (hu : P.underlying t = some (.int k)) (h : Came P w t v) : ∃ n, v = .int k n ∧ (Lit.int k n).wf = true := by
  obtain ⟨hc, base, ho⟩ := h
  obtain ⟨n, rfl⟩ := okWide_int hu ho
  obtain ⟨m, e, hw⟩ := CameC.int hu hc
  simp [Value.cells] at e
  exact ⟨n, rfl, by rw [e]; exact hw⟩
theorem Came.bool (hu : P.underlying t = some .bool) (h : Came P w t v) : ∃ b, v = .bool b := by
  obtain ⟨hc, base, ho⟩ := h
  exact okWide_bool hu ho
theorem Came.string (hu : P.underlying t = some .string) (h : Came P w t v) : ∃ s, v = .string s ∧ s.size ≤ maxLen := by
  obtain ⟨hc, base, ho⟩ := h
  obtain ⟨s, rfl⟩ := okWide_string hu ho
  obtain ⟨m, e, hw⟩ := CameC.string hu hc
  simp [Value.cells] at e
  exact ⟨s, rfl, by rw [e]; exact hw⟩
theorem Came.slice {e : TypeId} (hu : P.underlying t = some (.slice e)) (h : Came P w t v) :
    ∃ A len cap, v = .slice A len cap ∧ len ≤ cap ∧ cap ≤ maxLen ∧ ∀ i, i < len → ∃ a es, A = some a ∧ w.cells? 0 (a.add (i * P.cellsOf e)) (P.cellsOf e) = some es ∧ CameC P w e es := by
  obtain ⟨hc, base, ho⟩ := h
  obtain ⟨A, len, cap, rfl⟩ := okWide_slice hu ho
  rcases CameC.slice hu hc with h | ⟨a, l, c, h, h1, h2, h3⟩
  · simp [Value.cells] at h
    obtain ⟨rfl, rfl, rfl⟩ := h
    exact ⟨none, 0, 0, rfl, Nat.le_refl _, Nat.zero_le _, fun i hi => absurd hi (by omega)⟩
  · simp [Value.cells] at h
    obtain ⟨rfl, rfl, rfl⟩ := h
    refine ⟨_, _, _, rfl, h1, h2, fun i hi => ?_⟩
    obtain ⟨es, h4, h5⟩ := h3 i hi
    exact ⟨a, es, rfl, h4, h5⟩
end

theorem add_add (a : Addr) (i j : Nat) : (a.add i).add j = a.add (i + j) := by
  unfold Addr.add
  by_cases h1 : i = 0 <;> by_cases h2 : j = 0 <;> simp [h1, h2, Nat.add_assoc]

/-- The cells of a row, one by one. -/
theorem cells?_at {w : World} {base n : Nat} {a : Addr} {es : List Value} (h : w.cells? base a n = some es) : es.length = n ∧ ∀ j, j < n → w.cell? (a.add j) = es[j]? := by
  unfold World.cells? at h
  split at h
  · have key : ∀ (l : List Nat) (out : List Value), l.mapM (fun i => w.cell? (a.add i)) = some out → out.length = l.length ∧ ∀ (j : Nat) (x : Nat), l[j]? = some x → w.cell? (a.add x) = out[j]? := by
      intro l
      induction l with
      | nil => intro out ho; simp at ho; subst ho; simp
      | cons x xs ih =>
        intro out ho
        rw [List.mapM_cons] at ho
        obtain ⟨y, hy, ho⟩ := Option.bind_eq_some_iff.1 ho
        obtain ⟨ys, hys, ho⟩ := Option.bind_eq_some_iff.1 ho
        obtain rfl : y :: ys = out := by simpa using ho
        obtain ⟨hl, hj⟩ := ih ys hys
        refine ⟨by simp [hl], fun j z hz => ?_⟩
        cases j with
        | zero => simp at hz; subst hz; simpa using hy
        | succ j => simpa using hj j z (by simpa using hz)
    obtain ⟨hl, hj⟩ := key _ _ h
    exact ⟨by simpa using hl, fun j hlt => hj j j (by simp [hlt])⟩
  · simp at h

theorem add_form (b off n : Nat) : (⟨b, off, none⟩ : Addr).add n = ⟨b, off + n, none⟩ := by
  unfold Addr.add; split <;> simp_all

theorem cell_spot {w : World} {a : Addr} {v : Value} (h : w.cell? a = some v) : a = ⟨a.block, a.off, none⟩ := by
  obtain ⟨b, o, s⟩ := a
  cases s with
  | none => rfl
  | some s => simp [World.cell?] at h; split at h <;> simp_all

/-- Element i of a row that came in: its cells. -/
def RowEl (P : Program) (w : World) (A : Option Addr) (e : TypeId) (c : Nat) (i : Nat) (b off : Nat) (es : List Value) : Prop :=
  A = some ⟨b, off, none⟩ ∧ es.length = c ∧ (∀ j, j < c → w.cell? ⟨b, off + i * c + j, none⟩ = es[j]?) ∧ CameC P w e es

theorem row_of {P : Program} {w : World} {e : TypeId} {c len : Nat} {A : Option Addr} (hc : P.cellsOf e = c) (h0 : 0 < c)
    (h : ∀ i, i < len → ∃ a es, A = some a ∧ w.cells? 0 (a.add (i * P.cellsOf e)) (P.cellsOf e) = some es ∧ CameC P w e es) :
    ∀ i, i < len → ∃ b off es, RowEl P w A e c i b off es := by
  intro i hi
  rw [hc] at h
  obtain ⟨a, es0, rfl, h1, _⟩ := h 0 (by omega)
  have hz := (cells?_at h1).2 0 h0
  have hl := (cells?_at h1).1
  have hs : a = ⟨a.block, a.off, none⟩ := by
    have : w.cell? a = some (es0[0]'(by omega)) := by
      rw [List.getElem?_eq_getElem (by omega)] at hz
      simpa [Addr.add] using hz
    exact cell_spot this
  obtain ⟨a', es, e', h3, h4⟩ := h i hi
  obtain rfl : a = a' := by simpa using e'
  refine ⟨a.block, a.off, es, by rw [← hs], (cells?_at h3).1, fun j hj => ?_, h4⟩
  have := (cells?_at h3).2 j hj
  rw [add_add, hs, add_form, ← Nat.add_assoc] at this
  exact this

theorem Came.row {P : Program} {w : World} {t : TypeId} {v : Value} {e : TypeId} {c : Nat} (hu : P.underlying t = some (.slice e)) (hc : P.cellsOf e = c) (h0 : 0 < c) (h : Came P w t v) :
    ∃ A len cap, v = .slice A len cap ∧ len ≤ cap ∧ cap ≤ maxLen ∧ ∀ i, i < len → ∃ b off es, RowEl P w A e c i b off es := by
  obtain ⟨A, len, cap, rfl, h1, h2, h3⟩ := Came.slice hu h
  exact ⟨A, len, cap, rfl, h1, h2, row_of hc h0 h3⟩

theorem CameC.row {P : Program} {w : World} {t : TypeId} {cs : List Value} {e : TypeId} {c : Nat} (hu : P.underlying t = some (.slice e)) (hc : P.cellsOf e = c) (h0 : 0 < c) (h : CameC P w t cs) :
    ∃ A len cap, cs = [.slice A len cap] ∧ len ≤ cap ∧ cap ≤ maxLen ∧ ∀ i, i < len → ∃ b off es, RowEl P w A e c i b off es := by
  rcases CameC.slice hu h with rfl | ⟨a, l, cap, rfl, h1, h2, h3⟩
  · exact ⟨none, 0, 0, rfl, Nat.le_refl _, Nat.zero_le _, fun i hi => absurd hi (by omega)⟩
  · refine ⟨_, _, _, rfl, h1, h2, row_of hc h0 fun i hi => ?_⟩
    obtain ⟨es, h4, h5⟩ := h3 i hi
    exact ⟨a, es, rfl, h4, h5⟩

/-- A slice that came in: its elements' type e, of c cells. -/
def SlIn (P : Program) (w : World) (e : TypeId) (c : Nat) (A : Option Addr) (len cap : Nat) : Prop :=
  len ≤ cap ∧ cap ≤ maxLen ∧ ∀ i, i < len → ∃ b off es, RowEl P w A e c i b off es

theorem CameC.slIn {P : Program} {w : World} {t : TypeId} {cs : List Value} {e : TypeId} {c : Nat} (hu : P.underlying t = some (.slice e)) (hc : P.cellsOf e = c) (h0 : 0 < c) (h : CameC P w t cs) :
    ∃ A len cap, cs = [.slice A len cap] ∧ SlIn P w e c A len cap := by
  obtain ⟨A, len, cap, e', h1, h2, h3⟩ := CameC.row hu hc h0 h
  exact ⟨A, len, cap, e', h1, h2, h3⟩

theorem Came.slIn {P : Program} {w : World} {t : TypeId} {v : Value} {e : TypeId} {c : Nat} (hu : P.underlying t = some (.slice e)) (hc : P.cellsOf e = c) (h0 : 0 < c) (h : Came P w t v) :
    ∃ A len cap, v = .slice A len cap ∧ SlIn P w e c A len cap := by
  obtain ⟨A, len, cap, e', h1, h2, h3⟩ := Came.row hu hc h0 h
  exact ⟨A, len, cap, e', h1, h2, h3⟩

theorem cons_of {α : Type} {l : List α} {n : Nat} (h : l.length = n + 1) : ∃ c l', l = c :: l' ∧ l'.length = n := by
  cases l with
  | nil => simp at h
  | cons c l => exact ⟨c, l, rfl, by simpa using h⟩

theorem key_of {P : Program} {w : World} {cs : List Value} {fs : Array Go.Field} {l : List (TypeId × Nat)} (hf : fs.toList.map (fun f => (f.type, f.offset)) = l)
    (hs : ∀ f ∈ fs.toList, CameC P w f.type ((cs.drop f.offset).take (P.cellsOf f.type))) {t : TypeId} {o : Nat} (hm : (t, o) ∈ l) : CameC P w t ((cs.drop o).take (P.cellsOf t)) := by
  rw [← hf] at hm
  obtain ⟨f, hfm, hfe⟩ := List.mem_map.1 hm
  simp only [Prod.mk.injEq] at hfe
  obtain ⟨rfl, rfl⟩ := hfe
  exact hs f hfm

end Go.Proofs.Ytahopbjoaoiknaa
