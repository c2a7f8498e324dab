/- Slices that are read: their contents as lists, carried to later worlds. Nothing of the program stands here. -/
import Derived.Test.YtahopbjoaoiknaaCame
namespace Go.Proofs.Ytahopbjoaoiknaa
set_option linter.unusedVariables false
set_option linter.unusedSimpArgs false
open Go.RowKit

/-- What is in w is as it was in w'. -/
def Keeps (w w' : World) : Prop := ∀ a v, w.cell? a = some v → w'.cell? a = some v

theorem Keeps.refl (w : World) : Keeps w w := fun _ _ h => h
theorem Keeps.trans {a b c : World} (h : Keeps a b) (k : Keeps b c) : Keeps a c := fun p v hp => k p v (h p v hp)

theorem cell_block {w : World} {a : Addr} {v : Value} (h : w.cell? a = some v) : a.block < w.heap.size := by
  obtain ⟨b, o, s⟩ := a
  unfold World.cell? at h
  by_cases hb : b < w.heap.size
  · exact hb
  · exfalso
    have : w.heap[b]? = none := by simp; omega
    simp [this] at h

theorem Keeps.kp {w w' : World} (k : Kp (fun _ => False) w w') : Keeps w w' := fun _ _ h => k.cell0 h
theorem Keeps.below {w w' : World} (k : Below w.heap.size w w') : Keeps w w' := fun _ _ h => (Kp.of_below (fun _ => False) k).cell0 h
theorem Keeps.alloc (w : World) (o : Obj) : Keeps w (w.alloc o) := Keeps.kp ((Kp.refl _ _).alloc _)
theorem Keeps.drew (w : World) : Keeps w w.drew := fun _ _ h => h

/-- v is a slice of elements of c cells; what R tells of element i's cells is l[i]. -/
def RowN {α : Type} (c : Nat) (R : World → List Value → α → Prop) (w : World) (v : Value) (l : List α) : Prop :=
  ∃ A cap, v = .slice A l.length cap ∧ l.length ≤ cap ∧ cap ≤ maxLen ∧
    ∀ i (h : i < l.length), ∃ b off es, A = some ⟨b, off, none⟩ ∧ es.length = c ∧ (∀ j, j < c → w.cell? ⟨b, off + i * c + j, none⟩ = es[j]?) ∧ R w es l[i]

theorem RowN.keeps {α : Type} {c : Nat} {R : World → List Value → α → Prop} {w w' : World} {v : Value} {l : List α} (h : RowN c R w v l) (k : Keeps w w') (hR : ∀ es x, R w es x → R w' es x) : RowN c R w' v l := by
  obtain ⟨A, cap, rfl, h1, h2, h3⟩ := h
  refine ⟨A, cap, rfl, h1, h2, fun i hi => ?_⟩
  obtain ⟨b, off, es, rfl, hl, hc, hr⟩ := h3 i hi
  refine ⟨b, off, es, rfl, hl, fun j hj => ?_, hR _ _ hr⟩
  have := hc j hj
  rw [List.getElem?_eq_getElem (by omega)] at this ⊢
  exact k _ _ this

theorem RowN.nil {α : Type} (c : Nat) (R : World → List Value → α → Prop) (w : World) : RowN c R w (.slice none 0 0) [] :=
  ⟨none, 0, rfl, Nat.le_refl _, Nat.zero_le _, fun i hi => absurd hi (by simp)⟩

theorem choose_list {α : Type} {n : Nat} {Q : Nat → α → Prop} (h : ∀ i, i < n → ∃ a, Q i a) : ∃ l : List α, l.length = n ∧ ∀ i (hi : i < l.length), Q i l[i] := by
  induction n with
  | zero => exact ⟨[], rfl, fun i hi => absurd hi (by simp)⟩
  | succ n ih =>
    obtain ⟨l, hl, hq⟩ := ih fun i hi => h i (by omega)
    obtain ⟨a, ha⟩ := h n (by omega)
    refine ⟨l ++ [a], by simp [hl], fun i hi => ?_⟩
    by_cases hlt : i < l.length
    · rw [List.getElem_append_left hlt]; exact hq i hlt
    · have : i = n := by simp at hi; omega
      subst this
      rw [List.getElem_append_right (by omega)]
      simpa using ha

theorem SlIn.rowN {α : Type} {P : Program} {w : World} {e : TypeId} {c : Nat} {A : Option Addr} {len cap : Nat} {R : World → List Value → α → Prop} (h : SlIn P w e c A len cap)
    (hR : ∀ es, CameC P w e es → ∃ x, R w es x) : ∃ l, l.length = len ∧ RowN c R w (.slice A len cap) l := by
  obtain ⟨h1, h2, h3⟩ := h
  have hq : ∀ i, i < len → ∃ x, ∃ b off es, A = some ⟨b, off, none⟩ ∧ es.length = c ∧ (∀ j, j < c → w.cell? ⟨b, off + i * c + j, none⟩ = es[j]?) ∧ R w es x := by
    intro i hi
    obtain ⟨b, off, es, hA, hl, hc, hcame⟩ := h3 i hi
    obtain ⟨x, hx⟩ := hR es hcame
    exact ⟨x, b, off, es, hA, hl, hc, hx⟩
  obtain ⟨l, hl, hq⟩ := choose_list hq
  exact ⟨l, hl, A, cap, by rw [hl], by omega, h2, hq⟩

/-- One cell an element. -/
def One {α : Type} (mk : α → Value) (_ : World) (es : List Value) (x : α) : Prop := es = [mk x]

theorem One.keeps {α : Type} {mk : α → Value} {w w' : World} (es : List Value) (x : α) (h : One mk w es x) : One mk w' es x := h

theorem RowN.one {α : Type} {mk : α → Value} {w : World} {v : Value} {l : List α} (h : RowN 1 (One mk) w v l) :
    ∃ A cap, v = .slice A l.length cap ∧ l.length ≤ cap ∧ cap ≤ maxLen ∧ ∀ i (hi : i < l.length), ∃ b off, A = some ⟨b, off, none⟩ ∧ w.cell? ⟨b, off + i, none⟩ = some (mk l[i]) := by
  obtain ⟨A, cap, rfl, h1, h2, h3⟩ := h
  refine ⟨A, cap, rfl, h1, h2, fun i hi => ?_⟩
  obtain ⟨b, off, es, hA, hl, hc, hr⟩ := h3 i hi
  have := hc 0 (by omega)
  unfold One at hr
  rw [hr] at this
  exact ⟨b, off, hA, by simpa using this⟩

def Strs (w : World) (v : Value) (l : List ByteArray) : Prop := RowN 1 (One fun s => .string s) w v l
def Ints (k : IntKind) (w : World) (v : Value) (l : List Int) : Prop := RowN 1 (One fun n => .int k n) w v l

theorem Strs.keeps {w w' : World} {v : Value} {l : List ByteArray} (h : Strs w v l) (k : Keeps w w') : Strs w' v l := RowN.keeps h k fun _ _ h => h
theorem Ints.keeps {q : IntKind} {w w' : World} {v : Value} {l : List Int} (h : Ints q w v l) (k : Keeps w w') : Ints q w' v l := RowN.keeps h k fun _ _ h => h

theorem SlIn.strs {P : Program} {w : World} {e : TypeId} {A : Option Addr} {len cap : Nat} (hu : P.underlying e = some .string) (h : SlIn P w e 1 A len cap) : ∃ l, l.length = len ∧ Strs w (.slice A len cap) l :=
  h.rowN fun _ hc => (CameC.string hu hc).imp fun _ h => h.1
theorem SlIn.ints {P : Program} {w : World} {e : TypeId} {A : Option Addr} {len cap : Nat} {q : IntKind} (hu : P.underlying e = some (.int q)) (h : SlIn P w e 1 A len cap) : ∃ l, l.length = len ∧ Ints q w (.slice A len cap) l ∧ ∀ x ∈ l, (Lit.int q x).wf = true := by
  obtain ⟨l, hl, hr⟩ := h.rowN (R := fun _ es x => es = [.int q x] ∧ (Lit.int q x).wf = true) fun es hc => (CameC.int hu hc).imp fun _ h => ⟨h.1, h.2⟩
  obtain ⟨A', cap', e', h1, h2, h3⟩ := hr
  refine ⟨l, hl, ⟨A', cap', e', h1, h2, fun i hi => ?_⟩, fun x hx => ?_⟩
  · obtain ⟨b, off, es, a1, a2, a3, a4⟩ := h3 i hi
    exact ⟨b, off, es, a1, a2, a3, a4.1⟩
  · obtain ⟨i, hi, rfl⟩ := List.mem_iff_getElem.1 hx
    obtain ⟨b, off, es, a1, a2, a3, a4⟩ := h3 i hi
    exact a4.2
end Go.Proofs.Ytahopbjoaoiknaa
