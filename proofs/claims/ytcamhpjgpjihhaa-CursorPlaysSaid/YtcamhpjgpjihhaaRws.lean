/- Rows of structs that the call made itself: each of c cells of one cell; read, set, appended. Nothing of the program stands here. -/
import Derived.Test.YtcamhpjgpjihhaaKt
import Derived.Test.YtcamhpjgpjihhaaSt
import Derived.Laws.OwnMore
namespace Go.Proofs.Ytcamhpjgpjihhaa
set_option linter.unusedVariables false
set_option linter.unusedSimpArgs false
open Go.RowKit

/-- A value v owns the structs ms, of c cells each. -/
def RowsO (t : TypeId) (c : Nat) (w : World) (base : Nat) (v : Value) (ms : List (List Value)) : Prop :=
  w.ownsRow base t c v ms.length ms.flatten ∧ ∀ m ∈ ms, m.length = c ∧ m.all (·.oneCell') = true

theorem rows_flat : ∀ (ms : List (List Value)) (i j : Nat) (c : Nat) (_ : ∀ m ∈ ms, m.length = c) (hi : i < ms.length) (_ : j < c), ms.flatten[i * c + j]? = ms[i][j]?
  | [], i, j, c, _, hi, _ => by simp at hi
  | m :: ms, i, j, c, h, hi, hj => by
    have hm : m.length = c := h m (by simp)
    cases i with
    | zero => simp [List.getElem?_append_left (show j < m.length by omega)]
    | succ i =>
      have := rows_flat ms i j c (fun m' h' => h m' (by simp [h'])) (by simpa using hi) hj
      rw [List.flatten_cons, List.getElem?_append_right (by rw [hm, Nat.add_mul]; omega), hm]
      rw [show (i + 1) * c + j - c = i * c + j by rw [Nat.add_mul]; omega, this]
      simp

theorem rows_set : ∀ (ms : List (List Value)) (i j : Nat) (c : Nat) (u : Value) (_ : ∀ m ∈ ms, m.length = c) (hi : i < ms.length) (_ : j < c), ms.flatten.set (i * c + j) u = (ms.set i (ms[i].set j u)).flatten
  | [], i, j, c, u, _, hi, _ => by simp at hi
  | m :: ms, i, j, c, u, h, hi, hj => by
    have hm : m.length = c := h m (by simp)
    cases i with
    | zero => simp [List.set_append_left, show j < m.length by omega]
    | succ i =>
      have := rows_set ms i j c u (fun m' h' => h m' (by simp [h'])) (by simpa using hi) hj
      rw [List.flatten_cons, List.set_append_right (h := by rw [hm, Nat.add_mul]; omega), hm]
      rw [show (i + 1) * c + j - c = i * c + j by rw [Nat.add_mul]; omega, this]
      simp

section
variable {t : TypeId} {c : Nat} {w w' : World} {B0 : Nat} {v : Value} {ms : List (List Value)}

theorem RowsO.nil (t : TypeId) (c : Nat) (w : World) (B0 : Nat) : RowsO t c w B0 (.slice none 0 0) [] := ⟨⟨by simp, .inl ⟨rfl, rfl⟩⟩, by simp⟩
theorem RowsO.kt {B : Nat} {T : TypeId → Prop} {M : Prop} (h : RowsO t c w B0 v ms) (k : Kt B T M w w') (hn : ¬ T t) : RowsO t c w' B0 v ms := ⟨own_kt h.1 k hn, h.2⟩
theorem RowsO.kp (h : RowsO t c w B0 v ms) (k : Kp (fun _ => False) w w') : RowsO t c w' B0 v ms := ⟨own_kp h.1 k (fun _ _ h => h), h.2⟩
theorem RowsO.base {B1 : Nat} (h : RowsO t c w B0 v ms) (hb : B1 ≤ B0) : RowsO t c w B1 v ms := by
  refine ⟨⟨h.1.1, ?_⟩, h.2⟩
  rcases h.1.2 with hz | ⟨g, cap, cur, rfl, hg, rest⟩
  · exact .inl hz
  · exact .inr ⟨g, cap, cur, rfl, by omega, rest⟩
theorem RowsO.form (h : RowsO t c w B0 v ms) : ∃ A cap, v = .slice A ms.length cap := by
  rcases h.1.2 with ⟨rfl, h0⟩ | ⟨g, cap, cur, rfl, _⟩
  · exact ⟨none, 0, by rw [h0]⟩
  · exact ⟨_, _, rfl⟩
theorem RowsO.big (h : RowsO t c w B0 v ms) (h0 : 0 < ms.length) : ∃ g cap, v = .slice (some ⟨g, 0, none⟩) ms.length cap ∧ B0 ≤ g ∧ g < w.heap.size := by
  rcases h.1.2 with ⟨rfl, h1⟩ | ⟨g, cap, cur, rfl, hg, hh, _⟩
  · omega
  · exact ⟨g, cap, rfl, hg, (show Blk w g cur t from hh).lt⟩
theorem RowsO.blk {g n cap : Nat} (h : RowsO t c w B0 (.slice (some ⟨g, 0, none⟩) n cap) ms) : B0 ≤ g ∧ ∃ cur, Blk w g cur t := by
  rcases h.1.2 with ⟨h1, _⟩ | ⟨g', cap', cur, e, hg, hh, _⟩
  · cases h1
  · simp only [Value.slice.injEq, Option.some.injEq, Addr.mk.injEq, and_true] at e
    obtain ⟨rfl, -, -⟩ := e
    exact ⟨hg, cur, hh⟩
theorem RowsO.cap {A : Option Addr} {n cap : Nat} (h : RowsO t c w B0 (.slice A n cap) ms) : n = ms.length ∧ ms.length ≤ cap ∧ cap ≤ maxLen := by
  rcases h.1.2 with ⟨h1, h0⟩ | ⟨g', cap', cur, e, hg, hh, hc1, hc2, _⟩
  · simp only [Value.slice.injEq] at h1
    obtain ⟨-, rfl, rfl⟩ := h1
    exact ⟨h0.symm, by omega, by simp [maxLen]⟩
  · simp only [Value.slice.injEq] at e
    obtain ⟨-, rfl, rfl⟩ := e
    exact ⟨rfl, hc1, hc2⟩
/-- The first k structs' cells, in a row. -/
theorem RowsO.many {g n cap : Nat} (h : RowsO t c w B0 (.slice (some ⟨g, 0, none⟩) n cap) ms) (k : Nat) : ∀ j u, (ms.take k).flatten[j]? = some u → w.cell? ((⟨g, 0, none⟩ : Addr).add j) = some u := by
  intro j u hj
  refine h.1.cells rfl j u ?_
  have hlt : j < (ms.take k).flatten.length := (List.getElem?_eq_some_iff.1 hj).1
  rw [← List.take_append_drop k ms, List.flatten_append, List.getElem?_append_left hlt]
  exact hj
theorem RowsO.take_len {v : Value} (h : RowsO t c w B0 v ms) (k : Nat) (hk : k ≤ ms.length) : (ms.take k).flatten.length = k * c := by
  have hm := fun m hm => (h.2 m hm).1
  clear h
  induction k generalizing ms with
  | zero => simp
  | succ k ih =>
    cases ms with
    | nil => simp at hk
    | cons m ms =>
      simp only [List.take_succ_cons, List.flatten_cons, List.length_append]
      rw [ih (by simpa using hk) (fun m' h' => hm m' (by simp [h'])), hm m (by simp), Nat.add_mul]
      omega
theorem RowsO.of_own {v : Value} (h : w.ownsRow B0 t c v ms.length ms.flatten) (hm : ∀ m ∈ ms, m.length = c ∧ m.all (·.oneCell') = true) : RowsO t c w B0 v ms := ⟨h, hm⟩
theorem RowsO.all1 {v : Value} (h : RowsO t c w B0 v ms) (k : Nat) : ∀ u ∈ (ms.take k).flatten, u.oneCell' = true := by
  intro u hu
  obtain ⟨m, hm, hu⟩ := List.mem_flatten.1 hu
  exact List.all_eq_true.1 (h.2 m (List.mem_of_mem_take hm)).2 u hu
theorem RowsO.at {g n cap : Nat} (h : RowsO t c w B0 (.slice (some ⟨g, 0, none⟩) n cap) ms) (i : Nat) (hi : i < ms.length) :
    rdAt w ⟨g, i * c, none⟩ c = some ms[i].toArray ∧ (∀ j, j < c → w.cell? ⟨g, i * c + j, none⟩ = ms[i][j]?) ∧ ∀ j, w.frozen? ⟨g, j, none⟩ = false := by
  obtain rfl := h.cap.1
  have hl : ms[i].length = c := (h.2 _ (List.getElem_mem hi)).1
  have hc : ∀ j, j < c → w.cell? ⟨g, i * c + j, none⟩ = ms[i][j]? := fun j hj => by
    have hlt : i * c + j < ms.length * c := by
      have := Nat.mul_le_mul_right c (show i + 1 ≤ ms.length by omega)
      rw [Nat.add_mul] at this
      omega
    rw [h.1.cellAt (i * c + j) hlt]
    exact rows_flat ms i j c (fun m hm => (h.2 m hm).1) hi hj
  refine ⟨?_, hc, fun j => h.1.frozenAt j⟩
  have := rdAt_of (w := w) (a := ⟨g, i * c, none⟩) (es := ms[i]) (fun j hj => by
    rw [add_form]
    exact hc j (by omega))
  rwa [hl] at this
theorem RowsO.push {v1 : Value} {m : List Value} {w1 : World} (h : RowsO t c w B0 v ms) (hown : w1.ownsRow B0 t c v1 (ms.length + 1) (ms.flatten ++ m)) (hm : m.length = c) (h1 : m.all (·.oneCell') = true) : RowsO t c w1 B0 v1 (ms ++ [m]) := by
  refine ⟨by simpa using hown, fun m' hm' => ?_⟩
  rcases List.mem_append.1 hm' with h2 | h2
  · exact h.2 m' h2
  · simp at h2
    subst h2
    exact ⟨hm, h1⟩
theorem RowsO.set {g cap : Nat} (h : RowsO t c w B0 (.slice (some ⟨g, 0, none⟩) ms.length cap) ms) (i : Nat) (hi : i < ms.length) (j : Nat) (hj : j < c) (u : Value) (hu : u.oneCell' = true) :
    RowsO t c (w.setCell ⟨g, i * c + j, none⟩ u) B0 (.slice (some ⟨g, 0, none⟩) ms.length cap) (ms.set i (ms[i].set j u)) ∧ w.grownBy (w.setCell ⟨g, i * c + j, none⟩ u) (some g) := by
  obtain ⟨s1, s2⟩ := h.1.stored (i * c + j) u
  rw [rows_set ms i j c u (fun m hm => (h.2 m hm).1) hi hj] at s1
  refine ⟨⟨by rw [List.length_set]; exact s1, fun m hm => ?_⟩, s2⟩
  rcases List.mem_or_eq_of_mem_set hm with h2 | rfl
  · exact h.2 m h2
  · have := h.2 _ (List.getElem_mem hi)
    refine ⟨by simp [this.1], ?_⟩
    rw [List.all_eq_true] at this ⊢
    intro x hx
    rcases List.mem_or_eq_of_mem_set hx with h3 | rfl
    · exact this.2 x h3
    · exact hu
end

/-- Two lists, paired place by place. -/
def Par {α β : Type} (R : α → β → Prop) (l : List α) (m : List β) : Prop := l.length = m.length ∧ ∀ i (h : i < l.length) (h' : i < m.length), R l[i] m[i]
theorem Par.nil {α β : Type} (R : α → β → Prop) : Par R [] [] := ⟨rfl, fun i h => absurd h (by simp)⟩
theorem Par.mono {α β : Type} {R S : α → β → Prop} {l : List α} {m : List β} (h : Par R l m) (k : ∀ a b, R a b → S a b) : Par S l m := ⟨h.1, fun i h1 h2 => k _ _ (h.2 i h1 h2)⟩
theorem Par.snoc {α β : Type} {R : α → β → Prop} {l : List α} {m : List β} (h : Par R l m) {a : α} {b : β} (hab : R a b) : Par R (l ++ [a]) (m ++ [b]) := by
  refine ⟨by simp [h.1], fun i h1 h2 => ?_⟩
  by_cases hlt : i < l.length
  · rw [List.getElem_append_left hlt, List.getElem_append_left (by rw [← h.1]; exact hlt)]
    exact h.2 _ _ _
  · have : i = l.length := by simp at h1; omega
    subst this
    rw [List.getElem_append_right (by omega), List.getElem_append_right (by rw [h.1]; omega)]
    simpa using hab
theorem Par.set {α β : Type} {R : α → β → Prop} {l : List α} {m : List β} (h : Par R l m) {a : α} {b : β} (hab : R a b) (k : Nat) : Par R (l.set k a) (m.set k b) := by
  refine ⟨by simp [h.1], fun i h1 h2 => ?_⟩
  rw [List.getElem_set, List.getElem_set]
  split
  · exact hab
  · exact h.2 _ _ _
theorem Par.at {α β : Type} {R : α → β → Prop} {l : List α} {m : List β} (h : Par R l m) {k : Nat} (hk : k < m.length) : ∃ h' : k < l.length, R l[k] m[k] := ⟨by rw [h.1]; exact hk, h.2 _ _ _⟩
end Go.Proofs.Ytcamhpjgpjihhaa
