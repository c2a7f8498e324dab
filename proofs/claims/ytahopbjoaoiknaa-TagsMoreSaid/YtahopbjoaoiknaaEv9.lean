/- An evaluator over named blocks: whatever order, what each operation finds is what it finds in the text's order. Nothing of the program stands here. -/
import Derived.Test.YtahopbjoaoiknaaEv8
namespace Go.Proofs.Ytahopbjoaoiknaa
set_option linter.unusedVariables false
set_option linter.unusedSimpArgs false
open Go.RowKit

section
variable {X V : Type} (n : Nat) (T : Nat → X → V) (W FP : Nat → X → Prop) (ord : Nat → Nat → Prop)

open Classical in
/-- What lies at x when just the operations of S were done. -/
noncomputable def CS (S : Nat → Prop) : Nat → X → V
  | 0, x => T 0 x
  | k + 1, x => if S k ∧ W k x then T (k + 1) x else CS S k x

structure Conf : Prop where
  frame : ∀ k x, k < n → ¬ W k x → T (k + 1) x = T k x
  sub : ∀ k x, W k x → FP k x
  conf : ∀ i j x, i < j → j < n → ((W i x ∧ FP j x) ∨ (FP i x ∧ W j x)) → ord i j

variable {n T W FP ord}
theorem CS_none (k : Nat) (x : X) : CS T W (fun _ => False) k x = T 0 x := by
  induction k with
  | zero => rfl
  | succ k ih => simp [CS, ih]
theorem CS_all (hc : Conf n T W FP ord) {S : Nat → Prop} : ∀ (k : Nat) (x : X), k ≤ n → (∀ i, i < k → S i) → CS T W S k x = T k x
  | 0, _, _, _ => rfl
  | k + 1, x, hk, hs => by
    by_cases h : W k x
    · simp [CS, h, hs k (by omega)]
    · simp only [CS, h, and_false, if_false]
      rw [CS_all hc k x (by omega) (fun i hi => hs i (by omega)), hc.frame k x (by omega) h]

theorem CS_sees (hc : Conf n T W FP ord) {S : Nat → Prop} {j : Nat} (hj : j < n) (hns : ¬ S j) (hpre : ∀ i, i < j → ord i j → S i) (hpost : ∀ k, j < k → k < n → ord j k → ¬ S k) {x : X} (hx : FP j x) : CS T W S n x = T j x := by
  have low : ∀ k, k ≤ j → CS T W S k x = T k x := by
    intro k hk
    induction k with
    | zero => rfl
    | succ k ih =>
      by_cases h : W k x
      · have := hpre k (by omega) (hc.conf k j x (by omega) hj (.inl ⟨h, hx⟩))
        simp [CS, h, this]
      · simp only [CS, h, and_false, if_false]
        rw [ih (by omega), hc.frame k x (by omega) h]
  have high : ∀ d, j + d ≤ n → CS T W S (j + d) x = T j x := by
    intro d hd
    induction d with
    | zero => exact low j (Nat.le_refl _)
    | succ d ih =>
      rw [show j + (d + 1) = (j + d) + 1 by omega]
      have hno : ¬ (S (j + d) ∧ W (j + d) x) := by
        rintro ⟨h1, h2⟩
        rcases Nat.eq_or_lt_of_le (Nat.le_add_right j d) with e | hlt
        · rw [← e] at h1; exact hns h1
        · exact hpost (j + d) hlt (by omega) (hc.conf j (j + d) x hlt (by omega) (.inr ⟨hx, h2⟩)) h1
      simp only [CS, hno, if_false]
      exact ih (by omega)
  have := high (n - j) (by omega)
  rwa [show j + (n - j) = n by omega] at this

theorem CS_step (hc : Conf n T W FP ord) {S : Nat → Prop} {j : Nat} (hj : j < n) (hns : ¬ S j) (hpost : ∀ k, j < k → k < n → ord j k → ¬ S k) (x : X) :
    (W j x → CS T W (fun k => S k ∨ k = j) n x = T (j + 1) x) ∧ (¬ W j x → CS T W (fun k => S k ∨ k = j) n x = CS T W S n x) := by
  constructor
  · intro hw
    have high : ∀ d, j + 1 + d ≤ n → CS T W (fun k => S k ∨ k = j) (j + 1 + d) x = T (j + 1) x := by
      intro d hd
      induction d with
      | zero => simp [CS, hw]
      | succ d ih =>
        rw [show j + 1 + (d + 1) = (j + 1 + d) + 1 by omega]
        have hno : ¬ ((S (j + 1 + d) ∨ j + 1 + d = j) ∧ W (j + 1 + d) x) := by
          rintro ⟨h1 | h1, h2⟩
          · exact hpost (j + 1 + d) (by omega) (by omega) (hc.conf j (j + 1 + d) x (by omega) (by omega) (.inr ⟨hc.sub j x hw, h2⟩)) h1
          · omega
        simp only [CS, hno, if_false]
        exact ih (by omega)
    have := high (n - (j + 1)) (by omega)
    rwa [show j + 1 + (n - (j + 1)) = n by omega] at this
  · intro hw
    have : ∀ k, CS T W (fun k => S k ∨ k = j) k x = CS T W S k x := by
      intro k
      induction k with
      | zero => rfl
      | succ k ih =>
        by_cases e : k = j
        · subst e
          simp [CS, hw, ih]
        · have h2 : ((S k ∨ k = j) ∧ W k x) ↔ (S k ∧ W k x) := by simp [e]
          unfold CS
          by_cases hh : S k ∧ W k x
          · rw [if_pos hh, if_pos (h2.2 hh)]
          · rw [if_neg hh, if_neg (fun h => hh (h2.1 h)), ih]
    exact this n
end
end Go.Proofs.Ytahopbjoaoiknaa
