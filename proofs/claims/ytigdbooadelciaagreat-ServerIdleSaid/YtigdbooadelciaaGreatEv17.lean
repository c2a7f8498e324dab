/- An evaluator over named blocks: a call that may write blocks that were there. Nothing of the program stands here. -/
import Derived.Test.YtigdbooadelciaaGreatEv16
import Derived.Test.YtigdbooadelciaaGreatEv14
namespace Go.Proofs.YtigdbooadelciaaGreat
set_option linter.unusedVariables false
set_option linter.unusedSimpArgs false
open Go.RowKit

/-- What is named at the start lies in these blocks. -/
structure SatL (P : Program) (R : Ren) (h : Tr AObj) (w : World) (bs : List Nat) : Prop where
  sat : Sat P ⟨w, 0⟩ (fun _ => True) R h w
  odd : ∀ id l, R id = some l → id % 2 = 1
  blk : ∀ id o l, h.get id = some o → R id = some l → l.blk ∈ bs

section
variable {P : Program} {w : World}
theorem SatL.start {R : Ren} (hR : ∀ id l, R id = some l → id % 2 = 1) : SatL P R .nil w [] :=
  ⟨⟨fun id o _ hg => (by rw [Tr.get_nil] at hg; cases hg), fun id l _ hl => .inr (hR id l hl), fun id id' o o' l l' _ _ _ hg => (by rw [Tr.get_nil] at hg; cases hg), Below.refl _ _, fun id o l _ hg => (by rw [Tr.get_nil] at hg; cases hg), Nat.zero_le _⟩, hR, fun id o l hg => (by rw [Tr.get_nil] at hg; cases hg)⟩

/-- One more object: in a block of its own. -/
theorem SatL.push {R : Ren} {h : Tr AObj} {bs : List Nat} (hS : SatL P R h w bs) (k : Nat) {o : AObj} {l : Loc} (hn : h.get (2 * k + 1) = none) (hr : R (2 * k + 1) = none) (ho : SatObj P (R.upd (2 * k + 1) l) w (2 * k + 1) o) (hb : l.blk ∉ bs) :
    SatL P (R.upd (2 * k + 1) l) (h.set (2 * k + 1) o) w (l.blk :: bs) := by
  have hle := Ren.upd_le (l := l) hr
  have hodd : ∀ id l', R.upd (2 * k + 1) l id = some l' → id % 2 = 1 := fun id l' hl' => by
    by_cases e : id = 2 * k + 1
    · omega
    · rw [Ren.upd_ne _ _ e] at hl'
      exact hS.odd id l' hl'
  refine ⟨⟨fun id o' hf hg => ?_, fun id l' hf hl' => .inr (hodd id l' hl'), ?_, hS.sat.bas, fun id o1 l1 hf hg hw hl1 => Nat.zero_le _, Nat.zero_le _⟩, hodd, fun id o' l' hg hl' => ?_⟩
  · rw [Tr.get_set] at hg
    by_cases e : 2 * k + 1 = id
    · rw [if_pos e] at hg
      cases hg
      rw [← e]
      exact ho
    · rw [if_neg e] at hg
      exact (hS.sat.obj id o' trivial hg).keep hle (Nat.le_refl _) fun _ _ _ => rfl
  · intro id id' o1 o2 l1 l2 hf hf' hne hg1 hg2 hv1 hv2 hw hl1 hl2
    rw [Tr.get_set] at hg1 hg2
    by_cases e1 : 2 * k + 1 = id
    · by_cases e2 : 2 * k + 1 = id'
      · exact absurd (e1.symm.trans e2) hne
      · rw [if_neg e2] at hg2
        rw [Ren.upd_ne _ _ (Ne.symm e2)] at hl2
        rw [← e1, Ren.upd_same] at hl1
        cases hl1
        intro e
        exact hb (by rw [e]; exact hS.blk id' o2 l2 hg2 hl2)
    · rw [if_neg e1] at hg1
      rw [Ren.upd_ne _ _ (Ne.symm e1)] at hl1
      by_cases e2 : 2 * k + 1 = id'
      · rw [← e2, Ren.upd_same] at hl2
        cases hl2
        intro e
        exact hb (by rw [← e]; exact hS.blk id o1 l1 hg1 hl1)
      · rw [if_neg e2] at hg2
        rw [Ren.upd_ne _ _ (Ne.symm e2)] at hl2
        exact hS.sat.inj id id' o1 o2 l1 l2 trivial trivial hne hg1 hg2 hv1 hv2 hw hl1 hl2
  · rw [Tr.get_set] at hg
    by_cases e : 2 * k + 1 = id
    · rw [← e, Ren.upd_same] at hl'
      cases hl'
      exact List.mem_cons_self
    · rw [if_neg e] at hg
      rw [Ren.upd_ne _ _ (Ne.symm e)] at hl'
      exact List.mem_cons_of_mem _ (hS.blk id o' l' hg hl')

/-- A call that may write what is named. -/
theorem ev_own {X : ExtT} (hm : P.follows .mixedOrders = true) (hX : ExtOk P X) {ovr : CallF} (hovr : ∀ f args s v s', ovr f args s = some (v, s') → CallS P ⟨w, 0⟩ f args s v s') {lf d : Nat} {f : FuncId} {args avs : List Value} {h0 : Tr AObj} {hs : List Hint} {v : Value} {s' : St} {R : Ren} {bs : List Nat} (hS : SatL P R h0 w bs)
    (h : evCallN P X ovr lf d f args ⟨h0, 0, [], [], [], hs⟩ = some (v, s')) (ha : VRs R args avs) (hob : ∀ R', R.le R' → ∀ q ∈ s'.ob, q R') :
    Calls P f ⟨avs⟩ w fun e w' => ∃ R' v', e = .returned v' ∧ VR R' v v' ∧ R.le R' ∧ Sat P ⟨w, 0⟩ (fun _ => True) R' s'.h w' ∧ Kp (fun k => ∃ id l o, id ∈ s'.wr ∧ R id = some l ∧ l.blk = k ∧ h0.get id = some o ∧ o.own = true) w w' := by
  obtain ⟨_, k⟩ := evCallN_ok hm hX hovr lf d f args _ v s' h
  refine (k (fun _ => True) R w avs (fun _ _ => trivial) (fun _ _ => trivial) hS.sat hob ha).mono ?_
  rintro e w' ⟨R', v', rfl, h1, h2, h3⟩
  exact ⟨R', v', rfl, h1, h3.mono, h2, h3.kp⟩
end
end Go.Proofs.YtigdbooadelciaaGreat
