/- An evaluator over named blocks: calls between states that last. Nothing of the program stands here. -/
import Derived.Test.YtigdbooadelciaaGreatEvR
namespace Go.Proofs.YtigdbooadelciaaGreat
set_option linter.unusedVariables false
set_option linter.unusedSimpArgs false
open Go.RowKit
section
variable {P : Program}
/-- A state that lasts: names, what lies there. -/
abbrev Sta := List (Nat × AObj)
def Sta.tree : Sta → Tr AObj
  | [] => .nil
  | (a, o) :: r => (Sta.tree r).set a o
def Sta.keep : Sta → List Nat → Keep
  | (a, o) :: s, b :: bs => (a, b, o) :: Sta.keep s bs
  | _, _ => []
theorem Sta.keep_tree : ∀ (s : Sta) (bs : List Nat), bs.length = s.length → (s.keep bs).tree = s.tree
  | [], bs, _ => by cases bs <;> rfl
  | (a, o) :: s, [], h => by simp at h
  | (a, o) :: s, b :: bs, h => by
    simp only [Sta.keep, Keep.tree, Sta.tree]
    rw [Sta.keep_tree s bs (by simpa using h)]
/-- A run's outcome, with what is kept of it under new names. -/
def obsK (r : Option (Value × St)) (z : Nat) (L : Keep) : Option (Value × List (Ren → Prop) × List (Option AObj)) :=
  match r with
  | none => none
  | some (v, s) => some (v, s.ob, Keep.look s.h z L)
theorem Sat.free {G : Gd} {R : Ren} {h : Tr AObj} {w : World} (hS : Sat P G (fun _ => True) R h w) {z : Nat} {L : Keep} (hok : L.ok z = true) (he : Keep.look h z L = Keep.want z L) : R z = none := by
  simp only [Keep.ok, Bool.and_eq_true] at hok
  have h4 := Nat.eq_of_beq_eq_true hok.2
  obtain ⟨hz, _⟩ := Keep.look_want he
  cases hr : R z with
  | none => rfl
  | some l =>
    rcases hS.dom z l trivial hr with hd | hd
    · rw [hz] at hd; cases hd
    · omega
/-- A part of a state that lasts. -/
theorem SatC.part {G : Gd} {S S' : Sta} {bs : List Nat} {z : Nat} {R : Ren} {w : World} (hS : SatC P G R S.tree w) (h : Keep.look S.tree z (S'.keep bs) = Keep.want z (S'.keep bs)) (hok : (S'.keep bs).ok z = true) (hl : bs.length = S'.length) :
    SatC P G (fun i => R ((S'.keep bs).σ z i)) S'.tree w ∧ R z = none := by
  have := hS.sat.keepC (S'.keep bs) hok h
  rw [Sta.keep_tree S' bs hl] at this
  exact ⟨this, hS.sat.free hok h⟩
/-- A call between two states that last, out of a run. -/
theorem SatC.step {G : Gd} {X : ExtT} (hm : P.follows .mixedOrders = true) (hX : ExtOk P X) {ovr : CallF} (hovr : ∀ f args s v s', ovr f args s = some (v, s') → CallS P G f args s v s') {lf d : Nat} {f : FuncId} {args avs : List Value} {S S' : Sta} {bs : List Nat} {hs : List Hint} {v : Value} {ob : List (Ren → Prop)} {z : Nat} {R : Ren} {w : World} (hS : SatC P G R S.tree w)
    (h : obsK (evCallN P X ovr lf d f args ⟨S.tree, 0, [], [], [], hs⟩) z (S'.keep bs) = some (v, ob, Keep.want z (S'.keep bs))) (hok : (S'.keep bs).ok z = true) (hl : bs.length = S'.length) (ha : VRs R args avs) (hob : ∀ R', ∀ q ∈ ob, q R') :
    Calls P f ⟨avs⟩ w fun e w' => ∃ R' v', e = .returned v' ∧ VR R' v v' ∧ R.le R' ∧ SatC P G (fun i => R' ((S'.keep bs).σ z i)) S'.tree w' ∧ R' z = none := by
  cases hr : evCallN P X ovr lf d f args ⟨S.tree, 0, [], [], [], hs⟩ with
  | none => rw [hr] at h; cases h
  | some q =>
    obtain ⟨v1, s'⟩ := q
    rw [hr] at h
    simp only [obsK, Option.some.injEq, Prod.mk.injEq] at h
    obtain ⟨rfl, rfl, h3⟩ := h
    refine (SatC.call hm hX hovr hS hr ha (fun R' _ q hq => hob R' q hq)).mono ?_
    rintro e w' ⟨R', v2, rfl, h1, h2, h4⟩
    refine ⟨R', v2, rfl, h1, h2, ?_, ?_⟩
    · have := h4.keepC (S'.keep bs) hok h3
      rw [Sta.keep_tree S' bs hl] at this
      exact this
    · exact h4.free hok h3

/-- A row that is only read, in a block that is new to a state. -/
theorem SatC.seg {G : Gd} {R : Ren} {h : Tr AObj} {w w' : World} (hS : SatC P G R h w) (hk : Kp (fun _ => False) w w') {i : Nat} (hi : i % 2 = 1) (hn : h.get i = none) (hr : R i = none) {g : Nat} {cs : List Value} (hg : w.heap.size ≤ g) (hlt : g < w'.heap.size) (hf : flatL cs = true) (hc : ∀ (j : Nat) (x : Value), cs[j]? = some x → w'.cell? ⟨g, j, none⟩ = some x) :
    SatC P G (R.upd i ⟨g, 0, 0, undef⟩) (h.set i (.seg cs)) w' := by
  have hle := Ren.upd_le (l := ⟨g, 0, 0, undef⟩) hr
  have hne : ∀ {id o}, h.get id = some o → id ≠ i := fun {id o} hg e => by rw [e, hn] at hg; cases hg
  have hblk : ∀ id o l, h.get id = some o → o.live = true → R id = some l → l.blk ≠ g := fun id o l hg' hv hl e => by
    have := (hS.sat.obj id o trivial hg').lt' hl hv
    omega
  have hS' := (hS.kp hk).sat
  refine ⟨⟨fun id o _ hx => ?_, fun id l' _ hl' => ?_, fun id id' o o' m m' _ _ hkk hx hx' hv hv' hw hm hm' => ?_, hS'.bas, fun id o m _ hx hw hm => ?_, hS'.siz⟩, fun id l' hl' => ?_⟩
  · rw [Tr.get_set] at hx
    by_cases e : i = id
    · rw [if_pos e] at hx
      cases hx
      subst e
      refine ⟨_, Ren.upd_same _ _ _, rfl, hlt, fun j x hj => ⟨x, (VR.flat (flatL_get hf hj)).2 rfl, ?_⟩⟩
      simp only [Nat.zero_add]
      exact hc j x hj
    · rw [if_neg e] at hx
      exact (hS'.obj id o trivial hx).keep hle (Nat.le_refl _) fun _ _ _ => rfl
  · by_cases e : id = i
    · subst e; exact .inr hi
    · rw [Ren.upd_ne _ _ e] at hl'
      exact .inr (hS.odd id l' hl')
  · rw [Tr.get_set] at hx hx'
    by_cases e : i = id
    · by_cases e' : i = id'
      · exact absurd (e.symm.trans e') hkk
      · rw [if_neg e'] at hx'
        rw [← e, Ren.upd_same] at hm
        cases hm
        rw [Ren.upd_ne _ _ (Ne.symm e')] at hm'
        exact fun e2 => hblk id' o' m' hx' hv' hm' e2.symm
    · rw [if_neg e] at hx
      rw [Ren.upd_ne _ _ (Ne.symm e)] at hm
      by_cases e' : i = id'
      · rw [← e', Ren.upd_same] at hm'
        cases hm'
        exact hblk id o m hx hv hm
      · rw [if_neg e'] at hx'
        rw [Ren.upd_ne _ _ (Ne.symm e')] at hm'
        exact hS'.inj id id' o o' m m' trivial trivial hkk hx hx' hv hv' hw hm hm'
  · rw [Tr.get_set] at hx
    by_cases e : i = id
    · rw [if_pos e] at hx; cases hx; cases hw
    · rw [if_neg e] at hx
      rw [Ren.upd_ne _ _ (Ne.symm e)] at hm
      exact hS'.low id o m trivial hx hw hm
  · by_cases e : id = i
    · subst e; exact hi
    · rw [Ren.upd_ne _ _ e] at hl'
      exact hS.odd id l' hl'
end
end Go.Proofs.YtigdbooadelciaaGreat
