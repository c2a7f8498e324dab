/- An evaluator over named blocks: names are changed; contracts of calls out of runs. Nothing of the program stands here. -/
import Derived.Test.YtigdbooadelciaaGreatEv17
namespace Go.Proofs.YtigdbooadelciaaGreat
set_option linter.unusedVariables false
set_option linter.unusedSimpArgs false
open Go.RowKit

mutual
def renV (σ : Nat → Nat) : Value → Value
  | .pointer (some a) => .pointer (some ⟨σ a.block, a.off, a.spot⟩)
  | .slice (some a) n c => .slice (some ⟨σ a.block, a.off, a.spot⟩) n c
  | .map (some r) => .map (some (σ r))
  | .chan (some r) => .chan (some (σ r))
  | .func fn f c => .func fn (renA σ f) (renA σ c)
  | .iface t x => .iface t (renV σ x)
  | .agg a => .agg (renA σ a)
  | .tuple a => .tuple (renA σ a)
  | x => x
def renA (σ : Nat → Nat) : Array Value → Array Value
  | ⟨l⟩ => ⟨renL σ l⟩
def renL (σ : Nat → Nat) : List Value → List Value
  | [] => []
  | x :: xs => renV σ x :: renL σ xs
end

mutual
theorem VR.ren {R : Ren} {σ : Nat → Nat} : ∀ {x v : Value}, VR R (renV σ x) v → VR (fun i => R (σ i)) x v
  | .pointer (some a), v, h => by simpa only [renV, VR] using h
  | .pointer none, v, hh => by simpa only [renV, VR] using hh
  | .slice (some a) n c, v, h => by simpa only [renV, VR] using h
  | .slice none n c, v, hh => by simpa only [renV, VR] using hh
  | .map (some r), v, h => by simpa only [renV, VR] using h
  | .map none, v, hh => by simpa only [renV, VR] using hh
  | .chan (some r), v, h => by simpa only [renV, VR] using h
  | .chan none, v, hh => by simpa only [renV, VR] using hh
  | .func fn f c, v, h => by
    simp only [renV, VR] at h ⊢
    obtain ⟨f', c', h1, h2, h3⟩ := h
    exact ⟨f', c', VRa.ren h1, VRa.ren h2, h3⟩
  | .iface t x, v, h => by
    simp only [renV, VR] at h ⊢
    obtain ⟨x', h1, h2⟩ := h
    exact ⟨x', VR.ren h1, h2⟩
  | .agg a, v, h => by
    simp only [renV, VR] at h ⊢
    obtain ⟨a', h1, h2⟩ := h
    exact ⟨a', VRa.ren h1, h2⟩
  | .tuple a, v, h => by
    simp only [renV, VR] at h ⊢
    obtain ⟨a', h1, h2⟩ := h
    exact ⟨a', VRa.ren h1, h2⟩
  | .bool _, v, hh => by simpa only [renV, VR] using hh
  | .int _ _, v, hh => by simpa only [renV, VR] using hh
  | .float _ _, v, hh => by simpa only [renV, VR] using hh
  | .complex _ _ _, v, hh => by simpa only [renV, VR] using hh
  | .string _, v, hh => by simpa only [renV, VR] using hh
  | .nilFunc, v, hh => by simpa only [renV, VR] using hh
  | .nilIface, v, hh => by simpa only [renV, VR] using hh
theorem VRa.ren {R : Ren} {σ : Nat → Nat} : ∀ {x v : Array Value}, VRa R (renA σ x) v → VRa (fun i => R (σ i)) x v
  | ⟨l⟩, v, h => by
    simp only [renA, VRa] at h ⊢
    obtain ⟨l', h1, h2⟩ := h
    exact ⟨l', VRs.ren h1, h2⟩
theorem VRs.ren {R : Ren} {σ : Nat → Nat} : ∀ {x v : List Value}, VRs R (renL σ x) v → VRs (fun i => R (σ i)) x v
  | [], v, hh => by simpa only [renL, VRs] using hh
  | x :: xs, v, h => by
    simp only [renL, VRs] at h ⊢
    obtain ⟨y, ys, h1, h2, h3⟩ := h
    exact ⟨y, ys, VR.ren h1, VRs.ren h2, h3⟩
end
theorem renL_map {σ : Nat → Nat} : ∀ l : List Value, renL σ l = l.map (renV σ)
  | [] => rfl
  | x :: xs => by simp only [renL, List.map_cons, renL_map xs]
theorem renL_length {σ : Nat → Nat} (l : List Value) : (renL σ l).length = l.length := by rw [renL_map]; simp

def renM {κ : Type} (σ : Nat → Nat) (m : List (κ × Value)) : List (κ × Value) := m.map fun p => (p.1, renV σ p.2)
def renO (σ : Nat → Nat) : AObj → AObj
  | .cells cs t => .cells (renL σ cs) t
  | .loose cs t => .loose (renL σ cs) t
  | .seg cs => .seg (renL σ cs)
  | .mapI k m => .mapI k (renM σ m)
  | .mapS m => .mapS (renM σ m)
  | .str s p => .str s p
  | .entI k m n sid => .entI k (renM σ m) n (σ sid)
  | .entS m n sid => .entS (renM σ m) n (σ sid)
  | .isB => .isB
  | .tl n => .tl (σ n)
  | .nul => .nul
  | .vw p => .vw (σ p)
  | .dead => .dead
theorem renO_own {σ : Nat → Nat} (o : AObj) : (renO σ o).own = o.own := by cases o <;> rfl
theorem renO_live {σ : Nat → Nat} (o : AObj) : (renO σ o).live = o.live := by cases o <;> rfl
theorem VRm.ren {κ : Type} {R : Ren} {σ : Nat → Nat} {m m' : List (κ × Value)} (h : VRm R (renM σ m) m') : VRm (fun i => R (σ i)) m m' := by
  refine ⟨h.1.trans (by simp [renM]), VRs.ren (σ := σ) ?_⟩
  rw [renL_map]
  have := h.2
  simpa [renM, Function.comp_def] using this

section
variable {P : Program}
theorem SatObj.ren {R : Ren} {σ : Nat → Nat} {w : World} {id : Nat} {o : AObj} (h : SatObj P R w (σ id) (renO σ o)) : SatObj P (fun i => R (σ i)) w id o := by
  cases o with
  | cells cs t =>
    obtain ⟨l, cur, h1, h2, h3, h4, h5⟩ := h
    exact ⟨l, cur, h1, h2, h3, h4.ren, h5⟩
  | loose cs t =>
    obtain ⟨l, cur, i, n, h1, h2, h3, h4, h5, h6, h7, h8⟩ := h
    rw [renL_length] at h3 h7
    exact ⟨l, cur, i, n, h1, h2, h3.ren, h4, h5, h6, h7, h8⟩
  | seg cs =>
    obtain ⟨l, h1, h2, h3, h4⟩ := h
    refine ⟨l, h1, h2, h3, fun j x hx => ?_⟩
    obtain ⟨v, hv, hc⟩ := h4 j (renV σ x) (by rw [renL_map]; simp [hx])
    exact ⟨v, hv.ren, hc⟩
  | mapI k m =>
    obtain ⟨l, m', h1, h2, h3⟩ := h
    exact ⟨l, m', h1, h2.ren, h3⟩
  | mapS m =>
    obtain ⟨l, m', h1, h2, h3⟩ := h
    exact ⟨l, m', h1, h2.ren, h3⟩
  | str s p => exact h
  | entI k m n sid =>
    obtain ⟨l, m', ls, z, h1, h2, h3, h4⟩ := h
    exact ⟨l, m', ls, z, h1, h2, h3.ren, h4⟩
  | entS m n sid =>
    obtain ⟨l, m', ls, z, h1, h2, h3, h4⟩ := h
    exact ⟨l, m', ls, z, h1, h2, h3.ren, h4⟩
  | isB => exact h
  | tl n => exact h
  | nul => exact h
  | vw p => exact h
  | dead => trivial

/-- Names of a run's end that are kept, under names that a next run may begin with: new name, old name, what lies there. -/
abbrev Keep := List (Nat × Nat × AObj)
def Keep.to (L : Keep) (i : Nat) : Option Nat :=
  match L with
  | [] => none
  | (a, b, _) :: r => match Nat.beq a i with
    | true => some b
    | false => Keep.to r i
def Keep.σ (L : Keep) (z : Nat) (i : Nat) : Nat := (Keep.to L i).getD z
def Keep.tree : Keep → Tr AObj
  | [] => .nil
  | (a, _, o) :: r => (Keep.tree r).set a o
/-- What lies under the old names; z: a name that is free. -/
def Keep.look (h : Tr AObj) (z : Nat) (L : Keep) : List (Option AObj) := h.get z :: L.map fun p => h.get p.2.1
def Keep.want (z : Nat) (L : Keep) : List (Option AObj) := none :: L.map fun p => some (renO (L.σ z) p.2.2)

def notMem (a : Nat) : List Nat → Bool
  | [] => true
  | b :: r => !(Nat.beq a b) && notMem a r
def nodupB : List Nat → Bool
  | [] => true
  | a :: r => notMem a r && nodupB r
theorem notMem_iff {a : Nat} : ∀ {l : List Nat}, notMem a l = true → a ∉ l
  | [], _ => by simp
  | b :: r, h => by
    simp only [notMem, Bool.and_eq_true, Bool.not_eq_true'] at h
    simp only [List.mem_cons, not_or]
    exact ⟨Nat.ne_of_beq_eq_false h.1, notMem_iff h.2⟩
theorem nodupB_iff : ∀ {l : List Nat}, nodupB l = true → l.Nodup
  | [], _ => List.nodup_nil
  | a :: r, h => by
    simp only [nodupB, Bool.and_eq_true] at h
    exact List.nodup_cons.2 ⟨notMem_iff h.1, nodupB_iff h.2⟩

theorem Keep.to_some : ∀ {L : Keep} {i b : Nat}, Keep.to L i = some b → ∃ o, (i, b, o) ∈ L
  | [], _, _, h => by cases h
  | (a, b', o) :: r, i, b, h => by
    simp only [Keep.to] at h
    split at h
    · rename_i e
      have e := Nat.eq_of_beq_eq_true e
      subst e
      cases h
      exact ⟨o, List.mem_cons_self⟩
    · obtain ⟨o', ho⟩ := Keep.to_some h
      exact ⟨o', List.mem_cons_of_mem _ ho⟩
theorem Keep.to_mem : ∀ {L : Keep} {i b : Nat} {o : AObj}, (L.map (·.1)).Nodup → (i, b, o) ∈ L → Keep.to L i = some b
  | (a, b', o') :: r, i, b, o, hn, h => by
    simp only [List.map_cons, List.nodup_cons] at hn
    simp only [Keep.to]
    rcases List.mem_cons.1 h with h | h
    · cases h
      simp
    · have hne : a ≠ i := by
        rintro rfl
        exact hn.1 (List.mem_map.2 ⟨_, h, rfl⟩)
      have : Nat.beq a i = false := by
        cases hq : Nat.beq a i <;> first | rfl | exact absurd (Nat.eq_of_beq_eq_true hq) hne
      rw [this]
      exact Keep.to_mem hn.2 h
theorem Keep.tree_get : ∀ {L : Keep} {i : Nat} {o : AObj}, (L.map (·.1)).Nodup → (Keep.tree L).get i = some o → ∃ b, (i, b, o) ∈ L
  | [], i, o, _, h => by simp only [Keep.tree] at h; rw [Tr.get_nil] at h; cases h
  | (a, b, o') :: r, i, o, hn, h => by
    simp only [List.map_cons, List.nodup_cons] at hn
    simp only [Keep.tree] at h
    rw [Tr.get_set] at h
    by_cases e : a = i
    · rw [if_pos e] at h
      cases h
      subst e
      exact ⟨b, List.mem_cons_self⟩
    · rw [if_neg e] at h
      obtain ⟨b', hb⟩ := Keep.tree_get hn.2 h
      exact ⟨b', List.mem_cons_of_mem _ hb⟩
theorem Keep.look_want {h : Tr AObj} {L : Keep} {z : Nat} (e : Keep.look h z L = Keep.want z L) : h.get z = none ∧ ∀ {i b : Nat} {o : AObj}, (i, b, o) ∈ L → h.get b = some (renO (L.σ z) o) := by
  unfold Keep.look Keep.want at e
  rw [List.cons.injEq] at e
  refine ⟨e.1, fun {i b o} hm => ?_⟩
  have e := e.2
  obtain ⟨j, hj, he⟩ := List.mem_iff_getElem.1 hm
  have h1 : (L.map fun p => h.get p.2.1)[j]'(by simpa using hj) = (L.map fun p => some (renO (L.σ z) p.2.2))[j]'(by simpa using hj) := by simp only [e]
  simp only [List.getElem_map, he] at h1
  exact h1

/-- A state that lasts between calls: all names are odd. -/
structure SatC (P : Program) (G : Gd) (R : Ren) (h : Tr AObj) (w : World) : Prop where
  sat : Sat P G (fun _ => True) R h w
  odd : ∀ id l, R id = some l → id % 2 = 1

def Keep.ok (L : Keep) (z : Nat) : Bool := nodupB (L.map (·.1)) && nodupB (L.map (·.2.1)) && ((L.map (·.1)).all fun i => Nat.beq (i % 2) 1) && Nat.beq (z % 2) 0

theorem Sat.keepC {G : Gd} {R : Ren} {h : Tr AObj} {w : World} (hS : Sat P G (fun _ => True) R h w) {z : Nat} (L : Keep) (hok : L.ok z = true) (he : Keep.look h z L = Keep.want z L) : SatC P G (fun i => R (L.σ z i)) L.tree w := by
  simp only [Keep.ok, Bool.and_eq_true, List.all_eq_true] at hok
  obtain ⟨⟨⟨h1, h2⟩, h3⟩, h4⟩ := hok
  have h1 := nodupB_iff h1
  have h2 := nodupB_iff h2
  have h4 := Nat.eq_of_beq_eq_true h4
  obtain ⟨hz, he⟩ := Keep.look_want he
  have hRz : R z = none := by
    cases hr : R z with
    | none => rfl
    | some l =>
      rcases hS.dom z l trivial hr with hd | hd
      · rw [hz] at hd; cases hd
      · omega
  have hσ : ∀ {i b o}, (i, b, o) ∈ L → L.σ z i = b := fun {i b o} hm => by unfold Keep.σ; rw [Keep.to_mem h1 hm]; rfl
  have hkey : ∀ {i l}, R (L.σ z i) = some l → ∃ o, (i, L.σ z i, o) ∈ L := fun {i l} hl => by
    unfold Keep.σ at hl ⊢
    cases ht : L.to i with
    | none => rw [ht] at hl; simp only [Option.getD_none] at hl; rw [hRz] at hl; cases hl
    | some b => simp only [Option.getD_some]; exact Keep.to_some ht
  have hodd : ∀ id l, R (L.σ z id) = some l → id % 2 = 1 := fun id l hl => by
    obtain ⟨o, ho⟩ := hkey hl
    exact Nat.eq_of_beq_eq_true (h3 id (List.mem_map.2 ⟨_, ho, rfl⟩))
  have hget : ∀ {i o}, L.tree.get i = some o → (i, L.σ z i, o) ∈ L ∧ h.get (L.σ z i) = some (renO (L.σ z) o) := fun {i o} hg => by
    obtain ⟨b, hb⟩ := Keep.tree_get h1 hg
    rw [hσ hb]
    exact ⟨hb, he hb⟩
  have hinj : ∀ {i i' o o'}, (i, L.σ z i, o) ∈ L → (i', L.σ z i', o') ∈ L → i ≠ i' → L.σ z i ≠ L.σ z i' := fun {i i' o o'} hm hm' hne e => by
    obtain ⟨j, hj, ej⟩ := List.mem_iff_getElem.1 hm
    obtain ⟨j', hj', ej'⟩ := List.mem_iff_getElem.1 hm'
    have hjj : j = j' := by
      have hp := List.pairwise_iff_getElem.1 (List.nodup_iff_pairwise_ne.1 h2)
      have hj2 : j < (L.map (·.2.1)).length := by simpa using hj
      have hj2' : j' < (L.map (·.2.1)).length := by simpa using hj'
      have e1 : (L.map (·.2.1))[j] = L.σ z i := by simp [ej]
      have e2 : (L.map (·.2.1))[j'] = L.σ z i' := by simp [ej']
      rcases Nat.lt_trichotomy j j' with hlt | rfl | hlt
      · exact absurd (e1.trans (e.trans e2.symm)) (hp j j' hj2 hj2' hlt)
      · rfl
      · exact absurd (e2.trans (e.symm.trans e1.symm)) (hp j' j hj2' hj2 hlt)
    subst hjj
    rw [ej] at ej'
    cases ej'
    exact hne rfl
  refine ⟨⟨fun id o _ hg => ?_, fun id l _ hl => .inr (hodd id l hl), fun id id' o o' l l' _ _ hne hg hg' hv hv' hw hl hl' => ?_, hS.bas, fun id o l _ hg hw hl => ?_, hS.siz⟩, hodd⟩
  · exact (hS.obj _ _ trivial (hget hg).2).ren
  · obtain ⟨m1, g1⟩ := hget hg
    obtain ⟨m2, g2⟩ := hget hg'
    refine hS.inj _ _ _ _ l l' trivial trivial (hinj m1 m2 hne) g1 g2 (by rw [renO_live]; exact hv) (by rw [renO_live]; exact hv') ?_ hl hl'
    rw [renO_own, renO_own]
    exact hw
  · exact hS.low _ _ l trivial (hget hg).2 (by rw [renO_own]; exact hw) hl

/-- Nothing that was there is turned. -/
theorem SatC.kp {G : Gd} {R : Ren} {h : Tr AObj} {w w' : World} (hS : SatC P G R h w) (hk : Kp (fun _ => False) w w') : SatC P G R h w' := ⟨(kp_step hS.sat hk []).1, hS.odd⟩
theorem SatC.start {R : Ren} (hR : ∀ id l, R id = some l → id % 2 = 1) (w : World) : SatC P ⟨w, w.heap.size⟩ R .nil w := ⟨Sat.start hR w, hR⟩

/-- A name that stands for a value. -/
theorem SatC.value {G : Gd} {R : Ren} {h : Tr AObj} {w : World} (hS : SatC P G R h w) {i : Nat} (hi : i % 2 = 1) (hn : h.get i = none) (hr : R i = none) (l : Loc) : SatC P G (R.upd i l) h w := by
  have hle := Ren.upd_le (l := l) hr
  have hne : ∀ {id o}, h.get id = some o → id ≠ i := fun {id o} hg e => by rw [e, hn] at hg; cases hg
  refine ⟨⟨fun id o _ hg => (hS.sat.obj id o trivial hg).keep hle (Nat.le_refl _) fun _ _ _ => rfl, fun id l' _ hl' => ?_, fun id id' o o' m m' _ _ hk hg hg' hv hv' hw hm hm' => ?_, hS.sat.bas, fun id o m _ hg hw hm => ?_, hS.sat.siz⟩, fun id l' hl' => ?_⟩
  · by_cases e : id = i
    · subst e; exact .inr hi
    · rw [Ren.upd_ne _ _ e] at hl'
      exact hS.sat.dom id l' trivial hl'
  · rw [Ren.upd_ne _ _ (hne hg)] at hm
    rw [Ren.upd_ne _ _ (hne hg')] at hm'
    exact hS.sat.inj id id' o o' m m' trivial trivial hk hg hg' hv hv' hw hm hm'
  · rw [Ren.upd_ne _ _ (hne hg)] at hm
    exact hS.sat.low id o m trivial hg hw hm
  · by_cases e : id = i
    · subst e; exact hi
    · rw [Ren.upd_ne _ _ e] at hl'
      exact hS.odd id l' hl'

/-- A call, out of a run. -/
theorem SatC.call {G : Gd} {X : ExtT} (hm : P.follows .mixedOrders = true) (hX : ExtOk P X) {ovr : CallF} (hovr : ∀ f args s v s', ovr f args s = some (v, s') → CallS P G f args s v s') {lf d : Nat} {f : FuncId} {args avs : List Value} {h0 : Tr AObj} {hs : List Hint} {v : Value} {s' : St} {R : Ren} {w : World} (hS : SatC P G R h0 w)
    (h : evCallN P X ovr lf d f args ⟨h0, 0, [], [], [], hs⟩ = some (v, s')) (ha : VRs R args avs) (hob : ∀ R', R.le R' → ∀ q ∈ s'.ob, q R') :
    Calls P f ⟨avs⟩ w fun e w' => ∃ R' v', e = .returned v' ∧ VR R' v v' ∧ R.le R' ∧ Sat P G (fun _ => True) R' s'.h w' := by
  obtain ⟨_, k⟩ := evCallN_ok hm hX hovr lf d f args _ v s' h
  refine (k (fun _ => True) R w avs (fun _ _ => trivial) (fun _ _ => trivial) hS.sat hob ha).mono ?_
  rintro e w' ⟨R', v', rfl, h1, h2, h3⟩
  exact ⟨R', v', rfl, h1, h3.mono, h2⟩

/-- A run's outcome: the value, what lies under some names, and whether nothing is to be shown. -/
def obsN (r : Option (Value × St)) (ids : List Nat) : Option (Value × List (Option AObj) × Bool) :=
  match r with
  | none => none
  | some (v, s) => some (v, ids.map s.h.get, match s.ob with | [] => true | _ => false)
/-- A call that begins without names, out of a run. -/
theorem ev_new {X : ExtT} (hm : P.follows .mixedOrders = true) (hX : ExtOk P X) {ovr : CallF} {w : World} (hovr : ∀ f args s v s', ovr f args s = some (v, s') → CallS P ⟨w, w.heap.size⟩ f args s v s') {lf d : Nat} {f : FuncId} {args avs : List Value} {v : Value} {ids : List Nat} {objs : List (Option AObj)}
    (h : obsN (evCallN P X ovr lf d f args st0) ids = some (v, objs, true)) (ha : ∀ R : Ren, VRs R args avs) :
    Calls P f ⟨avs⟩ w fun e w' => ∃ R v' h', e = .returned v' ∧ VR R v v' ∧ Sat P ⟨w, w.heap.size⟩ (fun _ => True) R h' w' ∧ ids.map h'.get = objs := by
  cases hr : evCallN P X ovr lf d f args st0 with
  | none => rw [hr] at h; cases h
  | some q =>
    obtain ⟨v1, s'⟩ := q
    rw [hr] at h
    simp only [obsN, Option.some.injEq, Prod.mk.injEq] at h
    obtain ⟨rfl, rfl, h3⟩ := h
    have hob : s'.ob = [] := by
      cases hs : s'.ob with
      | nil => rfl
      | cons a l => rw [hs] at h3; cases h3
    refine (SatC.call hm hX hovr (SatC.start (R := fun _ => none) (fun _ _ h => by cases h) w) hr (ha _) (fun R' _ q hq => by rw [hob] at hq; cases hq)).mono ?_
    rintro e w' ⟨R', v2, rfl, h1, _, h2⟩
    exact ⟨R', v2, s'.h, rfl, h1, h2, rfl⟩
end
end Go.Proofs.YtigdbooadelciaaGreat
