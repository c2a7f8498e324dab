/- An evaluator over named blocks: maps, functions as values. Nothing of the program stands here. -/
import Derived.Test.YtahopbjoaoiknaaEv7
namespace Go.Proofs.Ytahopbjoaoiknaa
set_option linter.unusedVariables false
set_option linter.unusedSimpArgs false
open Go.RowKit

section
variable {κ : Type} {R : Ren}
theorem VRm.cons {p q : κ × Value} {m m' : List (κ × Value)} : VRm R (p :: m) (q :: m') ↔ q.1 = p.1 ∧ VR R p.2 q.2 ∧ VRm R m m' := by
  unfold VRm
  simp only [List.map_cons, VRs, List.cons.injEq]
  constructor
  · rintro ⟨⟨h1, h2⟩, y, ys, h3, h4, rfl, rfl⟩
    exact ⟨h1, h3, h2, h4⟩
  · rintro ⟨h1, h3, h2, h4⟩
    exact ⟨⟨h1, h2⟩, _, _, h3, h4, rfl, rfl⟩
theorem VRm.nil_left {m' : List (κ × Value)} : VRm R [] m' ↔ m' = [] := by
  unfold VRm
  constructor
  · rintro ⟨h, _⟩
    simpa using h
  · rintro rfl
    exact ⟨rfl, rfl⟩
theorem VRm.split {p : κ × Value} {m m' : List (κ × Value)} (h : VRm R (p :: m) m') : ∃ q l, m' = q :: l ∧ q.1 = p.1 ∧ VR R p.2 q.2 ∧ VRm R m l := by
  cases m' with
  | nil => have := h.1; simp at this
  | cons q l => exact ⟨q, l, rfl, VRm.cons.1 h⟩
theorem VRm.append {m m' n n' : List (κ × Value)} (h : VRm R m m') (k : VRm R n n') : VRm R (m ++ n) (m' ++ n') :=
  ⟨by simp [h.1, k.1], by simpa using h.2.append k.2⟩
variable [DecidableEq κ]
theorem VRm.look : ∀ {m m' : List (κ × Value)}, VRm R m m' → ∀ a, (∃ x v, lookM m a = some x ∧ lookM m' a = some v ∧ VR R x v) ∨ (lookM m a = none ∧ lookM m' a = none)
  | [], m', h, a => by rw [VRm.nil_left] at h; subst h; exact .inr ⟨rfl, rfl⟩
  | p :: m, m', h, a => by
    obtain ⟨q, l, rfl, h1, h2, h3⟩ := h.split
    by_cases e : p.1 = a
    · exact .inl ⟨p.2, q.2, by simp [lookM, e], by simp [lookM, h1, e], h2⟩
    · rcases VRm.look h3 a with ⟨x, v, g1, g2, g3⟩ | ⟨g1, g2⟩
      · exact .inl ⟨x, v, by unfold lookM at g1 ⊢; simpa [e] using g1, by unfold lookM at g2 ⊢; simpa [h1, e] using g2, g3⟩
      · exact .inr ⟨by unfold lookM at g1 ⊢; simpa [e] using g1, by unfold lookM at g2 ⊢; simpa [h1, e] using g2⟩
theorem VRm.any : ∀ {m m' : List (κ × Value)}, VRm R m m' → ∀ a, (m'.any fun p => decide (p.1 = a)) = (m.any fun p => decide (p.1 = a))
  | [], m', h, a => by rw [VRm.nil_left] at h; subst h; rfl
  | p :: m, m', h, a => by
    obtain ⟨q, l, rfl, h1, h2, h3⟩ := h.split
    simp [h1, VRm.any h3 a]
theorem VRm.mapput {x v : Value} (hv : VR R x v) (a : κ) : ∀ {m m' : List (κ × Value)}, VRm R m m' → VRm R (m.map fun p => if p.1 = a then (a, x) else p) (m'.map fun p => if p.1 = a then (a, v) else p)
  | [], m', h => by rw [VRm.nil_left] at h; subst h; exact ⟨rfl, rfl⟩
  | p :: m, m', h => by
    obtain ⟨q, l, rfl, h1, h2, h3⟩ := h.split
    rw [List.map_cons, List.map_cons, VRm.cons]
    by_cases e : p.1 = a
    · simp [h1, e, hv, VRm.mapput hv a h3]
    · simp [h1, e, h2, VRm.mapput hv a h3]
theorem VRm.put {m m' : List (κ × Value)} (h : VRm R m m') (a : κ) {x v : Value} (hv : VR R x v) : VRm R (putM m a x) (putM m' a v) := by
  unfold putM
  rw [h.any a]
  split
  · exact VRm.mapput hv a h
  · exact h.append (VRm.cons.2 ⟨rfl, hv, VRm.nil_left.2 rfl⟩)
theorem VRm.del (a : κ) : ∀ {m m' : List (κ × Value)}, VRm R m m' → VRm R (delM m a) (delM m' a)
  | [], m', h => by rw [VRm.nil_left] at h; subst h; exact ⟨rfl, rfl⟩
  | p :: m, m', h => by
    obtain ⟨q, l, rfl, h1, h2, h3⟩ := h.split
    have ih := VRm.del a h3
    unfold delM at ih ⊢
    by_cases e : p.1 = a
    · simpa [h1, e] using ih
    · simp only [List.filter_cons, h1, ne_eq, e, not_false_eq_true, decide_true, if_true]
      exact VRm.cons.2 ⟨h1, h2, ih⟩
end

def evMakeMap (P : Program) (t : TypeId) (r : Option Value) (s : St) : Option (Value × St) :=
  match P.underlying t with
  | some (.map k _) => match (match r with | none => true | some (.int _ _) => true | _ => false) with
    | false => none
    | true => match P.underlying k with
      | some (.int q) => (s.mk' (.mapI q [])).map fun p => (.map (some p.1), p.2)
      | some .string => (s.mk' (.mapS [])).map fun p => (.map (some p.1), p.2)
      | _ => none
  | _ => none

def zeroOf (P : Program) (t : TypeId) : Option Value :=
  match P.info? t with
  | none => none
  | some i => match i.zero with
    | none => none
    | some z => match flat z with
      | true => some z
      | false => none

def found (ok : Bool) (z : Value) (r : Option Value) : Value :=
  match ok with
  | true => .tuple ⟨[r.getD z, .bool r.isSome]⟩
  | false => r.getD z

/-- A look-up: told where, or reckoned. -/
def askM {κ : Type} [DecidableEq κ] (m : List (κ × Value)) (a : κ) (s : St) : Option Value × St :=
  match s.hs with
  | .at_ none :: hs => (none, { s with hs := hs, ob := (fun _ => lookM m a = none) :: s.ob })
  | .at_ (some i) :: hs => ((m[i]?).map (·.2), { s with hs := hs, ob := (fun _ => lookM m a = (m[i]?).map (·.2)) :: s.ob })
  | _ => (lookM m a, s)
theorem askM_ok {κ : Type} [DecidableEq κ] (m : List (κ × Value)) (a : κ) (s : St) : ARun s (askM m a s).2 ∧ (askM m a s).2.h = s.h ∧ (askM m a s).2.wr = s.wr ∧ (askM m a s).2.rd = s.rd ∧ ∀ R : Ren, (∀ q ∈ (askM m a s).2.ob, q R) → (askM m a s).1 = lookM m a := by
  have base : ∀ (hs : List Hint) (ob : List (Ren → Prop)), (∀ q ∈ s.ob, q ∈ ob) → ARun s { s with hs := hs, ob := ob } := fun hs ob hob =>
    ⟨fun _ _ => rfl, fun id o h k => .inr ⟨o, h, k⟩, fun id o h k => .inr ⟨o, h, k⟩, fun _ h => h, fun id h h' => (by simp only at h'; rw [h] at h'; cases h'), fun _ h => h, fun _ h => h, hob⟩
  unfold askM
  split
  · exact ⟨base _ _ (fun _ h => List.mem_cons_of_mem _ h), rfl, rfl, rfl, fun R hR => ((hR _ List.mem_cons_self : lookM m a = none)).symm⟩
  · rename_i i hs _
    exact ⟨base _ _ (fun _ h => List.mem_cons_of_mem _ h), rfl, rfl, rfl, fun R hR => ((hR _ List.mem_cons_self : lookM m a = (m[i]?).map (·.2))).symm⟩
  · exact ⟨ARun.refl s, rfl, rfl, rfl, fun _ _ => rfl⟩

def evLookup (P : Program) (t : TypeId) (x key : Value) (ok : Bool) (s : St) : Option (Value × St) :=
  match P.underlying t with
  | some (.map k e) => match zeroOf P e, x with
    | some z, .map (some id) => match P.underlying k, key, s.h.get id with
      | some (.int q), .int q' n, some (.mapI q'' m) => match decide (q' = q) && decide (q'' = q) with
        | true => some (found ok z (askM m n s).1, (askM m n s).2.look id)
        | false => none
      | some .string, .string n, some (.mapS m) => some (found ok z (askM m n s).1, (askM m n s).2.look id)
      | _, _, _ => none
    | _, _ => none
  | _ => none

def evMapUpdate (P : Program) (t : TypeId) (x key val : Value) (s : St) : Option (Value × St) :=
  match P.underlying t with
  | some (.map k _) => match x with
    | .map (some id) => match P.underlying k, key, s.h.get id with
      | some (.int q), .int q' n, some (.mapI q'' m) => match decide (q' = q) && decide (q'' = q) with
        | true => some (undef, s.put id (.mapI q (putM m n val)))
        | false => none
      | some .string, .string n, some (.mapS m) => some (undef, s.put id (.mapS (putM m n val)))
      | _, _, _ => none
    | _ => none
  | _ => none

def evDelete (P : Program) (t : TypeId) (x key : Value) (s : St) : Option (Value × St) :=
  match P.underlying t with
  | some (.map k _) => match x with
    | .map (some id) => match P.underlying k, key, s.h.get id with
      | some (.int q), .int q' n, some (.mapI q'' m) => match decide (q' = q) && decide (q'' = q) with
        | true => some (.tuple ⟨[]⟩, s.put id (.mapI q (delM m n)))
        | false => none
      | some .string, .string n, some (.mapS m) => some (.tuple ⟨[]⟩, s.put id (.mapS (delM m n)))
      | _, _, _ => none
    | _ => none
  | _ => none

section
variable {P : Program} {G : Gd}
theorem zeroOf_eq {t : TypeId} {z : Value} (h : zeroOf P t = some z) : flat z = true ∧ ∀ w, (zeroValue t).run P w = .ok z w := by
  unfold zeroOf at h
  split at h
  · cases h
  rename_i i hi
  split at h
  · cases h
  rename_i z' hz
  split at h
  · rename_i hf
    cases h
    exact ⟨hf, fun w => by simp [zeroValue, typeInfo, hi, hz]⟩
  · cases h

theorem new_obj {F : Nat → Prop} {R : Ren} {w : World} {s s1 : St} {o : AObj} {ob : Obj} {id : Nat} (hm : s.mk' o = some (id, s1)) (hwr : ∀ id ∈ s1.wr, F id) (hS : Sat P G F R s.h w)
    (ho : ∀ R', R' id = some ⟨w.heap.size, 0, 0, undef⟩ → SatObj P R' (w.alloc ob) id o) :
    ∃ R', R' id = some ⟨w.heap.size, 0, 0, undef⟩ ∧ Sat P G F R' s1.h (w.alloc ob) ∧ Step R w s.h R' (w.alloc ob) s1.wr := by
  obtain ⟨rfl, hn, rfl⟩ := St.mk'_eq hm
  obtain ⟨_, h1, h2⟩ := hS.new (o := o) (ob := ob) (ext := 0) (hwr (2 * s.c) (by simp)) hn s.wr (ho _ (Ren.upd_same _ _ _))
  exact ⟨_, Ren.upd_same _ _ _, h1, h2⟩

theorem evMakeMap_ok {dst : Option Tmp} {t ty : TypeId} {r : Option Operand} {pos : String} {after : Array Edge} {gd : Option (Nat × Bool)} {ρ : Operand → Value} {s s' : St} {v : Value}
    (h : evMakeMap P t (r.map ρ) s = some (v, s')) : OpS P G ⟨dst, .makeMap t r, ty, pos, after, gd⟩ ρ s v s' := by
  unfold evMakeMap at h
  split at h
  · rename_i k e hu
    split at h
    · cases h
    rename_i hr
    have hrun : ∀ (R : Ren) (w : World) (a : Act), (∀ x ∈ (Op.makeMap t r).operands, VR R (ρ x) (a.eval x)) → (execOp a.eval ⟨dst, .makeMap t r, ty, pos, after, gd⟩).run P w = .ok (.value (.map (some w.heap.size))) (w.alloc (.map #[] 0)) := by
      intro R w a hop
      cases r with
      | none => simp [execOp, Instr.makeMap]
      | some x =>
        have hx := hop x (by simp [Op.operands])
        simp only [Option.map_some] at hr
        split at hr
        · rename_i h0; cases h0
        · rename_i q n h0
          simp only [Option.some.injEq] at h0
          rw [h0] at hx
          have hx : a.eval x = .int q n := hx
          simp [execOp, Instr.makeMap, run_underlying hu, hx, asInt, asIntOf]
        · cases hr
    split at h
    · rename_i q hk
      cases hm : s.mk' (.mapI q []) with
      | none => rw [hm] at h; cases h
      | some p =>
        obtain ⟨id, s1⟩ := p
        rw [hm] at h
        simp only [Option.map_some, Option.some.injEq, Prod.mk.injEq] at h
        obtain ⟨rfl, rfl⟩ := h
        refine ⟨ARun.mk' hm, fun F R w a hrd hwr hS _ hop K Q hK => ?_⟩
        obtain ⟨R', g1, g2, g3⟩ := new_obj (ob := .map #[] 0) hm hwr hS (fun R' hR' => ⟨_, [], hR', VRm.nil_left.2 rfl, MapAt.new w _⟩)
        exact wp_value (hrun R w a hop) (hK R' _ _ ⟨_, g1, rfl⟩ g2 g3)
    · rename_i hk
      cases hm : s.mk' (.mapS []) with
      | none => rw [hm] at h; cases h
      | some p =>
        obtain ⟨id, s1⟩ := p
        rw [hm] at h
        simp only [Option.map_some, Option.some.injEq, Prod.mk.injEq] at h
        obtain ⟨rfl, rfl⟩ := h
        refine ⟨ARun.mk' hm, fun F R w a hrd hwr hS _ hop K Q hK => ?_⟩
        obtain ⟨R', g1, g2, g3⟩ := new_obj (ob := .map #[] 0) hm hwr hS (fun R' hR' => ⟨_, [], hR', VRm.nil_left.2 rfl, MapAt.new w _⟩)
        exact wp_value (hrun R w a hop) (hK R' _ _ ⟨_, g1, rfl⟩ g2 g3)
    · cases h
  · cases h

theorem found_rel {κ : Type} [DecidableEq κ] {R : Ren} {m m' : List (κ × Value)} (h : VRm R m m') {z : Value} (hz : flat z = true) (a : κ) : VR R (found false z (lookM m a)) ((lookM m' a).getD z) ∧ VR R (found true z (lookM m a)) (.tuple #[(lookM m' a).getD z, .bool (lookM m' a).isSome]) := by
  rcases h.look a with ⟨x, v, h1, h2, h3⟩ | ⟨h1, h2⟩
  · rw [h1, h2]
    exact ⟨h3, ⟨_, ⟨_, ⟨_, _, h3, ⟨_, _, rfl, rfl, rfl⟩, rfl⟩, rfl⟩, rfl⟩⟩
  · rw [h1, h2]
    have hz := (VR.flat (R := R) hz).2 rfl
    exact ⟨hz, ⟨_, ⟨_, ⟨_, _, hz, ⟨_, _, rfl, rfl, rfl⟩, rfl⟩, rfl⟩, rfl⟩⟩

theorem evLookup_ok {dst : Option Tmp} {t ty : TypeId} {x ix : Operand} {ok : Bool} {pos : String} {after : Array Edge} {gd : Option (Nat × Bool)} {ρ : Operand → Value} {s s' : St} {v : Value}
    (h : evLookup P t (ρ x) (ρ ix) ok s = some (v, s')) : OpS P G ⟨dst, .lookup t x ix ok, ty, pos, after, gd⟩ ρ s v s' := by
  unfold evLookup at h
  split at h
  · rename_i k e hu
    split at h
    · rename_i z id hz hx
      obtain ⟨hzf, hzr⟩ := zeroOf_eq hz
      split at h
      · rename_i q q' n q'' m hk hn ho
        split at h
        · rename_i hq
          simp only [Bool.and_eq_true, decide_eq_true_eq] at hq
          obtain ⟨rfl, rfl⟩ := hq
          simp only [Option.some.injEq, Prod.mk.injEq] at h
          obtain ⟨rfl, rfl⟩ := h
          obtain ⟨b1, b2, b3, b4, b5⟩ := askM_ok m n s
          refine ⟨b1.trans (ARun.look _ id), fun F R w a hrd hwr hS hob hop K Q hK => ?_⟩
          have hans := b5 R (fun q hq => hob R (.refl R) q hq)
          obtain ⟨l, m', h1, h2, h3⟩ := hS.obj id _ (hrd id (by simp [St.look])) ho
          have hx' := hop x (by simp [Op.operands])
          have hn' := hop ix (by simp [Op.operands])
          rw [hx] at hx'
          rw [hn] at hn'
          have hn' : a.eval ix = .int _ n := hn'
          obtain ⟨l', hl', hae⟩ := hx'
          rw [h1] at hl'
          cases hl'
          obtain ⟨f1, f2⟩ := found_rel h2 hzf n
          cases ok
          · refine wp_value (v := (lookM m' n).getD z) ?_ (hK R _ w (by rw [hans]; exact f1) (by simp only [St.look, b2]; exact hS) (Step.refl _ _ _ _))
            simp only [execOp, hae, hn', Sem.run_bind, h3.look (keyOk_int hk) hu (hzr w) n, Result.andThen_ok]
            rfl
          · refine wp_value (v := .tuple #[(lookM m' n).getD z, .bool (lookM m' n).isSome]) ?_ (hK R _ w (by rw [hans]; exact f2) (by simp only [St.look, b2]; exact hS) (Step.refl _ _ _ _))
            simp only [execOp, hae, hn', Sem.run_bind, h3.look_ok (keyOk_int hk) hu (hzr w) n, Result.andThen_ok]
            rfl
        · cases h
      · rename_i n m hk hn ho
        simp only [Option.some.injEq, Prod.mk.injEq] at h
        obtain ⟨rfl, rfl⟩ := h
        obtain ⟨b1, b2, b3, b4, b5⟩ := askM_ok m n s
        refine ⟨b1.trans (ARun.look _ id), fun F R w a hrd hwr hS hob hop K Q hK => ?_⟩
        have hans := b5 R (fun q hq => hob R (.refl R) q hq)
        obtain ⟨l, m', h1, h2, h3⟩ := hS.obj id _ (hrd id (by simp [St.look])) ho
        have hx' := hop x (by simp [Op.operands])
        have hn' := hop ix (by simp [Op.operands])
        rw [hx] at hx'
        rw [hn] at hn'
        have hn' : a.eval ix = .string n := hn'
        obtain ⟨l', hl', hae⟩ := hx'
        rw [h1] at hl'
        cases hl'
        obtain ⟨f1, f2⟩ := found_rel h2 hzf n
        cases ok
        · refine wp_value (v := (lookM m' n).getD z) ?_ (hK R _ w (by rw [hans]; exact f1) (by simp only [St.look, b2]; exact hS) (Step.refl _ _ _ _))
          simp only [execOp, hae, hn', Sem.run_bind, h3.look (keyOk_string hk) hu (hzr w) n, Result.andThen_ok]
          rfl
        · refine wp_value (v := .tuple #[(lookM m' n).getD z, .bool (lookM m' n).isSome]) ?_ (hK R _ w (by rw [hans]; exact f2) (by simp only [St.look, b2]; exact hS) (Step.refl _ _ _ _))
          simp only [execOp, hae, hn', Sem.run_bind, h3.look_ok (keyOk_string hk) hu (hzr w) n, Result.andThen_ok]
          rfl
      · cases h
    · cases h
  · cases h

/-- Where a map is written: the law for each kind of key. -/
theorem map_write {κ : Type} [DecidableEq κ] {F : Nat → Prop} {R : Ren} {w w' : World} {s : St} {id : Nat} {o o' : AObj} {l : Loc} (hS : Sat P G F R s.h w) (hF : F id) (ho : s.h.get id = some o) (hw : o.own = true) (hw' : o'.own = true) (hl : R id = some l)
    (hs : SatObj P R w' id o') (hk : Kp (fun g => g = l.blk) w w') : Sat P G F R (s.put id o').h w' ∧ Step R w s.h R w' (s.put id o').wr :=
  hS.write hF ho hw hw' hl s.wr hs hk

theorem evMapUpdate_ok {dst : Option Tmp} {t ty : TypeId} {x ix vl : Operand} {op : Op} (hop' : op = .mapUpdate t x ix vl ∨ op = .insert t x ix vl) {pos : String} {after : Array Edge} {gd : Option (Nat × Bool)} {ρ : Operand → Value} {s s' : St} {v : Value}
    (h : evMapUpdate P t (ρ x) (ρ ix) (ρ vl) s = some (v, s')) : OpS P G ⟨dst, op, ty, pos, after, gd⟩ ρ s v s' := by
  have hexec : ∀ (a : Act) w, (execOp a.eval ⟨dst, op, ty, pos, after, gd⟩).run P w = ((Instr.mapUpdate t (a.eval x) (a.eval ix) (a.eval vl)).run P w).andThen fun _ w => .ok .skip w := by
    intro a w
    rcases hop' with rfl | rfl <;> simp [execOp] <;> rfl
  have hmem : ∀ y, y = x ∨ y = ix ∨ y = vl → y ∈ op.operands := by
    intro y hy
    rcases hop' with rfl | rfl <;> simp [Op.operands] <;> rcases hy with rfl | rfl | rfl <;> simp
  unfold evMapUpdate at h
  split at h
  · rename_i k e hu
    split at h
    · rename_i id hx
      split at h
      · rename_i q q' n q'' m hk hn ho
        split at h
        · rename_i hq
          simp only [Bool.and_eq_true, decide_eq_true_eq] at hq
          obtain ⟨rfl, rfl⟩ := hq
          simp only [Option.some.injEq, Prod.mk.injEq] at h
          obtain ⟨rfl, rfl⟩ := h
          refine ⟨ARun.put _ ho rfl, fun F R w a hrd hwr hS _ hop K Q hK => ?_⟩
          have hF : F id := hwr id (by simp [St.put])
          obtain ⟨l, m', h1, h2, h3⟩ := hS.obj id _ hF ho
          have hx' := hop x (hmem _ (.inl rfl))
          have hn' := hop ix (hmem _ (.inr (.inl rfl)))
          have hv' := hop vl (hmem _ (.inr (.inr rfl)))
          rw [hx] at hx'
          rw [hn] at hn'
          have hn' : a.eval ix = .int _ n := hn'
          obtain ⟨l', hl', hae⟩ := hx'
          rw [h1] at hl'
          cases hl'
          obtain ⟨w', hrun, hM, hkp, _⟩ := h3.put (keyOk_int hk) hu n (a.eval vl)
          obtain ⟨g1, g2⟩ := hS.write (o' := .mapI _ (putM m n (ρ vl))) hF ho rfl rfl h1 s.wr ⟨l, _, h1, h2.put n hv', hM⟩ hkp
          refine wp_skip' ?_ (hK R undef w' (VR_undef R) g1 g2)
          rw [hexec, hae, hn', hrun]
          rfl
        · cases h
      · rename_i n m hk hn ho
        simp only [Option.some.injEq, Prod.mk.injEq] at h
        obtain ⟨rfl, rfl⟩ := h
        refine ⟨ARun.put _ ho rfl, fun F R w a hrd hwr hS _ hop K Q hK => ?_⟩
        have hF : F id := hwr id (by simp [St.put])
        obtain ⟨l, m', h1, h2, h3⟩ := hS.obj id _ hF ho
        have hx' := hop x (hmem _ (.inl rfl))
        have hn' := hop ix (hmem _ (.inr (.inl rfl)))
        have hv' := hop vl (hmem _ (.inr (.inr rfl)))
        rw [hx] at hx'
        rw [hn] at hn'
        have hn' : a.eval ix = .string n := hn'
        obtain ⟨l', hl', hae⟩ := hx'
        rw [h1] at hl'
        cases hl'
        obtain ⟨w', hrun, hM, hkp, _⟩ := h3.put (keyOk_string hk) hu n (a.eval vl)
        obtain ⟨g1, g2⟩ := hS.write (o' := .mapS (putM m n (ρ vl))) hF ho rfl rfl h1 s.wr ⟨l, _, h1, h2.put n hv', hM⟩ hkp
        refine wp_skip' ?_ (hK R undef w' (VR_undef R) g1 g2)
        rw [hexec, hae, hn', hrun]
        rfl
      · cases h
    · cases h
  · cases h

theorem evDelete_ok {dst : Option Tmp} {t kt ty : TypeId} {x ix : Operand} {pos : String} {after : Array Edge} {gd : Option (Nat × Bool)} {ρ : Operand → Value} {s s' : St} {v : Value}
    (hkt : ∃ e, P.underlying t = some (.map kt e)) (h : evDelete P t (ρ x) (ρ ix) s = some (v, s')) : OpS P G ⟨dst, .call ⟨.builtin .delete, #[x, ix], #[t, kt]⟩, ty, pos, after, gd⟩ ρ s v s' := by
  unfold evDelete at h
  split at h
  · rename_i k e hu
    obtain ⟨e', hkt⟩ := hkt
    rw [hu] at hkt
    cases hkt
    split at h
    · rename_i id hx
      split at h
      · rename_i q q' n q'' m hk hn ho
        split at h
        · rename_i hq
          simp only [Bool.and_eq_true, decide_eq_true_eq] at hq
          obtain ⟨rfl, rfl⟩ := hq
          simp only [Option.some.injEq, Prod.mk.injEq] at h
          obtain ⟨rfl, rfl⟩ := h
          refine ⟨ARun.put _ ho rfl, fun F R w a hrd hwr hS _ hop K Q hK => ?_⟩
          have hF : F id := hwr id (by simp [St.put])
          obtain ⟨l, m', h1, h2, h3⟩ := hS.obj id _ hF ho
          have hx' := hop x (by simp [Op.operands, Call.operands])
          have hn' := hop ix (by simp [Op.operands, Call.operands])
          rw [hx] at hx'
          rw [hn] at hn'
          have hn' : a.eval ix = .int _ n := hn'
          obtain ⟨l', hl', hae⟩ := hx'
          rw [h1] at hl'
          cases hl'
          obtain ⟨w', hrun, hM, hkp, _⟩ := h3.del (keyOk_int hk) (ty := ty) hu n
          obtain ⟨g1, g2⟩ := hS.write (o' := .mapI _ (delM m n)) hF ho rfl rfl h1 s.wr ⟨l, _, h1, h2.del n, hM⟩ hkp
          refine wp_value (v := .tuple #[]) (w' := w') ?_ (hK R _ w' ((VR.flat rfl).2 rfl) g1 g2)
          simp only [execOp, resolve, Sem.run_bind, Sem.run_pure, Result.andThen_ok, invoke, builtin]
          simp [hae, hn', hrun]
        · cases h
      · rename_i n m hk hn ho
        simp only [Option.some.injEq, Prod.mk.injEq] at h
        obtain ⟨rfl, rfl⟩ := h
        refine ⟨ARun.put _ ho rfl, fun F R w a hrd hwr hS _ hop K Q hK => ?_⟩
        have hF : F id := hwr id (by simp [St.put])
        obtain ⟨l, m', h1, h2, h3⟩ := hS.obj id _ hF ho
        have hx' := hop x (by simp [Op.operands, Call.operands])
        have hn' := hop ix (by simp [Op.operands, Call.operands])
        rw [hx] at hx'
        rw [hn] at hn'
        have hn' : a.eval ix = .string n := hn'
        obtain ⟨l', hl', hae⟩ := hx'
        rw [h1] at hl'
        cases hl'
        obtain ⟨w', hrun, hM, hkp, _⟩ := h3.del (keyOk_string hk) (ty := ty) hu n
        obtain ⟨g1, g2⟩ := hS.write (o' := .mapS (delM m n)) hF ho rfl rfl h1 s.wr ⟨l, _, h1, h2.del n, hM⟩ hkp
        refine wp_value (v := .tuple #[]) (w' := w') ?_ (hK R _ w' ((VR.flat rfl).2 rfl) g1 g2)
        simp only [execOp, resolve, Sem.run_bind, Sem.run_pure, Result.andThen_ok, invoke, builtin]
        simp [hae, hn', hrun]
      · cases h
    · cases h
  · cases h

theorem VRs_map {R : Ren} {ρ : Operand → Value} {a : Act} : ∀ {l : List Operand}, (∀ x ∈ l, VR R (ρ x) (a.eval x)) → VRs R (l.map ρ) (l.map a.eval)
  | [], _ => rfl
  | x :: l, h => ⟨_, _, h x (by simp), VRs_map fun y hy => h y (List.mem_cons_of_mem _ hy), rfl⟩
theorem evMakeFunc_ok {dst : Option Tmp} {ty : TypeId} {fn : Fn} {first captured : Array Operand} {pos : String} {after : Array Edge} {gd : Option (Nat × Bool)} {ρ : Operand → Value} {s : St} : OpS P G ⟨dst, .makeFunc fn first captured, ty, pos, after, gd⟩ ρ s (.func fn ⟨first.toList.map ρ⟩ ⟨captured.toList.map ρ⟩) s := by
  refine .pure fun R w a hop => ⟨.func fn (first.map a.eval) (captured.map a.eval), by simp [execOp, Instr.makeFunc], ?_⟩
  have h1 : VRs R (first.toList.map ρ) (first.toList.map a.eval) := VRs_map fun x hx => hop x (by simp [Op.operands] at *; exact .inl hx)
  have h2 : VRs R (captured.toList.map ρ) (captured.toList.map a.eval) := VRs_map fun x hx => hop x (by simp [Op.operands] at *; exact .inr hx)
  exact ⟨_, _, ⟨_, h1, rfl⟩, ⟨_, h2, rfl⟩, by congr 1 <;> (apply Array.ext'; simp)⟩
end
end Go.Proofs.Ytahopbjoaoiknaa
