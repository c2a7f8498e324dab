/- An evaluator over named blocks: one operation. Nothing of the program stands here. -/
import Derived.Test.YtahopbjoaoiknaaEv9
import Derived.Test.YtahopbjoaoiknaaEvA
import Derived.Test.YtahopbjoaoiknaaEvM
import Derived.Test.YtahopbjoaoiknaaEvB
namespace Go.Proofs.Ytahopbjoaoiknaa
set_option linter.unusedVariables false
set_option linter.unusedSimpArgs false
open Go.RowKit

def orElse' (a b : Option (Value × St)) : Option (Value × St) :=
  match a with
  | some r => some r
  | none => b

/-- A comparison's outcome: told, or reckoned. -/
def askRes (r : Option (Value × St)) : Option (Value × St) :=
  match r with
  | some (.bool b, s) => match askB b s with
    | none => none
    | some (d, s') => some (.bool d, s')
  | r => r

def lenTy (P : Program) (t : TypeId) (x : Value) : Bool :=
  match P.underlying t, x with
  | some (.slice _), .slice _ _ _ => true
  | some (.map _ _), .map _ => true
  | _, _ => false

def evBuiltin (P : Program) (ρ : Operand → Value) (o : Oper) (b : Builtin) (args : Array Operand) (tys : Array TypeId) (s : St) : Option (Value × St) :=
  match b, args, tys with
  | .len, ⟨[x]⟩, ⟨[t]⟩ => match lenTy P t (ρ x) with
    | true => orElse' (evLen (ρ x) s) (evFlat P ρ o s)
    | false => evFlat P ρ o s
  | .delete, ⟨[x, y]⟩, ⟨[t, kt]⟩ => match P.underlying t with
    | some (.map k _) => match Nat.beq k kt with
      | true => evDelete P t (ρ x) (ρ y) s
      | false => none
    | _ => none
  | .append, ⟨[x, y]⟩, ⟨[t, t']⟩ => evAppend P t t' (ρ x) (ρ y) s
  | .copy, ⟨[x, y]⟩, ⟨[t, t']⟩ => evCopy P t t' (ρ x) (ρ y) s
  | .min, _, _ => evFlat P ρ o s
  | .max, _, _ => evFlat P ρ o s
  | _, _, _ => none

/-- One operation that calls nothing. -/
def evPrim (P : Program) (ρ : Operand → Value) (o : Oper) (s : St) : Option (Value × St) :=
  match o.op with
  | .move x => some (ρ x, s)
  | .assign x => some (ρ x, s)
  | .pick c x y => evPick (ρ c) (ρ x) (ρ y) s
  | .alloc e => evAlloc P e s
  | .box e x => evBox e (ρ x) s
  | .build t parts => evBuild P t (parts.toList.map fun p => (p.1, ρ p.2)) s
  | .buildSlice t n parts => match n, parts with
    | 0, ⟨[]⟩ => evBuild0 P t s
    | _, _ => evBuildSlice P t n (parts.toList.map fun p => (p.1, ρ p.2)) s
  | .load t x => evLoad P t (ρ x) s
  | .store t x y => evStore P t (ρ x) (ρ y) s
  | .nilCheck x => match ρ x with
    | .pointer (some _) => some (ρ x, s)
    | _ => evFlat P ρ o s
  | .binOp op t x y _ => orElse' (evNil P op t (ρ x) (ρ y) s) (orElse' (evSame P op t (ρ x) (ρ y) s) (orElse' (evOther P op t (ρ x) (ρ y) s) (askRes (evFlat P ρ o s))))
  | .unOp _ _ _ => evFlat P ρ o s
  | .convert a b x => orElse' (evConvS P a b (ρ x) s) (evFlat P ρ o s)
  | .range t x => evRange P t (ρ x) s
  | .next x b => evNext (ρ x) b s
  | .index _ _ _ => evFlat P ρ o s
  | .slice t x lo hi mx => orElse' (evSlice P t (ρ x) (lo.map ρ) (hi.map ρ) (mx.map ρ) s) (evFlat P ρ o s)
  | .fieldAddr t x f => evFieldAddr P t (ρ x) f s
  | .field t x f => evField P t (ρ x) f s
  | .indexAddr t x y => evIndexAddr P t (ρ x) (ρ y) s
  | .lookup t x y ok => evLookup P t (ρ x) (ρ y) ok s
  | .mapUpdate t x y z => evMapUpdate P t (ρ x) (ρ y) (ρ z) s
  | .insert t x y z => evMapUpdate P t (ρ x) (ρ y) (ρ z) s
  | .mapEntry t x y => evMapEntry P t (ρ x) (ρ y) s
  | .entryStore _ x y z => evEntryStore (ρ x) (ρ y) (ρ z) s
  | .makeMap t r => evMakeMap P t (r.map ρ) s
  | .makeSlice t x y => evMakeSlice P t (ρ x) (ρ y) s
  | .extract x i => evExtract (ρ x) i s
  | .makeFunc fn first captured => some (.func fn ⟨first.toList.map ρ⟩ ⟨captured.toList.map ρ⟩, s)
  | .call c => match c.callee with
    | .builtin b => evBuiltin P ρ o b c.args c.argTypes s
    | _ => none
  | _ => none

section
variable {P : Program} {G : Gd}
theorem orElse'_ok {a b : Option (Value × St)} {Q : Prop} {r : Value × St} (h : orElse' a b = some r) (h1 : a = some r → Q) (h2 : b = some r → Q) : Q := by
  unfold orElse' at h
  split at h
  · exact h1 h
  · exact h2 h

theorem askRes_ok {o : Oper} {ρ : Operand → Value} {s s' : St} {v : Value} {r : Option (Value × St)} (hr : ∀ v s', r = some (v, s') → OpS P G o ρ s v s') (h : askRes r = some (v, s')) : OpS P G o ρ s v s' := by
  unfold askRes at h
  split at h
  · rename_i b s1
    split at h
    · cases h
    rename_i d s2 hd
    simp only [Option.some.injEq, Prod.mk.injEq] at h
    obtain ⟨rfl, rfl⟩ := h
    obtain ⟨h1, h2, h3, h4, h5, h6⟩ := askB_ok hd
    obtain ⟨k1, k2⟩ := hr _ _ rfl
    refine ⟨k1.trans h1, fun F R w a hrd hwr hS hob hop K Q hK => ?_⟩
    have hbd := h6 R (hob R (.refl R))
    subst hbd
    refine k2 F R w a (fun id hi => hrd id (h1.rd id hi)) (fun id hi => hwr id (h1.wr id hi)) hS (fun R' hR' q hq => hob R' hR' q (h1.ob q hq)) hop K Q fun R' v' w' q1 q2 q3 => hK R' v' w' q1 (by rw [h2]; exact q2) (by rw [h4]; exact q3)
  · exact hr _ _ h

theorem evBuiltin_ok {dst : Option Tmp} {ty : TypeId} {pos : String} {after : Array Edge} {gd : Option (Nat × Bool)} {b : Builtin} {args : Array Operand} {tys : Array TypeId} {ρ : Operand → Value} {s s' : St} {v : Value}
    (h : evBuiltin P ρ ⟨dst, .call ⟨.builtin b, args, tys⟩, ty, pos, after, gd⟩ b args tys s = some (v, s')) : OpS P G ⟨dst, .call ⟨.builtin b, args, tys⟩, ty, pos, after, gd⟩ ρ s v s' := by
  unfold evBuiltin at h
  split at h
  · rename_i x t
    split at h
    · rename_i hl
      refine orElse'_ok h (fun h => evLen_ok ?_ h) (fun h => evFlat_ok (by intro cs b; simp) h)
      unfold lenTy at hl
      split at hl <;> simp_all
    · exact evFlat_ok (by intro cs b; simp) h
  · split at h
    · rename_i k e hu
      split at h
      · rename_i hk
        have hk := Nat.eq_of_beq_eq_true hk
        subst hk
        exact evDelete_ok ⟨e, hu⟩ h
      · cases h
    · cases h
  · exact evAppend_ok h
  · exact evCopy_ok h
  · exact evFlat_ok (by intro cs b; simp) h
  · exact evFlat_ok (by intro cs b; simp) h
  · cases h

theorem evPrim_ok {ρ : Operand → Value} {o : Oper} {s s' : St} {v : Value} (h : evPrim P ρ o s = some (v, s')) : OpS P G o ρ s v s' := by
  obtain ⟨dst, op, ty, pos, after, gd⟩ := o
  unfold evPrim at h
  cases op with
  | move x => simp only [Option.some.injEq, Prod.mk.injEq] at h; obtain ⟨rfl, rfl⟩ := h; exact evMove_ok
  | assign x => simp only [Option.some.injEq, Prod.mk.injEq] at h; obtain ⟨rfl, rfl⟩ := h; exact evAssign_ok
  | pick c x y => exact evPick_ok h
  | alloc e => exact evAlloc_ok h
  | box e x => exact evBox_ok h
  | build t parts => exact evBuild_ok h
  | buildSlice t n parts =>
    simp only at h
    split at h
    · exact evBuild0_ok h
    · exact evBuildSlice_ok h
  | load t x => exact evLoad_ok h
  | store t x y => exact evStore_ok h
  | nilCheck x =>
    simp only at h
    split at h
    · rename_i ad hx
      simp only [Option.some.injEq, Prod.mk.injEq] at h
      obtain ⟨rfl, rfl⟩ := h
      exact evPtr_nilCheck hx
    · exact evFlat_ok (by intro cs b; simp) h
  | binOp op t x y yt =>
    exact orElse'_ok h (fun h => evNil_ok h) (fun h => orElse'_ok h (fun h => evSame_ok h) (fun h => orElse'_ok h (fun h => evOther_ok h) (fun h => askRes_ok (fun v s' h => evFlat_ok (by intro cs b; simp) h) h)))
  | unOp _ _ _ => exact evFlat_ok (by intro cs b; simp) h
  | convert _ _ _ => exact orElse'_ok h (fun h => evConvS_ok h) (fun h => evFlat_ok (by intro cs b; simp) h)
  | range t x => exact evRange_ok h
  | next x b => exact evNext_ok h
  | index _ _ _ => exact evFlat_ok (by intro cs b; simp) h
  | slice t x lo hi mx => exact orElse'_ok h (fun h => evSlice_ok h) (fun h => evFlat_ok (by intro cs b; simp) h)
  | fieldAddr t x f => exact evFieldAddr_ok h
  | field t x f => exact evField_ok h
  | indexAddr t x y => exact evIndexAddr_ok h
  | lookup t x y ok => exact evLookup_ok h
  | mapUpdate t x y z => exact evMapUpdate_ok (.inl rfl) h
  | insert t x y z => exact evMapUpdate_ok (.inr rfl) h
  | mapEntry t x y => exact evMapEntry_ok h
  | entryStore t x y z => exact evEntryStore_ok h
  | makeMap t r => exact evMakeMap_ok h
  | makeSlice t x y => exact evMakeSlice_ok h
  | extract x i => exact evExtract_ok h
  | makeFunc fn first captured => simp only [Option.some.injEq, Prod.mk.injEq] at h; obtain ⟨rfl, rfl⟩ := h; exact evMakeFunc_ok
  | call c =>
    obtain ⟨callee, args, tys⟩ := c
    cases callee with
    | builtin b => exact evBuiltin_ok h
    | value f => cases h
    | invoke r m => cases h
  | _ => cases h
end
end Go.Proofs.Ytahopbjoaoiknaa
