/- An evaluator over named blocks: addresses, parts, literals. Nothing of the program stands here. -/
import Derived.Test.YtahopbjoaoiknaaEv4
import Derived.Test.YtahopbjoaoiknaaBs
namespace Go.Proofs.Ytahopbjoaoiknaa
set_option linter.unusedVariables false
set_option linter.unusedSimpArgs false
open Go.RowKit

def askB (b : Bool) (s : St) : Option (Bool × St) :=
  match s.hs with
  | [] => match b with
    | true => some (true, s)
    | false => some (false, s)
  | .auto :: hs => match b with
    | true => some (true, { s with hs := hs })
    | false => some (false, { s with hs := hs })
  | .b d :: hs => some (d, { s with hs := hs, ob := (fun _ => b = d) :: s.ob })
  | _ => none
theorem askB_ok {b d : Bool} {s s' : St} (h : askB b s = some (d, s')) : ARun s s' ∧ s'.h = s.h ∧ s'.c = s.c ∧ s'.wr = s.wr ∧ s'.rd = s.rd ∧ (∀ R : Ren, (∀ q ∈ s'.ob, q R) → b = d) := by
  have base : ∀ (hs : List Hint) (ob : List (Ren → Prop)), (∀ q ∈ s.ob, q ∈ ob) → ARun s { s with hs := hs, ob := ob } := fun hs ob hob =>
    ⟨fun _ _ => rfl, fun id o h k => .inr ⟨o, h, k⟩, fun id o h k => .inr ⟨o, h, k⟩, fun _ h => h, fun id h h' => (by simp only at h'; rw [h] at h'; cases h'), fun _ h => h, fun _ h => h, hob⟩
  unfold askB at h
  split at h
  · split at h <;> (simp only [Option.some.injEq, Prod.mk.injEq] at h; obtain ⟨rfl, rfl⟩ := h; exact ⟨ARun.refl _, rfl, rfl, rfl, rfl, fun _ _ => rfl⟩)
  · split at h <;> (simp only [Option.some.injEq, Prod.mk.injEq] at h; obtain ⟨rfl, rfl⟩ := h; exact ⟨base _ s.ob (fun _ h => h), rfl, rfl, rfl, rfl, fun _ _ => rfl⟩)
  · simp only [Option.some.injEq, Prod.mk.injEq] at h
    obtain ⟨rfl, rfl⟩ := h
    exact ⟨base _ _ (fun _ h => List.mem_cons_of_mem _ h), rfl, rfl, rfl, rfl, fun R hR => hR _ List.mem_cons_self⟩
  · cases h

/-- A test whose outcome is there. -/
def askB0 (b : Bool) (s : St) : Option (Bool × St) :=
  match b with
  | true => some (true, s)
  | false => some (false, s)
theorem askB0_ok {b d : Bool} {s s' : St} (h : askB0 b s = some (d, s')) : ARun s s' ∧ s'.h = s.h ∧ s'.c = s.c ∧ s'.wr = s.wr ∧ s'.rd = s.rd ∧ (∀ R : Ren, (∀ q ∈ s'.ob, q R) → b = d) := by
  unfold askB0 at h
  split at h <;> (simp only [Option.some.injEq, Prod.mk.injEq] at h; obtain ⟨rfl, rfl⟩ := h; exact ⟨ARun.refl _, rfl, rfl, rfl, rfl, fun _ _ => rfl⟩)

def evFieldAddr (P : Program) (st : TypeId) (x : Value) (f : Nat) (s : St) : Option (Value × St) :=
  match x with
  | .pointer (some ⟨id, off, none⟩) => match P.underlying st with
    | some (.struct fields) => match fields[f]? with
      | none => none
      | some fd => match P.info? fd.type with
        | none => none
        | some i => match Nat.beq i.size 0 with
          | true => none
          | false => some (.pointer (some ⟨id, off + fd.offset, none⟩), s)
    | _ => none
  | _ => none

def evField (P : Program) (xt : TypeId) (x : Value) (f : Nat) (s : St) : Option (Value × St) :=
  match x with
  | .agg ⟨cs⟩ => match P.underlying xt with
    | some (.struct fields) => match fields[f]? with
      | none => none
      | some fd => match loadC P fd.type cs fd.offset with
        | none => none
        | some v => some (v, s)
    | _ => none
  | _ => none

def evExtract (x : Value) (i : Nat) (s : St) : Option (Value × St) :=
  match x with
  | .tuple ⟨vs⟩ => match vs[i]? with
    | none => none
    | some v => some (v, s)
  | _ => none

def evPick (c a b : Value) (s : St) : Option (Value × St) :=
  match c with
  | .bool t => match askB0 t s with
    | none => none
    | some (true, s') => some (a, s')
    | some (false, s') => some (b, s')
  | _ => none

/-- Parts laid into a row. -/
def fillL (place : Nat → Option (Nat × Nat)) (cells : List Value) : List (Nat × Value) → Option (List Value)
  | [] => some cells
  | (i, v) :: rest =>
    match place i with
    | none => none
    | some (off, size) => match Nat.beq v.cells.toList.length size && Nat.ble (off + size) cells.length with
      | true => fillL place (splice cells v.cells.toList off) rest
      | false => none

def VRp (R : Ren) : List (Nat × Value) → List (Nat × Value) → Prop
  | [], l => l = []
  | (i, x) :: xs, l => ∃ y ys, VR R x y ∧ VRp R xs ys ∧ l = (i, y) :: ys

theorem fill_off {cells vs : List Value} {off : Nat} (h : off + vs.length ≤ cells.length) :
    (vs.toArray.zipIdx.foldl (fun (cs : Array Value) (x : Value × Nat) => cs.setIfInBounds (off + x.2) x.1) cells.toArray) = (splice cells vs off).toArray := by
  have e := fold_off vs (cells.take off) ((cells.drop off).take vs.length) (cells.drop (off + vs.length)) 0 off (by simp; omega) (by simp; omega)
  have hc : cells.take off ++ (cells.drop off).take vs.length ++ cells.drop (off + vs.length) = cells := by
    rw [List.append_assoc, ← List.drop_drop, List.take_append_drop, List.take_append_drop]
  rw [hc] at e
  rw [← Array.foldl_toList, Array.toList_zipIdx]
  exact e

theorem fillL_ok {R : Ren} {place : Nat → Option (Nat × Nat)} : ∀ {parts parts' : List (Nat × Value)} {cells cells' r : List Value}, VRp R parts parts' → VRs R cells cells' → fillL place cells parts = some r →
    ∃ r', Instr.fill place ⟨cells'⟩ parts' = some ⟨r'⟩ ∧ VRs R r r'
  | [], parts', cells, cells', r, hp, hc, h => by
    simp only [VRp] at hp
    subst hp
    simp only [fillL] at h
    cases h
    exact ⟨cells', rfl, hc⟩
  | (i, x) :: parts, parts', cells, cells', r, ⟨y, ys, h1, h2, h3⟩, hc, h => by
    subst h3
    simp only [fillL] at h
    unfold Instr.fill
    split at h
    · cases h
    rename_i off size hpl
    rw [hpl]
    split at h
    · rename_i hb
      rw [Bool.and_eq_true] at hb
      have e1 := Nat.eq_of_beq_eq_true hb.1
      have e2 := Nat.le_of_ble_eq_true hb.2
      have hl := h1.cells.length
      have hcl := hc.length
      have hsz : y.cells.size = size := by rw [← e1, ← hl]; simp
      simp only
      have hcond : (decide (y.cells.size ≠ size) || decide (off + y.cells.size > (⟨cells'⟩ : Array Value).size)) = false := by
        have h2 : ¬ (off + size > cells'.length) := by omega
        simpa [hsz] using h2
      rw [hcond]
      simp only [Bool.false_eq_true, if_false]
      have hf := fill_off (cells := cells') (vs := y.cells.toList) (off := off) (by rw [hl]; omega)
      simp only [Array.toArray_toList] at hf
      rw [show (y.cells.zipIdx.foldl (fun cs x => cs.setIfInBounds (off + x.2) x.1) (⟨cells'⟩ : Array Value)) = (splice cells' y.cells.toList off).toArray from hf]
      refine fillL_ok h2 ?_ h
      have := hc.splice h1.cells off
      rw [← hl] at this
      exact this
    · cases h

section
variable {P : Program} {G : Gd}
theorem evFieldAddr_ok {dst : Option Tmp} {st ty : TypeId} {x : Operand} {f : Nat} {pos : String} {after : Array Edge} {gd : Option (Nat × Bool)} {ρ : Operand → Value} {s s' : St} {v : Value}
    (h : evFieldAddr P st (ρ x) f s = some (v, s')) : OpS P G ⟨dst, .fieldAddr st x f, ty, pos, after, gd⟩ ρ s v s' := by
  unfold evFieldAddr at h
  split at h
  · rename_i id off hx
    split at h
    · rename_i fields hu
      split at h
      · cases h
      rename_i fd hfd
      split at h
      · cases h
      rename_i i hi
      split at h
      · cases h
      rename_i hz
      simp only [Option.some.injEq, Prod.mk.injEq] at h
      obtain ⟨rfl, rfl⟩ := h
      refine .pure fun R w a hop => ?_
      have hx' := hop x (by simp [Op.operands])
      rw [hx] at hx'
      obtain ⟨l, hl, hae⟩ := hx'
      refine ⟨.pointer (some ⟨l.blk, l.off + (off + fd.offset), none⟩), ?_, ⟨l, hl, rfl⟩⟩
      have hz' : ¬ i.size = 0 := fun e => by simp [e] at hz
      simp [execOp, hae, Instr.fieldAt, run_underlying hu, hfd, Instr.sureAddr, fieldPlace, run_sizeOf' hi, hz', add_addr, Nat.add_assoc]
    · cases h
  · cases h

theorem run_partC {R : Ren} {w : World} {t : TypeId} {cs cur : List Value} {off : Nat} {v : Value} (h : loadC P t cs off = some v) (hc : VRs R cs cur) :
    ∃ v', (part t ⟨cur⟩ off).run P w = .ok v' w ∧ VR R v v' := by
  unfold loadC at h
  split at h
  · cases h
  rename_i d hd
  split at h
  · rename_i hagg
    split at h
    · cases h
    rename_i i hi
    split at h
    · cases h
      refine ⟨.agg ⟨(cur.drop off).take i.size⟩, ?_, ⟨_, ⟨_, (hc.drop off).take _, rfl⟩, rfl⟩⟩
      simp only [part, Sem.run_bind, run_isAggD hd, Result.andThen_ok, hagg, if_true, run_sizeOf' hi]
      simp
    · cases h
  · rename_i hagg
    obtain ⟨u, hu, hv⟩ := hc.get h
    refine ⟨u, ?_, hv⟩
    simp only [part, Sem.run_bind, run_isAggD hd, Result.andThen_ok, hagg, Bool.false_eq_true, if_false]
    simp [hu]
theorem evField_ok {dst : Option Tmp} {xt ty : TypeId} {x : Operand} {f : Nat} {pos : String} {after : Array Edge} {gd : Option (Nat × Bool)} {ρ : Operand → Value} {s s' : St} {v : Value}
    (h : evField P xt (ρ x) f s = some (v, s')) : OpS P G ⟨dst, .field xt x f, ty, pos, after, gd⟩ ρ s v s' := by
  unfold evField at h
  split at h
  · rename_i cs hx
    split at h
    · rename_i fields hu
      split at h
      · cases h
      rename_i fd hfd
      split at h
      · cases h
      rename_i v0 hv0
      simp only [Option.some.injEq, Prod.mk.injEq] at h
      obtain ⟨rfl, rfl⟩ := h
      refine .pure fun R w a hop => ?_
      have hx' := hop x (by simp [Op.operands])
      rw [hx] at hx'
      obtain ⟨a', ⟨l', hl, rfl⟩, hae⟩ := hx'
      obtain ⟨v', h1, h2⟩ := run_partC (w := w) hv0 hl
      refine ⟨v', ?_, h2⟩
      simp [execOp, hae, Instr.field, run_underlying hu, hfd, asAgg, h1]
    · cases h
  · cases h
theorem evExtract_ok {dst : Option Tmp} {ty : TypeId} {x : Operand} {i : Nat} {pos : String} {after : Array Edge} {gd : Option (Nat × Bool)} {ρ : Operand → Value} {s s' : St} {v : Value}
    (h : evExtract (ρ x) i s = some (v, s')) : OpS P G ⟨dst, .extract x i, ty, pos, after, gd⟩ ρ s v s' := by
  unfold evExtract at h
  split at h
  · rename_i vs hx
    split at h
    · cases h
    rename_i v0 hv0
    simp only [Option.some.injEq, Prod.mk.injEq] at h
    obtain ⟨rfl, rfl⟩ := h
    refine .pure fun R w a hop => ?_
    have hx' := hop x (by simp [Op.operands])
    rw [hx] at hx'
    obtain ⟨a', ⟨l', hl, rfl⟩, hae⟩ := hx'
    obtain ⟨u, hu, hv⟩ := hl.get hv0
    exact ⟨u, by simp [execOp, hae, Instr.extract, hu], hv⟩
  · cases h
theorem evPick_ok {dst : Option Tmp} {ty : TypeId} {c x y : Operand} {pos : String} {after : Array Edge} {gd : Option (Nat × Bool)} {ρ : Operand → Value} {s s' : St} {v : Value}
    (h : evPick (ρ c) (ρ x) (ρ y) s = some (v, s')) : OpS P G ⟨dst, .pick c x y, ty, pos, after, gd⟩ ρ s v s' := by
  unfold evPick at h
  split at h
  · rename_i t hc
    have key : ∀ d, askB0 t s = some (d, s') → v = (if d then ρ x else ρ y) → OpS P G ⟨dst, .pick c x y, ty, pos, after, gd⟩ ρ s v s' := by
      intro d hd hv
      obtain ⟨h1, h2, _, h3, h4, h5⟩ := askB0_ok hd
      refine ⟨h1, fun F R w a hrd hwr hS hob hop K Q hK => ?_⟩
      have hbd := h5 R (hob R (.refl R))
      subst hbd
      have hcc := hop c (by simp [Op.operands])
      rw [hc] at hcc
      have hcc : a.eval c = .bool t := hcc
      refine wp_value (v := if t then a.eval x else a.eval y) (w' := w) ?_ (hK R _ w ?_ (by rw [h2]; exact hS) (Step.refl _ _ _ _))
      · simp [execOp, hcc, asBool]
      · rw [hv]
        cases t
        · exact hop y (by simp [Op.operands])
        · exact hop x (by simp [Op.operands])
    split at h
    · cases h
    · rename_i s1 hs1
      simp only [Option.some.injEq, Prod.mk.injEq] at h
      obtain ⟨rfl, rfl⟩ := h
      exact key true hs1 rfl
    · rename_i s1 hs1
      simp only [Option.some.injEq, Prod.mk.injEq] at h
      obtain ⟨rfl, rfl⟩ := h
      exact key false hs1 rfl
  · cases h
end
end Go.Proofs.Ytahopbjoaoiknaa
