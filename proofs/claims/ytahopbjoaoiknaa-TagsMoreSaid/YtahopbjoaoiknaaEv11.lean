/- An evaluator over named blocks: one operation, calls too; a row of operations. Nothing of the program stands here. -/
import Derived.Test.YtahopbjoaoiknaaEv10
import Derived.Test.YtahopbjoaoiknaaEvX
namespace Go.Proofs.Ytahopbjoaoiknaa
set_option linter.unusedVariables false
set_option linter.unusedSimpArgs false
open Go.RowKit

abbrev CallF := FuncId → List Value → St → Option (Value × St)

/-- What a call does. -/
def CallS (P : Program) (G : Gd) (f : FuncId) (args : List Value) (s : St) (v : Value) (s' : St) : Prop :=
  ARun s s' ∧ ∀ (F : Nat → Prop) (R : Ren) (w : World) (avs : List Value), (∀ id ∈ s'.rd, F id) → (∀ id ∈ s'.wr, F id) → Sat P G F R s.h w → (∀ R', R.le R' → ∀ q ∈ s'.ob, q R') → VRs R args avs →
    Calls P f ⟨avs⟩ w fun e w' => ∃ R' v', e = .returned v' ∧ VR R' v v' ∧ Sat P G F R' s'.h w' ∧ Step R w s.h R' w' s'.wr

def evl (tm : Tr Value) : Operand → Value
  | .tmp t => (tm.get t).getD undef
  | .const v => v
  | .global g => .pointer (some ⟨2 * g + 1, 0, none⟩)
  | .func f => .func (.func f) #[] #[]
def okOpd : Operand → Bool
  | .const v => flat v
  | .global _ => false
  | _ => true
def okOp (nt : Nat) (o : Oper) : Bool :=
  o.op.operands.toList.all okOpd && match o.dst with
    | none => true
    | some d => Nat.blt d nt
def putT (tm : Tr Value) (dst : Option Tmp) (v : Value) : Tr Value :=
  match dst with
  | none => tm
  | some d => tm.set d v

/-- Is an operation wanted? -/
def evGuard (nt : Nat) (ops : Array Oper) (o : Oper) (tm : Tr Value) (s : St) : Option (Bool × St) :=
  match o.guard with
  | none => some (true, s)
  | some (g, want) => match (ops[g]?).bind (·.dst) with
    | none => some (false, s)
    | some t => match Nat.blt t nt with
      | false => none
      | true => match (tm.get t).getD undef with
        | .bool b => match askB0 b s with
          | none => none
          | some (d, s') => some (d == want, s')
        | .tuple _ => some (false, s)
        | _ => none

def evCallOp (P : Program) (X : ExtT) (call : CallF) (ρ : Operand → Value) (c : Call) (s : St) : Option (Value × St) :=
  match c.callee with
  | .value f => match ρ f with
    | .func (.func g) ⟨first⟩ ⟨captured⟩ => match P.funcs[g]? with
      | none => none
      | some fn => match fn.body.isNone with
        | true => evExt X g (first ++ c.args.toList.map ρ ++ captured) s
        | false => match fn.name == "runtime.NumGoroutine" with
          | true => none
          | false => call g (first ++ c.args.toList.map ρ ++ captured) s
    | _ => none
  | _ => none

def evAny (P : Program) (X : ExtT) (call : CallF) (ρ : Operand → Value) (o : Oper) (s : St) : Option (Value × St) :=
  match o.op with
  | .call c => match c.callee with
    | .builtin _ => evPrim P ρ o s
    | _ => evCallOp P X call ρ c s
  | _ => evPrim P ρ o s

def evOp1 (P : Program) (X : ExtT) (call : CallF) (nt : Nat) (ops : Array Oper) (o : Oper) (tm : Tr Value) (s : St) : Option (Tr Value × St) :=
  match okOp nt o with
  | false => none
  | true => match evGuard nt ops o tm s with
    | none => none
    | some (false, s1) => some (putT tm o.dst undef, s1)
    | some (true, s1) => match evAny P X call (evl tm) o s1 with
      | none => none
      | some (v, s2) => some (putT tm o.dst v, s2)

def evOps (P : Program) (X : ExtT) (call : CallF) (nt : Nat) (ops : Array Oper) : List Oper → Tr Value → St → Option (Tr Value × St)
  | [], tm, s => some (tm, s)
  | o :: rest, tm, s => match evOp1 P X call nt ops o tm s with
    | none => none
    | some (tm1, s1) => evOps P X call nt ops rest tm1 s1

section
variable {P : Program} {G : Gd} {X : ExtT} {call : CallF}

theorem evCallOp_ok (hX : ExtOk P X) (hcall : ∀ f args s v s', call f args s = some (v, s') → CallS P G f args s v s') {dst : Option Tmp} {c : Call} {ty : TypeId} {pos : String} {after : Array Edge} {gd : Option (Nat × Bool)} {ρ : Operand → Value} {s s' : St} {v : Value}
    (h : evCallOp P X call ρ c s = some (v, s')) : OpS P G ⟨dst, .call c, ty, pos, after, gd⟩ ρ s v s' := by
  unfold evCallOp at h
  split at h
  · rename_i f hf
    split at h
    · rename_i g first captured hfv
      split at h
      · cases h
      rename_i fn hfn
      have hrun : ∀ (R : Ren) (a : Act), (∀ x ∈ (Op.call c).operands, VR R (ρ x) (a.eval x)) → ∃ avs, VRs R (first ++ c.args.toList.map ρ ++ captured) avs ∧ ∀ w, (execOp a.eval ⟨dst, .call c, ty, pos, after, gd⟩).run P w = (callFunc g ⟨avs⟩).run P w := by
        intro R a hop
        have hfx := hop f (by simp [Op.operands, Call.operands, hf])
        rw [hfv] at hfx
        obtain ⟨f', c', ⟨fl, g1, rfl⟩, ⟨cl, g2, rfl⟩, hae⟩ := hfx
        have hargs : VRs R (c.args.toList.map ρ) (c.args.toList.map a.eval) := VRs_map fun x hx => hop x (by simp [Op.operands, Call.operands] at *; exact .inr hx)
        refine ⟨fl ++ c.args.toList.map a.eval ++ cl, (g1.append hargs).append g2, fun w => ?_⟩
        have harr : (⟨fl⟩ : Array Value) ++ c.args.map a.eval ++ ⟨cl⟩ = ⟨fl ++ c.args.toList.map a.eval ++ cl⟩ := by
          apply Array.ext'
          simp
        simp only [execOp, resolve, hf, hae, Deferred.ofValue, Sem.run_bind, Sem.run_pure, Result.andThen_ok, invoke, harr]
      split at h
      · obtain ⟨ha, hc⟩ := evExt_ok hX h
        refine ⟨ha, fun F R w a hrd hwr hS hob hop K Q hK => ?_⟩
        obtain ⟨avs, h1, h2⟩ := hrun R a hop
        obtain ⟨v', w', k1, k2, k3, k4⟩ := hc F R w avs hrd hwr hS hob h1
        exact wp_value ((h2 w).trans k1) (hK R v' w' k2 k3 k4)
      · rename_i hb
        split at h
        · cases h
        rename_i hn
        obtain ⟨ha, hc⟩ := hcall _ _ _ _ _ h
        refine ⟨ha, fun F R w a hrd hwr hS hob hop K Q hK => ?_⟩
        obtain ⟨avs, h1, h2⟩ := hrun R a hop
        have hcalls := hc F R w avs hrd hwr hS hob h1
        have e1 : ¬ fn.name = "runtime.NumGoroutine" := by simpa using hn
        have e2 : ¬ fn.body = none := by
          intro e
          rw [e] at hb
          cases hb
        have hr : (execOp a.eval ⟨dst, .call c, ty, pos, after, gd⟩).run P w = .ok (.enter g ⟨avs⟩) w := by
          rw [h2 w]
          simp [callFunc, hfn, e1, e2]
        unfold Oper.wp
        rw [hr]
        rw [Oper.upon_enter]
        refine hcalls.mono ?_
        rintro e w' ⟨R', v', rfl, h1, h2, h3⟩
        exact hK R' v' w' h1 h2 h3
    · cases h
  · cases h

theorem evAny_ok (hX : ExtOk P X) (hcall : ∀ f args s v s', call f args s = some (v, s') → CallS P G f args s v s') {ρ : Operand → Value} {o : Oper} {s s' : St} {v : Value} (h : evAny P X call ρ o s = some (v, s')) : OpS P G o ρ s v s' := by
  unfold evAny at h
  split at h
  · rename_i c hc
    obtain ⟨dst, op, ty, pos, after, gd⟩ := o
    simp only at hc
    subst hc
    split at h
    · exact evPrim_ok h
    · exact evCallOp_ok hX hcall h
  · exact evPrim_ok h

/-- The temporaries. -/
structure ActR (R : Ren) (nt : Nat) (tm : Tr Value) (a : Act) : Prop where
  size : a.tmps.size = nt
  defers : a.defers = []
  val : ∀ t, VR R ((tm.get t).getD undef) (a.tmps.getD t undef)

/-- One operation of a region. -/
def Op1S (P : Program) (G : Gd) (nt : Nat) (ops : Array Oper) (o : Oper) (tm : Tr Value) (s : St) (tm' : Tr Value) (s' : St) : Prop :=
  ARun s s' ∧ (∀ d, o.dst = some d → d < nt) ∧ ∃ v, tm' = putT tm o.dst v ∧ ∀ (F : Nat → Prop) (R : Ren) (w : World) (a : Act), (∀ id ∈ s'.rd, F id) → (∀ id ∈ s'.wr, F id) → Sat P G F R s.h w → (∀ R', R.le R' → ∀ q ∈ s'.ob, q R') →
    a.tmps.size = nt → (∀ t ∈ o.looksAt ops, VR R ((tm.get t).getD undef) (a.tmps.getD t undef)) →
    ∀ (i : Nat) (K : Act → World → Prop) (Q : Exit → Act → World → Prop), ops[i]? = some o → (∀ R' v' w', VR R' v v' → Sat P G F R' s'.h w' → Step R w s.h R' w' s'.wr → K (a.put o.dst v') w') → wpOp P ops Q i K a w

theorem getElem?_of_getD {a : Array Value} {t n : Nat} (h : a.size = n) (ht : t < n) : a[t]? = some (a.getD t undef) := by
  subst h
  simp [Array.getD, ht]

theorem VR_bool_inv {R : Ren} {b : Bool} {v : Value} (h : VR R (.bool b) v) : v = .bool b := h

theorem evGuard_ok {nt : Nat} {ops : Array Oper} {o : Oper} {tm : Tr Value} {s s' : St} {d : Bool} (h : evGuard nt ops o tm s = some (d, s')) :
    ARun s s' ∧ s'.h = s.h ∧ s'.c = s.c ∧ s'.wr = s.wr ∧ s'.rd = s.rd ∧ ∀ (R : Ren) (a : Act), (∀ q ∈ s'.ob, q R) → a.tmps.size = nt → (∀ t ∈ o.looksAt ops, VR R ((tm.get t).getD undef) (a.tmps.getD t undef)) → Region.wanted o (yielded ops a.tmps) = d := by
  unfold evGuard at h
  split at h
  · rename_i hg
    simp only [Option.some.injEq, Prod.mk.injEq] at h
    obtain ⟨rfl, rfl⟩ := h
    exact ⟨ARun.refl _, rfl, rfl, rfl, rfl, fun R a _ _ _ => by simp [Region.wanted, hg]⟩
  · rename_i g want hg
    have hwant : ∀ (a : Act), Region.wanted o (yielded ops a.tmps) = (yielded ops a.tmps g == some want) := fun a => by simp [Region.wanted, hg]
    split at h
    · rename_i hn
      simp only [Option.some.injEq, Prod.mk.injEq] at h
      obtain ⟨rfl, rfl⟩ := h
      exact ⟨ARun.refl _, rfl, rfl, rfl, rfl, fun R a _ _ _ => by rw [hwant]; simp [yielded, hn]⟩
    · rename_i t ht
      have hlk : t ∈ o.looksAt ops := by simp [Oper.looksAt, hg, ht]
      split at h
      · cases h
      rename_i hlt
      have hlt : t < nt := Nat.le_of_ble_eq_true hlt
      split at h
      · rename_i b hb
        split at h
        · cases h
        rename_i d' s1 hd'
        simp only [Option.some.injEq, Prod.mk.injEq] at h
        obtain ⟨rfl, rfl⟩ := h
        obtain ⟨h1, h2, h3, h4, h5, h6⟩ := askB0_ok hd'
        refine ⟨h1, h2, h3, h4, h5, fun R a hob hsz hv => ?_⟩
        have hbd := h6 R hob
        subst hbd
        have := hv t hlk
        rw [hb] at this
        have hv : a.tmps.getD t undef = .bool b := this
        rw [hwant]
        simp [yielded, ht, getElem?_of_getD hsz hlt, hv]
      · rename_i x hx
        simp only [Option.some.injEq, Prod.mk.injEq] at h
        obtain ⟨rfl, rfl⟩ := h
        refine ⟨ARun.refl _, rfl, rfl, rfl, rfl, fun R a hob hsz hv => ?_⟩
        have := hv t hlk
        rw [hx] at this
        obtain ⟨a', _, hv⟩ := this
        rw [hwant]
        simp [yielded, ht, getElem?_of_getD hsz hlt, hv]
      · cases h

theorem evOp1_ok (hX : ExtOk P X) (hcall : ∀ f args s v s', call f args s = some (v, s') → CallS P G f args s v s') {nt : Nat} {ops : Array Oper} {o : Oper} {tm tm' : Tr Value} {s s' : St} (h : evOp1 P X call nt ops o tm s = some (tm', s')) : Op1S P G nt ops o tm s tm' s' := by
  unfold evOp1 at h
  split at h
  · cases h
  rename_i hok
  unfold okOp at hok
  rw [Bool.and_eq_true] at hok
  obtain ⟨hok1, hok2⟩ := hok
  have hdst : ∀ d, o.dst = some d → d < nt := fun d hd => by
    rw [hd] at hok2
    exact Nat.le_of_ble_eq_true hok2
  split at h
  · cases h
  · rename_i s1 hg
    simp only [Option.some.injEq, Prod.mk.injEq] at h
    obtain ⟨rfl, rfl⟩ := h
    obtain ⟨h1, h2, h3, h4, h5, h6⟩ := evGuard_ok hg
    refine ⟨h1, hdst, undef, rfl, fun F R w a hrd hwr hS hob hsz hv i K Q hi hK => ?_⟩
    unfold Go.wpOp
    rw [hi]
    simp only [h6 R a (hob R (.refl R)) hsz hv, Bool.false_eq_true, if_false]
    exact hK R undef w (VR_undef R) (by rw [h2]; exact hS) (Step.refl _ _ _ _)
  · rename_i s1 hg
    split at h
    · cases h
    rename_i v s2 he
    simp only [Option.some.injEq, Prod.mk.injEq] at h
    obtain ⟨rfl, rfl⟩ := h
    obtain ⟨h1, h2, h3, h4, h5, h6⟩ := evGuard_ok hg
    obtain ⟨k1, k2⟩ := evAny_ok hX hcall he
    refine ⟨h1.trans k1, hdst, v, rfl, fun F R w a hrd hwr hS hob hsz hv i K Q hi hK => ?_⟩
    have hob1 : ∀ q ∈ s1.ob, q R := fun q hq => hob R (.refl R) q (k1.ob q hq)
    unfold Go.wpOp
    rw [hi]
    simp only [h6 R a hob1 hsz hv, if_true]
    refine .inl (k2 F R w a hrd hwr (by rw [h2]; exact hS) hob ?_ K Q fun R' v' w' g1 g2 g3 => hK R' v' w' g1 g2 (by rw [h2] at g3; exact g3))
    intro x hx
    have hx0 := List.all_eq_true.1 hok1 x (by simpa using hx)
    cases x with
    | tmp t => exact hv t (List.mem_append_left _ (List.mem_filterMap.2 ⟨.tmp t, by simpa using hx, rfl⟩))
    | const c => exact (VR.flat hx0).2 rfl
    | global g => cases hx0
    | func f => exact (VR.flat (by simp [evl, flat, flatA, flatL])).2 rfl
end
end Go.Proofs.Ytahopbjoaoiknaa
