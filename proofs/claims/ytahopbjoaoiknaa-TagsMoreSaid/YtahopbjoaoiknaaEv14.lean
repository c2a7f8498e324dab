/- An evaluator over named blocks: code, calls. Nothing of the program stands here. -/
import Derived.Test.YtahopbjoaoiknaaEv13
import Derived.LoopN
namespace Go.Proofs.Ytahopbjoaoiknaa
set_option linter.unusedVariables false
set_option linter.unusedSimpArgs false
open Go.RowKit

inductive Out where
  | norm
  | exit (id : Nat)
  | goto (l : Nat)
  | ret
def Out.ex : Out → Exit
  | .norm => .normal
  | .exit id => .exit id
  | .goto l => .goto l
  | .ret => .ret

abbrev ORes := Option (Out × Tr Value × St)

def evLoop (body : Tr Value → St → ORes) : Nat → Tr Value → St → ORes
  | 0, _, _ => none
  | n + 1, tm, s => match body tm s with
    | some (.norm, tm1, s1) => evLoop body n tm1 s1
    | r => r

def evRegion (P : Program) (X : ExtT) (call : CallF) (nt : Nat) (ops : Array Oper) (draw : Bool) (tm : Tr Value) (s : St) : ORes :=
  match draw with
  | false => match evOps P X call nt ops ops.toList tm s with
    | none => none
    | some (tm', s') => some (.norm, tm', s')
  | true => match staticOk ops with
    | false => none
    | true => match evDrawn P X call nt ops ops.toList tm s with
      | none => none
      | some (tm', s', logs) => match logsOk ops logs with
        | true => some (.norm, tm', s')
        | false => none

def evCode (P : Program) (X : ExtT) (call : CallF) (lf nt : Nat) : Code → Tr Value → St → ORes
  | .skip, tm, s => some (.norm, tm, s)
  | .label _, tm, s => some (.norm, tm, s)
  | .seq a b, tm, s => match evCode P X call lf nt a tm s with
    | some (.norm, tm1, s1) => evCode P X call lf nt b tm1 s1
    | r => r
  | .cond c x y, tm, s => match okOpd c with
    | false => none
    | true => match evl tm c with
      | .bool t => match askB0 t s with
        | none => none
        | some (true, s1) => evCode P X call lf nt x tm s1
        | some (false, s1) => evCode P X call lf nt y tm s1
      | _ => none
  | .block id c, tm, s => match evCode P X call lf nt c tm s with
    | some (.exit k, tm1, s1) => match Nat.beq k id with
      | true => some (.norm, tm1, s1)
      | false => some (.exit k, tm1, s1)
    | r => r
  | .loop c, tm, s => evLoop (evCode P X call lf nt c) lf tm s
  | .exit id, tm, s => some (.exit id, tm, s)
  | .goto l, tm, s => some (.goto l, tm, s)
  | .ret, tm, s => some (.ret, tm, s)
  | .region _ ops draw, tm, s => evRegion P X call nt ops draw tm s
  | _, _, _ => none

def ofL : List Value → Nat → Tr Value → Tr Value
  | [], _, t => t
  | x :: xs, i, t => ofL xs (i + 1) (t.set i x)

def evResL (P : Program) (tm : Tr Value) : List ResultVar → St → Option (List Value × St)
  | [], s => some ([], s)
  | .tmp t :: rest, s => match evResL P tm rest s with
    | none => none
    | some (l, s') => some ((tm.get t).getD undef :: l, s')
  | .cell a t :: rest, s => match evLoad P t ((tm.get a).getD undef) s with
    | none => none
    | some (v, s1) => match evResL P tm rest s1 with
      | none => none
      | some (l, s') => some (v :: l, s')

def joinRes : List Value → Value
  | [v] => v
  | l => .tuple ⟨l⟩

def evCallN (P : Program) (X : ExtT) (ovr : CallF) (lf : Nat) : Nat → CallF
  | 0, _, _, _ => none
  | d + 1, f, args, s => match ovr f args s with
   | some r => some r
   | none => match P.funcs[f]? with
    | none => none
    | some fn => match fn.body with
      | none => none
      | some c => match Nat.ble args.length fn.ntmps with
        | false => none
        | true => match evCode P X (evCallN P X ovr lf d) lf fn.ntmps c (ofL args 0 .nil) s with
          | some (.norm, tm', s1) => match evResL P tm' fn.results.toList s1 with
            | none => none
            | some (l, s') => some (joinRes l, s')
          | some (.ret, tm', s1) => match evResL P tm' fn.results.toList s1 with
            | none => none
            | some (l, s') => some (joinRes l, s')
          | _ => none

section
variable {P : Program} {G : Gd} {X : ExtT} {call : CallF}

/-- What a piece of code does. -/
def CodeS (P : Program) (G : Gd) (nt : Nat) (c : Code) (tm : Tr Value) (s : St) (out : Out) (tm' : Tr Value) (s' : St) : Prop :=
  ARun s s' ∧ ∀ (F : Nat → Prop) (R : Ren) (w : World) (a : Act), (∀ id ∈ s'.rd, F id) → (∀ id ∈ s'.wr, F id) → Sat P G F R s.h w → (∀ R', R.le R' → ∀ q ∈ s'.ob, q R') → ActR R nt tm a →
    ∀ Q : Exit → Act → World → Prop, (∀ R' a' w', ActR R' nt tm' a' → Sat P G F R' s'.h w' → Step R w s.h R' w' s'.wr → Q out.ex a' w') → c.wp P Q a w

theorem evRegion_ok (hm : P.follows .mixedOrders = true) (hX : ExtOk P X) (hcall : ∀ f args s v s', call f args s = some (v, s') → CallS P G f args s v s') {nt id : Nat} {ops : Array Oper} {draw : Bool} {tm tm' : Tr Value} {s s' : St} {out : Out}
    (h : evRegion P X call nt ops draw tm s = some (out, tm', s')) : CodeS P G nt (.region id ops draw) tm s out tm' s' := by
  unfold evRegion at h
  split at h
  · split at h
    · cases h
    rename_i tm1 s1 h1
    simp only [Option.some.injEq, Prod.mk.injEq] at h
    obtain ⟨rfl, rfl, rfl⟩ := h
    obtain ⟨k1, k2⟩ := evOps_ok hX hcall ops.toList 0 tm _ s _ rfl h1
    refine ⟨k1, fun F R w a hrd hwr hS hob ha Q hQ => wp_region ?_⟩
    have := k2 F R w a hrd hwr hS hob ha Q hQ
    rw [← List.range_eq_range'] at this
    simpa using this
  · split at h
    · cases h
    rename_i hst
    split at h
    · cases h
    rename_i tm1 s1 logs h1
    split at h
    · rename_i hl
      simp only [Option.some.injEq, Prod.mk.injEq] at h
      obtain ⟨rfl, rfl, rfl⟩ := h
      obtain ⟨k1, k2⟩ := evDrawn_ok hX hcall hst h1 hl
      refine ⟨k1, fun F R w a hrd hwr hS hob ha Q hQ => wp_region_any hm ?_⟩
      refine k2 F R { w with drawn := w.drawn + 1 } a hrd hwr (hS.heap' rfl ⟨rfl, rfl, rfl⟩) hob ha Q fun R' a' w' q1 q2 q3 => hQ R' a' w' q1 q2 ⟨q3.mono, q3.newb, ⟨q3.kp.os, q3.kp.tape, q3.kp.output, q3.kp.size, q3.kp.block⟩⟩
    · cases h

theorem evCode_ok (hm : P.follows .mixedOrders = true) (hX : ExtOk P X) (hcall : ∀ f args s v s', call f args s = some (v, s') → CallS P G f args s v s') {lf nt : Nat} : ∀ (c : Code) (tm tm' : Tr Value) (s s' : St) (out : Out), evCode P X call lf nt c tm s = some (out, tm', s') → CodeS P G nt c tm s out tm' s' := by
  intro c
  induction c with
  | skip =>
    intro tm tm' s s' out h
    simp only [evCode, Option.some.injEq, Prod.mk.injEq] at h
    obtain ⟨rfl, rfl, rfl⟩ := h
    exact ⟨ARun.refl _, fun F R w a _ _ hS _ ha Q hQ => wp_skip (hQ R a w ha hS (Step.refl _ _ _ _))⟩
  | label l =>
    intro tm tm' s s' out h
    simp only [evCode, Option.some.injEq, Prod.mk.injEq] at h
    obtain ⟨rfl, rfl, rfl⟩ := h
    exact ⟨ARun.refl _, fun F R w a _ _ hS _ ha Q hQ => wp_label (hQ R a w ha hS (Step.refl _ _ _ _))⟩
  | exit l =>
    intro tm tm' s s' out h
    simp only [evCode, Option.some.injEq, Prod.mk.injEq] at h
    obtain ⟨rfl, rfl, rfl⟩ := h
    exact ⟨ARun.refl _, fun F R w a _ _ hS _ ha Q hQ => wp_exit (hQ R a w ha hS (Step.refl _ _ _ _))⟩
  | goto l =>
    intro tm tm' s s' out h
    simp only [evCode, Option.some.injEq, Prod.mk.injEq] at h
    obtain ⟨rfl, rfl, rfl⟩ := h
    exact ⟨ARun.refl _, fun F R w a _ _ hS _ ha Q hQ => wp_goto (hQ R a w ha hS (Step.refl _ _ _ _))⟩
  | ret =>
    intro tm tm' s s' out h
    simp only [evCode, Option.some.injEq, Prod.mk.injEq] at h
    obtain ⟨rfl, rfl, rfl⟩ := h
    exact ⟨ARun.refl _, fun F R w a _ _ hS _ ha Q hQ => wp_ret (hQ R a w ha hS (Step.refl _ _ _ _))⟩
  | region id ops draw =>
    intro tm tm' s s' out h
    exact evRegion_ok hm hX hcall h
  | seq x y ihx ihy =>
    intro tm tm' s s' out h
    simp only [evCode] at h
    split at h
    · rename_i tm1 s1 h1
      obtain ⟨a1, b1⟩ := ihx _ _ _ _ _ h1
      obtain ⟨a2, b2⟩ := ihy _ _ _ _ _ h
      refine ⟨a1.trans a2, fun F R w a hrd hwr hS hob ha Q hQ => wp_seq ?_⟩
      refine b1 F R w a (fun id hi => hrd id (a2.rd id hi)) (fun id hi => hwr id (a2.wr id hi)) hS (fun R' hR' q hq => hob R' hR' q (a2.ob q hq)) ha _ ?_
      intro R' a' w' ha' hS' hst
      have hst := hst.more a2.wr
      exact b2 F R' w' a' hrd hwr hS' (fun R'' hR'' q hq => hob R'' (hst.mono.trans hR'') q hq) ha' Q fun R2 a2' w2 ha2 hS2 hst2 => hQ R2 a2' w2 ha2 hS2 (hst.trans hS a1 hwr hst2)
    · rename_i hno
      obtain ⟨a1, b1⟩ := ihx _ _ _ _ _ h
      refine ⟨a1, fun F R w a hrd hwr hS hob ha Q hQ => wp_seq ?_⟩
      refine b1 F R w a hrd hwr hS hob ha _ fun R' a' w' ha' hS' hst => ?_
      have := hQ R' a' w' ha' hS' hst
      cases out with
      | norm => exact absurd h (hno _ _)
      | exit id => exact this
      | goto l => exact this
      | ret => exact this
  | cond c x y ihx ihy =>
    intro tm tm' s s' out h
    simp only [evCode] at h
    split at h
    · cases h
    rename_i hok
    split at h
    · rename_i t ht
      have hev : ∀ (R : Ren) (a : Act), ActR R nt tm a → a.eval c = .bool t := by
        intro R a ha
        cases c with
        | tmp i =>
          have := ha.val i
          rw [show (tm.get i).getD undef = .bool t from ht] at this
          exact this
        | const v =>
          have : v = .bool t := ht
          rw [this]
          rfl
        | global g => cases hok
        | func f => cases ht
      split at h
      · cases h
      · rename_i s1 hs
        obtain ⟨k1, k2, _, k3, k4, k5⟩ := askB0_ok hs
        obtain ⟨a1, b1⟩ := ihx _ _ _ _ _ h
        refine ⟨k1.trans a1, fun F R w a hrd hwr hS hob ha Q hQ => ?_⟩
        have ht1 := k5 R (fun q hq => hob R (.refl R) q (a1.ob q hq))
        subst ht1
        refine wp_cond_true (hev R a ha) (b1 F R w a hrd hwr (by rw [k2]; exact hS) hob ha Q fun R' a' w' q1 q2 q3 => hQ R' a' w' q1 q2 (by rw [k2] at q3; exact q3))
      · rename_i s1 hs
        obtain ⟨k1, k2, _, k3, k4, k5⟩ := askB0_ok hs
        obtain ⟨a1, b1⟩ := ihy _ _ _ _ _ h
        refine ⟨k1.trans a1, fun F R w a hrd hwr hS hob ha Q hQ => ?_⟩
        have ht1 := k5 R (fun q hq => hob R (.refl R) q (a1.ob q hq))
        subst ht1
        refine wp_cond_false (hev R a ha) (b1 F R w a hrd hwr (by rw [k2]; exact hS) hob ha Q fun R' a' w' q1 q2 q3 => hQ R' a' w' q1 q2 (by rw [k2] at q3; exact q3))
    · cases h
  | block id c ih =>
    intro tm tm' s s' out h
    simp only [evCode] at h
    split at h
    · rename_i k tm1 s1 h1
      obtain ⟨a1, b1⟩ := ih _ _ _ _ _ h1
      split at h
      · rename_i hk
        have hk := Nat.eq_of_beq_eq_true hk
        subst hk
        simp only [Option.some.injEq, Prod.mk.injEq] at h
        obtain ⟨rfl, rfl, rfl⟩ := h
        refine ⟨a1, fun F R w a hrd hwr hS hob ha Q hQ => wp_block (b1 F R w a hrd hwr hS hob ha _ fun R' a' w' q1 q2 q3 => ?_)⟩
        have := hQ R' a' w' q1 q2 q3
        simpa [Exit.inBlock, Out.ex] using this
      · rename_i hk
        have hk := Nat.ne_of_beq_eq_false hk
        simp only [Option.some.injEq, Prod.mk.injEq] at h
        obtain ⟨rfl, rfl, rfl⟩ := h
        refine ⟨a1, fun F R w a hrd hwr hS hob ha Q hQ => wp_block (b1 F R w a hrd hwr hS hob ha _ fun R' a' w' q1 q2 q3 => ?_)⟩
        have := hQ R' a' w' q1 q2 q3
        simpa [Exit.inBlock, Out.ex, hk] using this
    · rename_i hno
      obtain ⟨a1, b1⟩ := ih _ _ _ _ _ h
      refine ⟨a1, fun F R w a hrd hwr hS hob ha Q hQ => wp_block (b1 F R w a hrd hwr hS hob ha _ fun R' a' w' q1 q2 q3 => ?_)⟩
      have := hQ R' a' w' q1 q2 q3
      cases out with
      | norm => exact this
      | exit k => exact absurd h (hno _ _ _)
      | goto l => exact this
      | ret => exact this
  | loop c ih =>
    intro tm tm' s s' out h
    simp only [evCode] at h
    have key : ∀ (n : Nat) (tm : Tr Value) (s : St), evLoop (evCode P X call lf nt c) n tm s = some (out, tm', s') → ARun s s' ∧ ∀ (F : Nat → Prop) (R : Ren) (w : World) (a : Act), (∀ id ∈ s'.rd, F id) → (∀ id ∈ s'.wr, F id) → Sat P G F R s.h w → (∀ R', R.le R' → ∀ q ∈ s'.ob, q R') → ActR R nt tm a →
        ∀ Q : Exit → Act → World → Prop, (∀ R' a' w', ActR R' nt tm' a' → Sat P G F R' s'.h w' → Step R w s.h R' w' s'.wr → Q out.ex a' w') → Code.rounds P c Q n a w := by
      intro n
      induction n with
      | zero => intro tm s h; cases h
      | succ n ihn =>
        intro tm s h
        simp only [evLoop] at h
        split at h
        · rename_i tm1 s1 h1
          obtain ⟨a1, b1⟩ := ih _ _ _ _ _ h1
          obtain ⟨a2, b2⟩ := ihn _ _ h
          refine ⟨a1.trans a2, fun F R w a hrd hwr hS hob ha Q hQ => ?_⟩
          rw [rounds_succ]
          refine b1 F R w a (fun id hi => hrd id (a2.rd id hi)) (fun id hi => hwr id (a2.wr id hi)) hS (fun R' hR' q hq => hob R' hR' q (a2.ob q hq)) ha _ ?_
          intro R' a' w' ha' hS' hst
          have hst := hst.more a2.wr
          exact b2 F R' w' a' hrd hwr hS' (fun R'' hR'' q hq => hob R'' (hst.mono.trans hR'') q hq) ha' Q fun R2 a2' w2 ha2 hS2 hst2 => hQ R2 a2' w2 ha2 hS2 (hst.trans hS a1 hwr hst2)
        · rename_i hno
          obtain ⟨a1, b1⟩ := ih _ _ _ _ _ h
          refine ⟨a1, fun F R w a hrd hwr hS hob ha Q hQ => ?_⟩
          rw [rounds_succ]
          refine b1 F R w a hrd hwr hS hob ha _ fun R' a' w' ha' hS' hst => ?_
          have := hQ R' a' w' ha' hS' hst
          cases out with
          | norm => exact absurd h (hno _ _)
          | exit id => exact this
          | goto l => exact this
          | ret => exact this
    obtain ⟨a1, b1⟩ := key lf tm s h
    exact ⟨a1, fun F R w a hrd hwr hS hob ha Q hQ => wp_loop_rounds lf (b1 F R w a hrd hwr hS hob ha Q hQ)⟩
  | rangeFunc f ps as b ih1 ih2 => intro tm tm' s s' out h; simp [evCode] at h
  | scope b ih => intro tm tm' s s' out h; simp [evCode] at h
  | refuse why => intro tm tm' s s' out h; simp [evCode] at h

theorem ofL_get : ∀ (l : List Value) (i : Nat) (t : Tr Value) (j : Nat), (ofL l i t).get j = if i ≤ j ∧ j < i + l.length then l[j - i]? else t.get j
  | [], i, t, j => by simp [ofL]; omega
  | x :: xs, i, t, j => by
    simp only [ofL]
    rw [ofL_get xs (i + 1) (t.set i x) j, Tr.get_set]
    by_cases e : i = j
    · subst e
      rw [if_neg (by omega), if_pos rfl, if_pos (by simp)]
      simp
    · by_cases h : i ≤ j ∧ j < i + (xs.length + 1)
      · rw [if_pos (by omega), if_pos (by simpa using h)]
        rw [show j - i = (j - (i + 1)) + 1 by omega]
        simp
      · rw [if_neg (by omega), if_neg e, if_neg (by simpa using h)]

theorem ActR.enter {R : Ren} {nt : Nat} {args avs : List Value} (h : VRs R args avs) (hl : args.length ≤ nt) : ActR R nt (ofL args 0 .nil) { tmps := (⟨avs⟩ : Array Value) ++ Array.replicate (nt - (⟨avs⟩ : Array Value).size) undef, defers := [] } := by
  have hlen := h.length
  refine ⟨?_, rfl, fun t => ?_⟩
  · simp; omega
  · rw [ofL_get]
    by_cases ht : t < args.length
    · obtain ⟨b, hb, hv⟩ := h.get (j := t) (a := args[t]) (by simp [ht])
      have ht2 : t < avs.length := by omega
      have e1 : (if 0 ≤ t ∧ t < 0 + args.length then args[t - 0]? else (Tr.nil : Tr Value).get t) = some args[t] := by
        rw [if_pos (by omega)]
        simp [ht]
      rw [e1]
      have e2 : ((⟨avs⟩ : Array Value) ++ Array.replicate (nt - (⟨avs⟩ : Array Value).size) undef).getD t undef = b := by
        simp only [Array.getD_eq_getD_getElem?]
        rw [Array.getElem?_append_left (by simpa using ht2)]
        simp [hb]
      rw [e2]
      exact hv
    · have e1 : (if 0 ≤ t ∧ t < 0 + args.length then args[t - 0]? else (Tr.nil : Tr Value).get t) = none := by
        rw [if_neg (by omega), Tr.get_nil]
      rw [e1]
      have e2 : ((⟨avs⟩ : Array Value) ++ Array.replicate (nt - (⟨avs⟩ : Array Value).size) undef).getD t undef = undef := by
        simp only [Array.getD_eq_getD_getElem?]
        rw [Array.getElem?_append_right (by simp; omega)]
        simp only [Array.getElem?_replicate]
        split <;> rfl
      rw [e2]
      exact VR_undef R

def resF (tmps : Array Value) : ResultVar → Sem Value
  | .tmp t => pure (tmps.getD t undef)
  | .cell a t => do loadVar t (← asAddr (tmps.getD a undef))
theorem results_resF (fn : Func) (tmps : Array Value) : results fn tmps = (do let vs ← fn.results.mapM (resF tmps); pure (if h : vs.size = 1 then vs[0] else .tuple vs)) := by
  unfold results
  congr 2

theorem evResL_ok {tm : Tr Value} : ∀ (rs : List ResultVar) (s s' : St) (l : List Value), evResL P tm rs s = some (l, s') →
    ARun s s' ∧ s'.h = s.h ∧ s'.wr = s.wr ∧ ∀ (F : Nat → Prop) (R : Ren) (w : World) (tmps : Array Value), (∀ id ∈ s'.rd, F id) → Sat P G F R s.h w → (∀ t, VR R ((tm.get t).getD undef) (tmps.getD t undef)) →
      ∃ vs, (rs.mapM (resF tmps)).run P w = .ok vs w ∧ VRs R l vs
  | [], s, s', l, h => by
    simp only [evResL, Option.some.injEq, Prod.mk.injEq] at h
    obtain ⟨rfl, rfl⟩ := h
    exact ⟨ARun.refl _, rfl, rfl, fun F R w tmps _ _ _ => ⟨[], by simp, rfl⟩⟩
  | .tmp t :: rest, s, s', l, h => by
    simp only [evResL] at h
    split at h
    · cases h
    rename_i l1 s1 h1
    simp only [Option.some.injEq, Prod.mk.injEq] at h
    obtain ⟨rfl, rfl⟩ := h
    obtain ⟨k1, k2, k3, k4⟩ := evResL_ok rest _ _ _ h1
    refine ⟨k1, k2, k3, fun F R w tmps hrd hS hv => ?_⟩
    obtain ⟨vs, q1, q2⟩ := k4 F R w tmps hrd hS hv
    exact ⟨tmps.getD t undef :: vs, by
      have e : (resF tmps (.tmp t)).run P w = .ok (tmps.getD t undef) w := rfl
      rw [List.mapM_cons, Sem.run_bind, e, Result.andThen_ok, Sem.run_bind, q1]
      rfl, _, _, hv t, q2, rfl⟩
  | .cell a t :: rest, s, s', l, h => by
    simp only [evResL] at h
    split at h
    · cases h
    rename_i v s1 h1
    split at h
    · cases h
    rename_i l1 s2 h2
    simp only [Option.some.injEq, Prod.mk.injEq] at h
    obtain ⟨rfl, rfl⟩ := h
    obtain ⟨k1, k2, k3, k4⟩ := evResL_ok rest _ _ _ h2
    unfold evLoad at h1
    split at h1
    · rename_i id off hx
      split at h1
      · cases h1
      rename_i cs s3 hrow
      split at h1
      · cases h1
      rename_i v0 hv0
      simp only [Option.some.injEq, Prod.mk.injEq] at h1
      obtain ⟨rfl, rfl⟩ := h1
      obtain ⟨r1, r2, r3, r4, r5, r6, r7⟩ := rowAt_ok (P := P) (G := G) hrow
      refine ⟨r1.trans k1, k2.trans r2, k3.trans r3, fun F R w tmps hrd hS hv => ?_⟩
      obtain ⟨vs, q1, q2⟩ := k4 F R w tmps hrd (by rw [r2]; exact hS) hv
      obtain ⟨L, hL, hc⟩ := r7 F R w (fun k hk => hrd k (k1.rd k hk)) hS
      obtain ⟨v', hrun, hvr⟩ := run_loadC hv0 hc
      have hx' := hv a
      rw [hx] at hx'
      obtain ⟨L', hL', hae⟩ := hx'
      rw [hL] at hL'
      cases hL'
      exact ⟨v' :: vs, by
        have e : (resF tmps (.cell a t)).run P w = .ok v' w := by simp only [resF, hae]; simp [asAddr, hrun]
        rw [List.mapM_cons, Sem.run_bind, e, Result.andThen_ok, Sem.run_bind, q1]
        rfl, _, _, hvr, q2, rfl⟩
    · cases h1

theorem evCallN_ok (hm : P.follows .mixedOrders = true) (hX : ExtOk P X) {ovr : CallF} (hovr : ∀ f args s v s', ovr f args s = some (v, s') → CallS P G f args s v s') (lf : Nat) : ∀ (d : Nat) (f : FuncId) (args : List Value) (s : St) (v : Value) (s' : St), evCallN P X ovr lf d f args s = some (v, s') → CallS P G f args s v s'
  | 0, f, args, s, v, s', h => by cases h
  | d + 1, f, args, s, v, s', h => by
    have hcall := evCallN_ok hm hX hovr lf d
    simp only [evCallN] at h
    split at h
    · rename_i r hr
      cases h
      exact hovr _ _ _ _ _ hr
    split at h
    · cases h
    rename_i fn hfn
    split at h
    · cases h
    rename_i c hc
    split at h
    · cases h
    rename_i hle
    have hle := Nat.le_of_ble_eq_true hle
    have fin : ∀ (out : Out) (tm' : Tr Value) (s1 : St) (l : List Value), (out = .norm ∨ out = .ret) → evCode P X (evCallN P X ovr lf d) lf fn.ntmps c (ofL args 0 .nil) s = some (out, tm', s1) → evResL P tm' fn.results.toList s1 = some (l, s') → CallS P G f args s (joinRes l) s' := by
      intro out tm' s1 l hout h1 h2
      obtain ⟨a1, b1⟩ := evCode_ok hm hX hcall c _ _ _ _ _ h1
      obtain ⟨k1, k2, k3, k4⟩ := evResL_ok _ _ _ _ h2
      refine ⟨a1.trans k1, fun F R w avs hrd hwr hS hob hargs => calls_of_wp hfn hc ?_⟩
      refine b1 F R w _ (fun id hi => hrd id (k1.rd id hi)) (fun id hi => hwr id (k1.wr id hi)) hS (fun R' hR' q hq => hob R' hR' q (k1.ob q hq)) (ActR.enter hargs hle) _ ?_
      intro R' a' w' ha' hS' hst
      obtain ⟨vs, q1, q2⟩ := k4 F R' w' a'.tmps hrd hS' ha'.val
      have hres : ∃ v', (results fn a'.tmps).run P w' = .ok v' w' ∧ VR R' (joinRes l) v' := by
        have hl := q2.length
        have hrun : (fn.results.mapM (resF a'.tmps)).run P w' = .ok vs.toArray w' := by
          rw [Array.mapM_eq_mapM_toList]
          simp only [Sem.run_map, q1]
          rfl
        refine ⟨if h : vs.toArray.size = 1 then vs.toArray[0] else .tuple vs.toArray, ?_, ?_⟩
        · rw [results_resF, Sem.run_bind, hrun]
          rfl
        · cases l with
          | nil =>
            have : vs = [] := List.eq_nil_of_length_eq_zero (by simpa using hl)
            subst this
            exact ⟨_, ⟨_, q2, rfl⟩, rfl⟩
          | cons x xs =>
            cases xs with
            | nil =>
              obtain ⟨y, ys, h1, h2, h3⟩ := q2
              simp only [VRs] at h2
              subst h2
              subst h3
              simpa [joinRes] using h1
            | cons x2 xs =>
              have hne : ¬ vs.toArray.size = 1 := by simp at hl ⊢; omega
              rw [dif_neg hne]
              exact ⟨_, ⟨_, q2, rfl⟩, rfl⟩
      obtain ⟨v', r1, r2⟩ := hres
      have hgo : a'.defers = [] ∧ ∃ v, (results fn a'.tmps).run P w' = .ok v w' ∧ (fun (e : Ending) (w' : World) => ∃ R' v', e = .returned v' ∧ VR R' (joinRes l) v' ∧ Sat P G F R' s'.h w' ∧ Step R w s.h R' w' s'.wr) (.returned v) w' :=
        ⟨ha'.defers, v', r1, R', v', rfl, r2, by rw [k2]; exact hS', by rw [k3]; exact hst⟩
      rcases hout with rfl | rfl <;> exact hgo
    split at h
    · rename_i tm' s1 h1
      split at h
      · cases h
      rename_i l s2 h2
      simp only [Option.some.injEq, Prod.mk.injEq] at h
      obtain ⟨rfl, rfl⟩ := h
      exact fin _ _ _ _ (.inl rfl) h1 h2
    · rename_i tm' s1 h1
      split at h
      · cases h
      rename_i l s2 h2
      simp only [Option.some.injEq, Prod.mk.injEq] at h
      obtain ⟨rfl, rfl⟩ := h
      exact fin _ _ _ _ (.inr rfl) h1 h2
    · cases h

/-- A state without blocks. -/
def st0 : St := ⟨.nil, 0, [], [], [], []⟩
def noOvr : CallF := fun _ _ _ => none

/-- Nothing is named but what stands for a value. -/
theorem Sat.start {F : Nat → Prop} {R : Ren} (hR : ∀ id l, R id = some l → id % 2 = 1) (w : World) : Sat P ⟨w, w.heap.size⟩ F R .nil w :=
  ⟨fun id o _ hg => (by rw [Tr.get_nil] at hg; cases hg), fun id l _ hl => .inr (hR id l hl), fun id id' o o' l l' _ _ _ hg => (by rw [Tr.get_nil] at hg; cases hg), Below.refl _ _, fun id o l _ hg => (by rw [Tr.get_nil] at hg; cases hg), Nat.le_refl _⟩

/-- A call that owns nothing of what was there. -/
theorem ev_open {w : World} (hm : P.follows .mixedOrders = true) (hX : ExtOk P X) {ovr : CallF} (hovr : ∀ f args s v s', ovr f args s = some (v, s') → CallS P ⟨w, w.heap.size⟩ f args s v s') {lf d : Nat} {f : FuncId} {args avs : List Value} {hs : List Hint} {v : Value} {s' : St} {R : Ren} (hR : ∀ id l, R id = some l → id % 2 = 1)
    (h : evCallN P X ovr lf d f args ⟨.nil, 0, [], [], [], hs⟩ = some (v, s')) (ha : VRs R args avs) (hob : ∀ R', R.le R' → ∀ q ∈ s'.ob, q R') :
    Calls P f ⟨avs⟩ w fun e w' => ∃ R' v', e = .returned v' ∧ VR R' v v' ∧ R.le R' ∧ Below w.heap.size w w' := by
  obtain ⟨_, k⟩ := evCallN_ok hm hX hovr lf d f args _ v s' h
  refine (k (fun _ => True) R w avs (fun _ _ => trivial) (fun _ _ => trivial) (Sat.start hR w) hob ha).mono ?_
  rintro e w' ⟨R', v', rfl, h1, h2, h3⟩
  exact ⟨R', v', rfl, h1, h3.mono, h2.bas⟩

def evOk (r : Option (Value × St)) : Option Value :=
  match r with
  | some (v, s) => match s.ob with
    | [] => some v
    | _ => none
  | none => none
theorem ev_closed (hm : P.follows .mixedOrders = true) (hX : ExtOk P X) {lf d : Nat} {f : FuncId} {args : List Value} {v : Value} (h : evOk (evCallN P X noOvr lf d f args st0) = some v) (ha : flatL args = true) (hv : flat v = true) (w : World) :
    Calls P f ⟨args⟩ w fun e w' => e = .returned v ∧ Below w.heap.size w w' := by
  unfold evOk at h
  split at h
  · rename_i v' s' he
    split at h
    · rename_i hob
      cases h
      refine (ev_open (R := fun _ => none) hm hX (fun f args s v s' h => by cases h) (fun _ _ h => by cases h) he ((VRs.flat ha).2 rfl) (fun R' _ q hq => by rw [hob] at hq; cases hq)).mono ?_
      rintro e w' ⟨R', v2, rfl, h1, _, h2⟩
      rw [(VR.flat hv).1 h1]
      exact ⟨rfl, h2⟩
    · cases h
  · cases h
end
end Go.Proofs.Ytahopbjoaoiknaa
