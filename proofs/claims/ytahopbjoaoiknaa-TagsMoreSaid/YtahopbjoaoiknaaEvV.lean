/- An evaluator over named blocks: regions with appends of rows that are not known cell by cell; what is left to show. Nothing of the program stands here. -/
import Derived.Test.YtahopbjoaoiknaaEvU
namespace Go.Proofs.Ytahopbjoaoiknaa
set_option linter.unusedVariables false
set_option linter.unusedSimpArgs false
open Go.RowKit

def segP (nx cx ny : Nat) (cs : List Value) (b : Nat) : Prop := nx = 0 ∧ cx = 0 ∧ ny = cs.length ∧ cs.length ≠ 0 ∧ cs.all (·.oneCell') = true ∧ cs.length ≤ maxLen ∧ cs.length * b ≤ 140737488355328
def fullP (e' e nx cx ny cy : Nat) (cs : List Value) (v : Value) (b : Nat) : Prop := e' = e ∧ nx = cs.length ∧ cx = cs.length ∧ ny = 1 ∧ cy = 1 ∧ v.oneCell' = true ∧ cs.length + 1 ≤ maxLen ∧ (cs.length + 1) * b ≤ 140737488355328

abbrev OpA := Option (Value × St × List Prop)
def plainA : Option (Value × St) → OpA
  | none => none
  | some (v, s) => some (v, s, [])
/-- An append, with what it leaves to show. -/
def appA (P : Program) (t t' : TypeId) (x y : Value) (s : St) : OpA :=
  match Nat.beq t t' with
  | false => plainA (evAppend P t t' x y s)
  | true => match P.underlying t with
    | some (.slice e) => match P.info? e with
      | none => none
      | some i => match i.zero with
        | none => none
        | some z => match flat z && Nat.beq z.cells.toList.length i.size && Nat.beq i.size 1 with
          | false => plainA (evAppend P t t' x y s)
          | true => match x with
            | .slice (some ⟨ix, 0, none⟩) nx cx => match y with
              | .slice (some ⟨iy, 0, none⟩) ny cy => match s.h.get (2 * s.c) with
                | some _ => none
                | none => match s.h.get iy with
                  | some (.seg cs) => match s.h.get ix with
                    | some (.cells [] _) => some (.slice (some ⟨2 * s.c, 0, none⟩) cs.length cs.length, { s with h := s.h.set (2 * s.c) (.loose cs e), c := s.c + 1, wr := 2 * s.c :: s.wr, rd := ix :: iy :: s.rd }, [segP nx cx ny cs i.bytes])
                    | _ => plainA (evAppend P t t' x y s)
                  | some (.cells [v] _) => match s.h.get ix with
                    | some (.loose cs e') => some (.slice (some ⟨2 * s.c, 0, none⟩) (cs.length + 1) (cs.length + 1), { s with h := (s.h.set (2 * s.c) (.loose (cs ++ [v]) e)).set ix .dead, c := s.c + 1, wr := ix :: 2 * s.c :: s.wr, rd := iy :: s.rd }, [fullP e' e nx cx ny cy cs v i.bytes])
                    | _ => plainA (evAppend P t t' x y s)
                  | _ => plainA (evAppend P t t' x y s)
              | _ => plainA (evAppend P t t' x y s)
            | _ => plainA (evAppend P t t' x y s)
    | _ => plainA (evAppend P t t' x y s)

theorem plainA_eq {r : Option (Value × St)} {v : Value} {s : St} {ps : List Prop} (h : plainA r = some (v, s, ps)) : r = some (v, s) := by
  cases r with
  | none => cases h
  | some q => simp only [plainA, Option.some.injEq, Prod.mk.injEq] at h; obtain ⟨rfl, rfl, -⟩ := h; rfl

theorem appA_ok {P : Program} {t t' : TypeId} {x y : Value} {s s' : St} {v : Value} {ps : List Prop} (h : appA P t t' x y s = some (v, s', ps)) (hp : ∀ p ∈ ps, p) : evAppend P t t' x y s = some (v, s') := by
  unfold appA at h
  split at h
  · exact plainA_eq h
  rename_i htt
  obtain rfl := Nat.eq_of_beq_eq_true htt
  split at h
  · rename_i e hu
    split at h
    · cases h
    rename_i i hi
    split at h
    · cases h
    rename_i z hz
    split at h
    · exact plainA_eq h
    rename_i hc
    simp only [Bool.and_eq_true] at hc
    obtain ⟨⟨hzf, hzl⟩, h1⟩ := hc
    have h1 := Nat.eq_of_beq_eq_true h1
    split at h
    · rename_i ix nx cx
      split at h
      · rename_i iy ny cy
        split at h
        · cases h
        rename_i hn
        split at h
        · rename_i cs hy
          split at h
          · rename_i e' hx
            simp only [Option.some.injEq, Prod.mk.injEq] at h
            obtain ⟨rfl, rfl, rfl⟩ := h
            obtain ⟨rfl, rfl, rfl, h0, hone, hm, hb⟩ := hp _ (List.mem_singleton.2 rfl)
            exact append_seg hu hi hz hzf hzl h1 hx hy h0 hone hm hb hn
          · exact plainA_eq h
        · rename_i w ev hy
          split at h
          · rename_i cs e' hx
            simp only [Option.some.injEq, Prod.mk.injEq] at h
            obtain ⟨rfl, rfl, rfl⟩ := h
            obtain ⟨rfl, rfl, rfl, rfl, rfl, hone, hm, hb⟩ := hp _ (List.mem_singleton.2 rfl)
            exact append_full hu hi hz hzf hzl h1 hx hy hone hm hb hn
          · exact plainA_eq h
        · exact plainA_eq h
      · exact plainA_eq h
    · exact plainA_eq h
  · exact plainA_eq h

/-- An operation, with what it leaves to show. -/
def opA (P : Program) (X : ExtT) (call : CallF) (nt : Nat) (ops : Array Oper) (o : Oper) (tm : Tr Value) (s : St) : Option (Tr Value × St × List Prop) :=
  match o.op with
  | .call ⟨.builtin .append, ⟨[x, y]⟩, ⟨[t, t']⟩⟩ => match okOp nt o with
    | false => none
    | true => match evGuard nt ops o tm s with
      | some (true, s1) => match appA P t t' (evl tm x) (evl tm y) s1 with
        | none => none
        | some (v, s2, ps) => some (putT tm o.dst v, s2, ps)
      | _ => none
  | _ => match evOp1 P X call nt ops o tm s with
    | none => none
    | some (tm', s') => some (tm', s', [])

theorem opA_ok {P : Program} {X : ExtT} {call : CallF} {nt : Nat} {ops : Array Oper} {o : Oper} {tm tm' : Tr Value} {s s' : St} {ps : List Prop} (h : opA P X call nt ops o tm s = some (tm', s', ps)) (hp : ∀ p ∈ ps, p) : evOp1 P X call nt ops o tm s = some (tm', s') := by
  unfold opA at h
  split at h
  · rename_i x y t t' ho
    split at h
    · cases h
    rename_i hok
    split at h
    · rename_i s1 hg
      split at h
      · cases h
      rename_i v s2 ps' ha
      simp only [Option.some.injEq, Prod.mk.injEq] at h
      obtain ⟨rfl, rfl, rfl⟩ := h
      have := appA_ok ha hp
      unfold evOp1
      rw [hok]
      simp only [hg]
      have e : evAny P X call (evl tm) o s1 = some (v, s2) := by
        unfold evAny evPrim
        simp only [ho, evBuiltin]
        first | exact this | (rw [this]) | simp [this]
      rw [e]
    · cases h
  · split at h
    · cases h
    rename_i hq
    simp only [Option.some.injEq, Prod.mk.injEq] at h
    obtain ⟨rfl, rfl, -⟩ := h
    exact hq

def opsA (P : Program) (X : ExtT) (call : CallF) (nt : Nat) (ops : Array Oper) : List Oper → Tr Value → St → Option (Tr Value × St × List Prop)
  | [], tm, s => some (tm, s, [])
  | o :: rest, tm, s => match opA P X call nt ops o tm s with
    | none => none
    | some (tm1, s1, ps) => match opsA P X call nt ops rest tm1 s1 with
      | none => none
      | some (tm2, s2, qs) => some (tm2, s2, ps ++ qs)
def drawnA (P : Program) (X : ExtT) (call : CallF) (nt : Nat) (ops : Array Oper) : List Oper → Tr Value → St → Option (Tr Value × St × List (List Nat × List Nat) × List Prop)
  | [], tm, s => some (tm, s, [], [])
  | o :: rest, tm, s => match opA P X call nt ops o tm { s with rd := [], wr := [] } with
    | none => none
    | some (tm1, s1, ps) => match drawnA P X call nt ops rest tm1 { s1 with rd := s1.rd ++ s.rd, wr := s1.wr ++ s.wr } with
      | none => none
      | some (tm2, s2, l, qs) => some (tm2, s2, (s1.rd, s1.wr) :: l, ps ++ qs)
/-- A region, with what it leaves to show. -/
def regA (P : Program) (X : ExtT) (call : CallF) (nt : Nat) (ops : Array Oper) (draw : Bool) (tm : Tr Value) (s : St) : Option (Tr Value × St × List Prop) :=
  match draw with
  | false => opsA P X call nt ops ops.toList tm s
  | true => match staticOk ops with
    | false => none
    | true => match drawnA P X call nt ops ops.toList tm s with
      | none => none
      | some (tm', s', logs, ps) => match logsOk ops logs with
        | true => some (tm', s', ps)
        | false => none

section
variable {P : Program} {X : ExtT} {call : CallF} {nt : Nat} {ops : Array Oper}
theorem opsA_ok : ∀ {l : List Oper} {tm tm' : Tr Value} {s s' : St} {ps : List Prop}, opsA P X call nt ops l tm s = some (tm', s', ps) → (∀ p ∈ ps, p) → evOps P X call nt ops l tm s = some (tm', s')
  | [], _, _, _, _, _, h, _ => by
    simp only [opsA, Option.some.injEq, Prod.mk.injEq] at h
    obtain ⟨rfl, rfl, -⟩ := h
    rfl
  | o :: l, _, _, _, _, _, h, hp => by
    simp only [opsA] at h
    split at h
    · cases h
    rename_i tm1 s1 ps1 h1
    split at h
    · cases h
    rename_i tm2 s2 qs h2
    simp only [Option.some.injEq, Prod.mk.injEq] at h
    obtain ⟨rfl, rfl, rfl⟩ := h
    simp only [evOps, opA_ok h1 fun p hm => hp p (List.mem_append_left _ hm)]
    exact opsA_ok h2 fun p hm => hp p (List.mem_append_right _ hm)
theorem drawnA_ok : ∀ {l : List Oper} {tm tm' : Tr Value} {s s' : St} {g : List (List Nat × List Nat)} {ps : List Prop}, drawnA P X call nt ops l tm s = some (tm', s', g, ps) → (∀ p ∈ ps, p) → evDrawn P X call nt ops l tm s = some (tm', s', g)
  | [], _, _, _, _, _, _, h, _ => by
    simp only [drawnA, Option.some.injEq, Prod.mk.injEq] at h
    obtain ⟨rfl, rfl, rfl, -⟩ := h
    rfl
  | o :: l, _, _, _, _, _, _, h, hp => by
    simp only [drawnA] at h
    split at h
    · cases h
    rename_i tm1 s1 ps1 h1
    split at h
    · cases h
    rename_i tm2 s2 g qs h2
    simp only [Option.some.injEq, Prod.mk.injEq] at h
    obtain ⟨rfl, rfl, rfl, rfl⟩ := h
    simp only [evDrawn, opA_ok h1 fun p hm => hp p (List.mem_append_left _ hm), drawnA_ok h2 fun p hm => hp p (List.mem_append_right _ hm)]
theorem regA_ok {draw : Bool} {tm tm' : Tr Value} {s s' : St} {ps : List Prop} (h : regA P X call nt ops draw tm s = some (tm', s', ps)) (hp : ∀ p ∈ ps, p) : evRegion P X call nt ops draw tm s = some (.norm, tm', s') := by
  unfold regA at h
  split at h
  · simp only [evRegion, opsA_ok h hp]
  · split at h
    · cases h
    rename_i hst
    split at h
    · cases h
    rename_i tm1 s1 logs ps1 h1
    split at h
    · rename_i hlg
      simp only [Option.some.injEq, Prod.mk.injEq] at h
      obtain ⟨rfl, rfl, rfl⟩ := h
      simp only [evRegion, hst, drawnA_ok h1 hp, hlg]
    · cases h
/-- Regions one behind the other. -/
def regsA (P : Program) (X : ExtT) (call : CallF) (nt : Nat) : List (Nat × Array Oper × Bool) → Tr Value → St → Option (Tr Value × St × List Prop)
  | [], tm, s => some (tm, s, [])
  | (_, ops, draw) :: rest, tm, s => match regA P X call nt ops draw tm s with
    | none => none
    | some (tm1, s1, ps) => match regsA P X call nt rest tm1 s1 with
      | none => none
      | some (tm2, s2, qs) => some (tm2, s2, ps ++ qs)
def regsCode : List (Nat × Array Oper × Bool) → Code → Code
  | [], c => c
  | (id, ops, draw) :: rest, c => .seq (.region id ops draw) (regsCode rest c)
theorem regs_ok {G : Gd} (hm : P.follows .mixedOrders = true) (hX : ExtOk P X) (hcall : ∀ f args s v s', call f args s = some (v, s') → CallS P G f args s v s') {c : Code} {Q : Exit → Act → World → Prop} : ∀ {l : List (Nat × Array Oper × Bool)} {tm tm' : Tr Value} {s s' : St} {ps : List Prop}, regsA P X call nt l tm s = some (tm', s', ps) → (∀ p ∈ ps, p) →
    ARun s s' ∧ (s'.ob = [] → ∀ {R : Ren} {w : World} {a : Act}, Sat P G (fun _ => True) R s.h w → ActR R nt tm a → (∀ R' a' w', ActR R' nt tm' a' → Sat P G (fun _ => True) R' s'.h w' → Step R w s.h R' w' s'.wr → c.wp P Q a' w') → (regsCode l c).wp P Q a w)
  | [], _, _, _, _, _, h, _ => by
    simp only [regsA, Option.some.injEq, Prod.mk.injEq] at h
    obtain ⟨rfl, rfl, -⟩ := h
    exact ⟨ARun.refl _, fun _ R w a hS ha hQ => hQ R a w ha hS (Step.refl _ _ _ _)⟩
  | (id, ops, draw) :: l, tm, tm', s, s', ps, h, hp => by
    simp only [regsA] at h
    split at h
    · cases h
    rename_i tm1 s1 ps1 h1
    split at h
    · cases h
    rename_i tm2 s2 qs h2
    simp only [Option.some.injEq, Prod.mk.injEq] at h
    obtain ⟨rfl, rfl, rfl⟩ := h
    obtain ⟨a1, b1⟩ := evRegion_ok (id := id) hm hX hcall (regA_ok h1 fun p hm => hp p (List.mem_append_left _ hm))
    obtain ⟨a2, b2⟩ := regs_ok hm hX hcall h2 fun p hm => hp p (List.mem_append_right _ hm)
    refine ⟨a1.trans a2, fun hob R w a hS ha hQ => wp_seq ?_⟩
    refine b1 (fun _ => True) R w a (fun _ _ => trivial) (fun _ _ => trivial) hS (fun R' _ q hq => by have := a2.ob q hq; rw [hob] at this; cases this) ha _ ?_
    intro R1 x1 w1 ha1 hS1 st1
    refine b2 hob hS1 ha1 fun R2 x2 w2 ha2 hS2 st2 => hQ R2 x2 w2 ha2 hS2 ?_
    exact (st1.more a2.wr).trans hS a1 (fun _ _ => trivial) st2
end
end Go.Proofs.Ytahopbjoaoiknaa
