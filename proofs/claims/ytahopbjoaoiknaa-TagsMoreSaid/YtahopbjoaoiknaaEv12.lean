/- An evaluator over named blocks: a row of operations in the text's order; in whatever order. Nothing of the program stands here. -/
import Derived.Test.YtahopbjoaoiknaaEv11
namespace Go.Proofs.Ytahopbjoaoiknaa
set_option linter.unusedVariables false
set_option linter.unusedSimpArgs false
open Go.RowKit

section
variable {P : Program} {G : Gd} {X : ExtT} {call : CallF}

theorem ActR.put {R R' : Ren} {nt : Nat} {tm : Tr Value} {a : Act} (h : ActR R nt tm a) (hle : R.le R') {dst : Option Tmp} (hd : ∀ d, dst = some d → d < nt) {v v' : Value} (hv : VR R' v v') : ActR R' nt (putT tm dst v) (a.put dst v') := by
  cases dst with
  | none => exact ⟨h.size, h.defers, fun t => (h.val t).mono hle⟩
  | some d =>
    have hlt := hd d rfl
    refine ⟨by simp [Act.put, h.size], h.defers, fun t => ?_⟩
    simp only [putT, Act.put, Tr.get_set]
    by_cases e : d = t
    · subst e
      have : d < a.tmps.size := by rw [h.size]; exact hlt
      simpa [Array.getD, this] using hv
    · rw [if_neg e]
      have hg : (a.tmps.setIfInBounds d v').getD t undef = a.tmps.getD t undef := by
        simp [Array.getD_eq_getD_getElem?, Array.getElem?_setIfInBounds_ne e]
      rw [hg]
      exact (h.val t).mono hle

theorem evOps_ok (hX : ExtOk P X) (hcall : ∀ f args s v s', call f args s = some (v, s') → CallS P G f args s v s') {nt : Nat} {ops : Array Oper} : ∀ (todo : List Oper) (k : Nat) (tm tm' : Tr Value) (s s' : St), ops.toList.drop k = todo → evOps P X call nt ops todo tm s = some (tm', s') →
    ARun s s' ∧ ∀ (F : Nat → Prop) (R : Ren) (w : World) (a : Act), (∀ id ∈ s'.rd, F id) → (∀ id ∈ s'.wr, F id) → Sat P G F R s.h w → (∀ R', R.le R' → ∀ q ∈ s'.ob, q R') → ActR R nt tm a →
      ∀ Q : Exit → Act → World → Prop, (∀ R' a' w', ActR R' nt tm' a' → Sat P G F R' s'.h w' → Step R w s.h R' w' s'.wr → Q .normal a' w') → wpOps P ops Q (List.range' k todo.length) a w
  | [], k, tm, tm', s, s', _, h => by
    simp only [evOps, Option.some.injEq, Prod.mk.injEq] at h
    obtain ⟨rfl, rfl⟩ := h
    exact ⟨ARun.refl _, fun F R w a _ _ hS _ ha Q hQ => hQ R a w ha hS (Step.refl _ _ _ _)⟩
  | o :: rest, k, tm, tm', s, s', hk, h => by
    simp only [evOps] at h
    split at h
    · cases h
    rename_i tm1 s1 h1
    obtain ⟨a1, hdst, v, rfl, b1⟩ := evOp1_ok hX hcall h1
    have hko : ops[k]? = some o := by
      have : ops.toList[k]? = some o := by
        have := congrArg (·[0]?) hk
        simpa using this
      simpa using this
    obtain ⟨a2, b2⟩ := evOps_ok hX hcall rest (k + 1) _ tm' s1 s' (by
      have := congrArg List.tail hk
      simpa using this) h
    refine ⟨a1.trans a2, fun F R w a hrd hwr hS hob ha Q hQ => ?_⟩
    rw [List.length_cons, List.range'_succ, wpOps_cons]
    refine b1 F R w a (fun id hi => hrd id (a2.rd id hi)) (fun id hi => hwr id (a2.wr id hi)) hS (fun R' hR' q hq => hob R' hR' q (a2.ob q hq)) ha.size (fun t _ => ha.val t) k _ Q hko ?_
    intro R' v' w' hv hS' hst
    have hst := hst.more a2.wr
    refine b2 F R' w' _ hrd hwr hS' (fun R'' hR'' q hq => hob R'' (hst.mono.trans hR'') q hq) (ha.put hst.mono hdst hv) Q ?_
    intro R2 a2' w2 ha2 hS2 hst2
    exact hQ R2 a2' w2 ha2 hS2 (hst.trans hS a1 hwr hst2)

/-- In the text's order, the log of each operation apart. -/
def evDrawn (P : Program) (X : ExtT) (call : CallF) (nt : Nat) (ops : Array Oper) : List Oper → Tr Value → St → Option (Tr Value × St × List (List Nat × List Nat))
  | [], tm, s => some (tm, s, [])
  | o :: rest, tm, s => match evOp1 P X call nt ops o tm { s with rd := [], wr := [] } with
    | none => none
    | some (tm1, s1) => match evDrawn P X call nt ops rest tm1 { s1 with rd := s1.rd ++ s.rd, wr := s1.wr ++ s.wr } with
      | none => none
      | some (tm2, s2, l) => some (tm2, s2, (s1.rd, s1.wr) :: l)

/-- What stands ahead of an operation, as bits. -/
def maskOf (acc : List Nat) (o : Oper) : Nat :=
  o.after.toList.foldl (fun m e => match Region.binds .any e with
    | true => m ||| (2 ^ e.on ||| acc.getD e.on 0)
    | false => m) 0
def masksFrom : List Nat → List Oper → List Nat
  | acc, [] => acc
  | acc, o :: os => masksFrom (acc ++ [maskOf acc o]) os

def pairsOk {α : Type} (f : α → α → Bool) : List (Nat × α) → Nat → List (Nat × α) → Bool
  | _, _, [] => true
  | prev, j, (m, x) :: rest => (prev.all fun p => m.testBit p.1 || f p.2 x) && pairsOk f ((j, x) :: prev) (j + 1) rest

def edgesOk : Nat → List Oper → Bool
  | _, [] => true
  | j, o :: rest => (o.after.toList.all fun e => !(Region.binds .any e) || Nat.blt e.on j) && edgesOk (j + 1) rest

def disj (l m : List Nat) : Bool := l.all fun x => !(m.any (Nat.beq x))
def logApart (x y : List Nat × List Nat) : Bool := disj x.2 y.1 && disj x.2 y.2 && disj x.1 y.2
def quietLogs (l : List (List Nat × List Nat)) : Bool := l.all fun x => x.2.isEmpty

def staticOk (ops : Array Oper) : Bool := edgesOk 0 ops.toList && pairsOk (fun x y : Oper => x.apart ops y) [] 0 ((masksFrom [] ops.toList).zip ops.toList)
def logsOk (ops : Array Oper) (l : List (List Nat × List Nat)) : Bool := quietLogs l || pairsOk logApart [] 0 ((masksFrom [] ops.toList).zip l)

theorem pairsOk_spec {α : Type} {f : α → α → Bool} : ∀ (rest prev : List (Nat × α)) (j : Nat), pairsOk f prev j rest = true →
    (∀ p ∈ prev, ∀ (k : Nat) (m : Nat) (x : α), rest[k]? = some (m, x) → m.testBit p.1 = true ∨ f p.2 x = true) ∧
    (∀ (k1 k2 m1 m2 : Nat) (x1 x2 : α), k1 < k2 → rest[k1]? = some (m1, x1) → rest[k2]? = some (m2, x2) → m2.testBit (j + k1) = true ∨ f x1 x2 = true)
  | [], prev, j, _ => ⟨fun p _ k m x h => by simp at h, fun k1 k2 m1 m2 x1 x2 _ h _ => by simp at h⟩
  | (m0, x0) :: rest, prev, j, h => by
    simp only [pairsOk, Bool.and_eq_true] at h
    obtain ⟨h1, h2⟩ := h
    obtain ⟨i1, i2⟩ := pairsOk_spec rest ((j, x0) :: prev) (j + 1) h2
    refine ⟨fun p hp k m x hk => ?_, fun k1 k2 m1 m2 x1 x2 hlt hk1 hk2 => ?_⟩
    · cases k with
      | zero =>
        simp at hk
        obtain ⟨rfl, rfl⟩ := hk
        have := List.all_eq_true.1 h1 p hp
        simpa using this
      | succ k => exact i1 p (List.mem_cons_of_mem _ hp) k m x (by simpa using hk)
    · cases k2 with
      | zero => omega
      | succ k2 =>
        simp at hk2
        cases k1 with
        | zero =>
          simp at hk1
          obtain ⟨rfl, rfl⟩ := hk1
          exact i1 (j, x0) (by simp) k2 m2 x2 hk2
        | succ k1 =>
          simp at hk1
          have := i2 k1 k2 m1 m2 x1 x2 (by omega) hk1 hk2
          rwa [show j + 1 + k1 = j + (k1 + 1) by omega] at this

theorem edgesOk_spec : ∀ (l : List Oper) (j : Nat), edgesOk j l = true → ∀ (k : Nat) (o : Oper), l[k]? = some o → ∀ e ∈ o.after.toList, Region.binds .any e = true → e.on < j + k
  | [], j, _, k, o, h => by simp at h
  | x :: l, j, h, k, o, hk => by
    simp only [edgesOk, Bool.and_eq_true] at h
    cases k with
    | zero =>
      simp at hk
      subst hk
      intro e he hb
      have := List.all_eq_true.1 h.1 e he
      simp only [hb, Bool.not_true, Bool.false_or] at this
      exact Nat.le_of_ble_eq_true this
    | succ k =>
      intro e he hb
      have := edgesOk_spec l (j + 1) h.2 k o (by simpa using hk) e he hb
      omega

theorem masksFrom_pre : ∀ (os : List Oper) (acc : List Nat), ∃ t, masksFrom acc os = acc ++ t ∧ t.length = os.length ∧ ∀ (k : Nat) (o : Oper), os[k]? = some o → ∃ m, t[k]? = some m ∧ m = maskOf (acc ++ t.take k) o
  | [], acc => ⟨[], by simp [masksFrom], rfl, fun k o h => by simp at h⟩
  | o :: os, acc => by
    obtain ⟨t, h1, h2, h3⟩ := masksFrom_pre os (acc ++ [maskOf acc o])
    refine ⟨maskOf acc o :: t, by simp [masksFrom, h1], by simp [h2], fun k o' hk => ?_⟩
    cases k with
    | zero =>
      simp at hk
      subst hk
      exact ⟨maskOf acc o, by simp, by simp⟩
    | succ k =>
      obtain ⟨m, hm1, hm2⟩ := h3 k o' (by simpa using hk)
      exact ⟨m, by simpa using hm1, by simpa using hm2⟩

theorem maskOf_bit {acc : List Nat} {o : Oper} {i : Nat} (h : (maskOf acc o).testBit i = true) : ∃ e ∈ o.after.toList, Region.binds .any e = true ∧ (e.on = i ∨ (acc.getD e.on 0).testBit i = true) := by
  unfold maskOf at h
  have key : ∀ (l : List Edge) (m : Nat), (l.foldl (fun m e => match Region.binds .any e with
    | true => m ||| (2 ^ e.on ||| acc.getD e.on 0)
    | false => m) m).testBit i = true → m.testBit i = true ∨ ∃ e ∈ l, Region.binds .any e = true ∧ (e.on = i ∨ (acc.getD e.on 0).testBit i = true) := by
    intro l
    induction l with
    | nil => intro m h; exact .inl h
    | cons e l ih =>
      intro m h
      rw [List.foldl_cons] at h
      rcases ih _ h with h | ⟨e', he', hh⟩
      · split at h
        · rename_i hb
          rw [Nat.testBit_or, Nat.testBit_or, Bool.or_eq_true, Bool.or_eq_true] at h
          rcases h with h | h | h
          · exact .inl h
          · refine .inr ⟨e, by simp, hb, .inl ?_⟩
            rw [Nat.testBit_two_pow] at h
            simpa using h
          · exact .inr ⟨e, by simp, hb, .inr h⟩
        · exact .inl h
      · exact .inr ⟨e', by simp [he'], hh⟩
  rcases key _ 0 h with h | h
  · simp at h
  · exact h

/-- What is done is done with all that stands ahead of it. -/
theorem mask_closed {ops : List Oper} (S : Nat → Prop) (hS : ∀ (j : Nat) (o : Oper), S j → ops[j]? = some o → ∀ e ∈ o.after.toList, Region.binds .any e = true → S e.on) :
    ∀ (j : Nat) (m : Nat) (i : Nat), (masksFrom [] ops)[j]? = some m → m.testBit i = true →
      (∃ (o : Oper) (e : Edge), ops[j]? = some o ∧ e ∈ o.after.toList ∧ Region.binds .any e = true ∧ (e.on = i ∨ (S e.on → S i))) := by
  obtain ⟨t, h1, h2, h3⟩ := masksFrom_pre ops []
  simp only [List.nil_append] at h1 h3
  rw [h1]
  intro j
  induction j using Nat.strongRecOn with
  | _ j ih =>
    intro m i hm hb
    have hj : j < ops.length := by
      rw [← h2]
      exact (List.getElem?_eq_some_iff.1 hm).1
    obtain ⟨m', hm', he⟩ := h3 j ops[j] (by simp [hj])
    rw [hm] at hm'
    cases hm'
    rw [he] at hb
    obtain ⟨e, he1, he2, he3⟩ := maskOf_bit hb
    refine ⟨ops[j], e, by simp [hj], he1, he2, ?_⟩
    rcases he3 with he3 | he3
    · exact .inl he3
    · refine .inr fun hSe => ?_
      have hg : (t.take j)[e.on]? = some ((t.take j).getD e.on 0) := by
        cases hh : (t.take j)[e.on]? with
        | none => rw [List.getD, hh] at he3; simp at he3
        | some x => simp [List.getD, hh]
      have hlt : e.on < j := by
        have := (List.getElem?_eq_some_iff.1 hg).1
        simp at this
        omega
      rw [List.getElem?_take_of_lt hlt] at hg
      obtain ⟨o', e', q1, q2, q3, q4⟩ := ih e.on hlt _ i hg he3
      have := hS e.on o' hSe q1 e' q2 q3
      rcases q4 with q4 | q4
      · rw [← q4]; exact this
      · exact q4 this

theorem countP_one {l : List Nat} (hn : l.Nodup) {i : Nat} (hi : i ∈ l) {p : Nat → Bool} (hp : p i = true) : l.countP (fun j => p j && decide (j ≠ i)) + 1 = l.countP p := by
  induction l with
  | nil => cases hi
  | cons x l ih =>
    rw [List.nodup_cons] at hn
    rcases List.mem_cons.1 hi with rfl | hi
    · have hc : l.countP (fun j => p j && decide (j ≠ i)) = l.countP p := List.countP_congr fun j hj => by
        have : j ≠ i := by rintro rfl; exact hn.1 hj
        simp [this]
      rw [List.countP_cons, List.countP_cons, hc]
      simp [hp]
    · have hx : x ≠ i := by rintro rfl; exact hn.1 hi
      have := ih hn.2 hi
      rw [List.countP_cons, List.countP_cons]
      have e : (p x && decide (x ≠ i)) = p x := by simp [hx]
      rw [e]
      omega
end
end Go.Proofs.Ytahopbjoaoiknaa
