/- An evaluator over named blocks: loads, stores, new blocks. Nothing of the program stands here. -/
import Derived.Test.YtahopbjoaoiknaaEv2
import Derived.Test.YtahopbjoaoiknaaSt
import Derived.Laws.Cells
import Derived.Laws.CopyRow
import Derived.Laws.Tables
namespace Go.Proofs.Ytahopbjoaoiknaa
set_option linter.unusedVariables false
set_option linter.unusedSimpArgs false
open Go.RowKit

def St.put (s : St) (id : Nat) (o : AObj) : St := { s with h := s.h.set id o, wr := id :: s.wr }
/-- It counts as written. -/
def St.touch (s : St) (id : Nat) : St := { s with wr := id :: s.wr }
theorem ARun.touch (s : St) (id : Nat) : ARun s (s.touch id) := ⟨fun _ _ => rfl, fun id o h k => .inr ⟨o, h, k⟩, fun id o h k => .inr ⟨o, h, k⟩, fun _ h => h, fun id h h' => (by rw [show (s.touch _).h = s.h from rfl, h] at h'; cases h'), fun _ h => List.mem_cons_of_mem _ h, fun _ h => h, fun _ h => h⟩
def St.look (s : St) (id : Nat) : St := { s with rd := id :: s.rd }
/-- A new name. -/
def St.mk' (s : St) (o : AObj) : Option (Nat × St) :=
  match s.h.get (2 * s.c) with
  | none => some (2 * s.c, { s with h := s.h.set (2 * s.c) o, c := s.c + 1, wr := 2 * s.c :: s.wr })
  | some _ => none

theorem ARun.look (s : St) (id : Nat) : ARun s (s.look id) := ⟨fun _ _ => rfl, fun id o h k => .inr ⟨o, h, k⟩, fun id o h k => .inr ⟨o, h, k⟩, fun _ h => h, fun id h h' => (by rw [show (s.look _).h = s.h from rfl, h] at h'; cases h'), fun _ h => h, fun _ h => List.mem_cons_of_mem _ h, fun _ h => h⟩
theorem AObj.own_live {o : AObj} (h : o.own = true) : o.live = true := by cases o <;> first | rfl | cases h
theorem ARun.put {s : St} {id : Nat} {o : AObj} (o' : AObj) (hg : s.h.get id = some o) (hw : o.own = true) : ARun s (s.put id o') := by
  refine ⟨fun k hn => ?_, fun k x hx hxw => ?_, fun k x hx hxw => ?_, fun k hk => ?_, fun k hk hk' => ?_, fun _ h => List.mem_cons_of_mem _ h, fun _ h => h, fun _ h => h⟩ <;> simp only [St.put] at *
  · rw [Tr.get_set]
    rw [if_neg]
    rintro rfl
    simp at hn
  · rw [Tr.get_set] at hx
    by_cases e : id = k
    · subst e
      exact .inr ⟨o, hg, hw⟩
    · rw [if_neg e] at hx
      exact .inr ⟨x, hx, hxw⟩
  · rw [Tr.get_set] at hx
    by_cases e : id = k
    · subst e
      exact .inr ⟨o, hg, AObj.own_live hw⟩
    · rw [if_neg e] at hx
      exact .inr ⟨x, hx, hxw⟩
  · rw [Tr.get_set]
    by_cases e : id = k
    · simp [e]
    · rw [if_neg e]; exact hk
  · rw [Tr.get_set] at hk'
    by_cases e : id = k
    · subst e; rw [hg] at hk; cases hk
    · rw [if_neg e, hk] at hk'; cases hk'
theorem St.mk'_eq {s s' : St} {o : AObj} {id : Nat} (h : s.mk' o = some (id, s')) : id = 2 * s.c ∧ s.h.get (2 * s.c) = none ∧ s' = { s with h := s.h.set (2 * s.c) o, c := s.c + 1, wr := 2 * s.c :: s.wr } := by
  unfold St.mk' at h
  split at h
  · rename_i hn
    simp only [Option.some.injEq, Prod.mk.injEq] at h
    exact ⟨h.1.symm, hn, h.2.symm⟩
  · cases h
theorem ARun.mk' {s s' : St} {o : AObj} {id : Nat} (h : s.mk' o = some (id, s')) : ARun s s' := by
  obtain ⟨rfl, hn, rfl⟩ := St.mk'_eq h
  refine ⟨fun k hk => ?_, fun k x hx hxw => ?_, fun k x hx hxw => ?_, fun k hk => ?_, fun k hk hk' => ?_, fun _ h => List.mem_cons_of_mem _ h, fun _ h => h, fun _ h => h⟩ <;> simp only at *
  · rw [Tr.get_set, if_neg]
    rintro rfl
    simp at hk
  · rw [Tr.get_set] at hx
    by_cases e : 2 * s.c = k
    · subst e
      exact .inl hn
    · rw [if_neg e] at hx
      exact .inr ⟨x, hx, hxw⟩
  · rw [Tr.get_set] at hx
    by_cases e : 2 * s.c = k
    · subst e
      exact .inl hn
    · rw [if_neg e] at hx
      exact .inr ⟨x, hx, hxw⟩
  · rw [Tr.get_set]
    by_cases e : 2 * s.c = k
    · simp [e]
    · rw [if_neg e]; exact hk
  · by_cases e : 2 * s.c = k
    · omega
    · rw [Tr.get_set, if_neg e, hk] at hk'; cases hk'

/-- What one operation does: the value v, the state s'. -/
def OpS (P : Program) (G : Gd) (o : Oper) (ρ : Operand → Value) (s : St) (v : Value) (s' : St) : Prop :=
  ARun s s' ∧ ∀ (F : Nat → Prop) (R : Ren) (w : World) (a : Act), (∀ id ∈ s'.rd, F id) → (∀ id ∈ s'.wr, F id) → Sat P G F R s.h w → (∀ R', R.le R' → ∀ q ∈ s'.ob, q R') → (∀ x ∈ o.op.operands, VR R (ρ x) (a.eval x)) →
    ∀ (K : Act → World → Prop) (Q : Exit → Act → World → Prop), (∀ R' v' w', VR R' v v' → Sat P G F R' s'.h w' → Step R w s.h R' w' s'.wr → K (a.put o.dst v') w') → o.wp P a w K Q

theorem wp_value {P : Program} {o : Oper} {a : Act} {w w' : World} {v : Value} {K : Act → World → Prop} {Q : Exit → Act → World → Prop} (h : (execOp a.eval o).run P w = .ok (.value v) w') (hk : K (a.put o.dst v) w') : o.wp P a w K Q := by
  unfold Oper.wp; rw [h]; exact hk
theorem wp_skip' {P : Program} {o : Oper} {a : Act} {w w' : World} {K : Act → World → Prop} {Q : Exit → Act → World → Prop} (h : (execOp a.eval o).run P w = .ok .skip w') (hk : K (a.put o.dst undef) w') : o.wp P a w K Q := by
  unfold Oper.wp; rw [h]; exact hk
theorem VR_undef (R : Ren) : VR R undef undef := (VR.flat (by simp [undef, flat, flatA, flatL])).2 rfl

theorem VR.cells {R : Ren} : ∀ {x v : Value}, VR R x v → VRs R x.cells.toList v.cells.toList
  | .agg ⟨l⟩, v, ⟨a', ⟨l', h1, h2⟩, h3⟩ => by subst h3; subst h2; exact h1
  | .pointer (some a), v, h => by obtain ⟨l, h1, h2⟩ := id h; subst h2; exact ⟨_, _, h, rfl, rfl⟩
  | .pointer none, v, h => by obtain rfl : v = _ := h; exact ⟨_, _, rfl, rfl, rfl⟩
  | .slice (some a) n c, v, h => by obtain ⟨l, h1, h2⟩ := id h; subst h2; exact ⟨_, _, h, rfl, rfl⟩
  | .slice none n c, v, h => by obtain rfl : v = _ := h; exact ⟨_, _, rfl, rfl, rfl⟩
  | .map (some r), v, h => by obtain ⟨l, h1, h2⟩ := id h; subst h2; exact ⟨_, _, h, rfl, rfl⟩
  | .map none, v, h => by obtain rfl : v = _ := h; exact ⟨_, _, rfl, rfl, rfl⟩
  | .func fn f c, v, h => by obtain ⟨f', c', h1, h2, h3⟩ := id h; subst h3; exact ⟨_, _, h, rfl, rfl⟩
  | .iface t x, v, h => by obtain ⟨x', h1, h2⟩ := id h; subst h2; exact ⟨_, _, h, rfl, rfl⟩
  | .tuple a, v, h => by obtain ⟨x', h1, h2⟩ := id h; subst h2; exact ⟨_, _, h, rfl, rfl⟩
  | .bool _, v, h => by obtain rfl : v = _ := h; exact ⟨_, _, rfl, rfl, rfl⟩
  | .int _ _, v, h => by obtain rfl : v = _ := h; exact ⟨_, _, rfl, rfl, rfl⟩
  | .float _ _, v, h => by obtain rfl : v = _ := h; exact ⟨_, _, rfl, rfl, rfl⟩
  | .complex _ _ _, v, h => by obtain rfl : v = _ := h; exact ⟨_, _, rfl, rfl, rfl⟩
  | .string _, v, h => by obtain rfl : v = _ := h; exact ⟨_, _, rfl, rfl, rfl⟩
  | .chan none, v, h => by obtain rfl : v = _ := h; exact ⟨_, _, rfl, rfl, rfl⟩
  | .chan (some r), v, h => by
    obtain ⟨l, h1, h2, h3⟩ := id h
    rw [← h2] at h3
    have : v.cells = #[v] := by cases v <;> first | rfl | cases h3
    rw [this]
    exact ⟨_, _, h, rfl, rfl⟩
  | .nilFunc, v, h => by obtain rfl : v = _ := h; exact ⟨_, _, rfl, rfl, rfl⟩
  | .nilIface, v, h => by obtain rfl : v = _ := h; exact ⟨_, _, rfl, rfl, rfl⟩
theorem VR.one {R : Ren} : ∀ {x v : Value}, VR R x v → v.oneCell' = x.oneCell'
  | .agg a, v, ⟨a', h1, h3⟩ => by subst h3; rfl
  | .pointer (some a), v, ⟨l, h1, h2⟩ => by subst h2; rfl
  | .pointer none, v, h => by obtain rfl : v = _ := h; rfl
  | .slice (some a) n c, v, ⟨l, h1, h2⟩ => by subst h2; rfl
  | .slice none n c, v, h => by obtain rfl : v = _ := h; rfl
  | .map (some r), v, ⟨l, h1, h2⟩ => by subst h2; rfl
  | .map none, v, h => by obtain rfl : v = _ := h; rfl
  | .func fn f c, v, ⟨f', c', h1, h2, h3⟩ => by subst h3; rfl
  | .iface t x, v, ⟨x', h1, h2⟩ => by subst h2; rfl
  | .tuple a, v, ⟨x', h1, h2⟩ => by subst h2; rfl
  | .bool _, v, h => by obtain rfl : v = _ := h; rfl
  | .int _ _, v, h => by obtain rfl : v = _ := h; rfl
  | .float _ _, v, h => by obtain rfl : v = _ := h; rfl
  | .complex _ _ _, v, h => by obtain rfl : v = _ := h; rfl
  | .string _, v, h => by obtain rfl : v = _ := h; rfl
  | .chan none, v, h => by obtain rfl : v = _ := h; rfl
  | .chan (some r), v, ⟨l, h1, h2, h3⟩ => by subst h2; rw [h3]; rfl
  | .nilFunc, v, h => by obtain rfl : v = _ := h; rfl
  | .nilIface, v, h => by obtain rfl : v = _ := h; rfl
theorem VRs.one {R : Ren} : ∀ {x v : List Value}, VRs R x v → v.all (·.oneCell') = x.all (·.oneCell')
  | [], v, h => by simp only [VRs] at h; subst h; rfl
  | x :: xs, v, ⟨y, ys, h1, h2, h3⟩ => by subst h3; simp [VR.one h1, VRs.one h2]

/-- The cells of an object that can be read. -/
def AObj.row : AObj → Option (List Value)
  | .cells cs _ => some cs
  | .loose cs _ => some cs
  | .seg cs => some cs
  | .nul => some []
  | _ => none

theorem SatObj.read {P : Program} {R : Ren} {w : World} {id : Nat} {o : AObj} {cs : List Value} (h : SatObj P R w id o) (hr : o.row = some cs) : ∃ l, R id = some l ∧ ∀ (j : Nat) (x : Value), cs[j]? = some x → ∃ v, VR R x v ∧ w.cell? ⟨l.blk, l.off + j, none⟩ = some v := by
  cases o with
  | cells cs' t =>
    cases hr
    obtain ⟨l, cur, h1, h2, h3, h4, h5⟩ := h
    refine ⟨l, h1, fun j x hx => ?_⟩
    obtain ⟨v, hv, hvr⟩ := h4.get hx
    exact ⟨v, hvr, by simp [World.cell?, h5, h2, hv]⟩
  | loose cs' t =>
    cases hr
    obtain ⟨l, cur, i, n, h1, h2, h3, h4, h5⟩ := h
    refine ⟨l, h1, fun j x hx => ?_⟩
    obtain ⟨v, hv, hvr⟩ := h3.get hx
    have hj : j < cs.length := (List.getElem?_eq_some_iff.1 hx).1
    rw [List.getElem?_take_of_lt hj] at hv
    exact ⟨v, hvr, by simp [World.cell?, h4, h2, hv]⟩
  | seg cs' =>
    cases hr
    obtain ⟨l, h1, h2, h3, h4⟩ := h
    exact ⟨l, h1, h4⟩
  | nul =>
    cases hr
    obtain ⟨l, h1, h2⟩ := h
    exact ⟨l, h1, fun j x hx => by simp at hx⟩
  | _ => cases hr

/-- The cells that a name's place can be read by: its own, or those of the row that it is a view of. -/
def rowAt (s : St) (id : Nat) : Option (List Value × St) :=
  match s.h.get id with
  | none => none
  | some (.vw p) => match s.h.get p with
    | none => none
    | some o => match o.row with
      | none => none
      | some cs => some (cs, (s.look id).look p)
  | some o => match o.row with
    | none => none
    | some cs => some (cs, s.look id)
theorem rowAt_ok {P : Program} {G : Gd} {s s1 : St} {id : Nat} {cs : List Value} (h : rowAt s id = some (cs, s1)) :
    ARun s s1 ∧ s1.h = s.h ∧ s1.wr = s.wr ∧ s1.c = s.c ∧ s1.ob = s.ob ∧ id ∈ s1.rd ∧ ∀ (F : Nat → Prop) (R : Ren) (w : World), (∀ k ∈ s1.rd, F k) → Sat P G F R s.h w →
      ∃ l, R id = some l ∧ ∀ (j : Nat) (x : Value), cs[j]? = some x → ∃ v, VR R x v ∧ w.cell? ⟨l.blk, l.off + j, none⟩ = some v := by
  unfold rowAt at h
  split at h
  · cases h
  · rename_i p hp
    split at h
    · cases h
    rename_i o ho
    split at h
    · cases h
    rename_i cs' hrow
    simp only [Option.some.injEq, Prod.mk.injEq] at h
    obtain ⟨rfl, rfl⟩ := h
    refine ⟨(ARun.look s id).trans (ARun.look _ p), rfl, rfl, rfl, rfl, by simp [St.look], fun F R w hrd hS => ?_⟩
    obtain ⟨l, l2, h1, h2, h3, h4, h5⟩ := hS.obj id _ (hrd id (by simp [St.look])) hp
    obtain ⟨l', h6, h7⟩ := (hS.obj p o (hrd p (by simp [St.look])) ho).read hrow
    rw [h2] at h6
    cases h6
    exact ⟨l, h1, by rw [h3, h4]; exact h7⟩
  · rename_i o hno ho
    split at h
    · cases h
    rename_i cs' hrow
    simp only [Option.some.injEq, Prod.mk.injEq] at h
    obtain ⟨rfl, rfl⟩ := h
    exact ⟨ARun.look s id, rfl, rfl, rfl, rfl, by simp [St.look], fun F R w hrd hS => (hS.obj id o (hrd id (by simp [St.look])) ho).read hrow⟩

def isAggD : TypeDesc → Bool
  | .struct _ | .array _ _ => true
  | _ => false

def loadC (P : Program) (t : TypeId) (cs : List Value) (off : Nat) : Option Value :=
  match P.underlying t with
  | none => none
  | some d => match isAggD d with
    | true => match P.info? t with
      | none => none
      | some i => match Nat.ble (off + i.size) cs.length with
        | true => some (.agg ⟨(cs.drop off).take i.size⟩)
        | false => none
    | false => cs[off]?

def evLoad (P : Program) (t : TypeId) (x : Value) (s : St) : Option (Value × St) :=
  match x with
  | .pointer (some ⟨id, off, none⟩) =>
    match rowAt s id with
    | none => none
    | some (cs, s1) => match loadC P t cs off with
      | none => none
      | some v => some (v, s1)
  | _ => none

section
variable {P : Program} {G : Gd}

theorem run_isAggD {t : TypeId} {d : TypeDesc} (h : P.underlying t = some d) (w : World) : (isAgg t).run P w = .ok (isAggD d) w := by
  cases d <;> simp [isAgg, run_underlying h, isAggD]
theorem run_sizeOf' {t : TypeId} {i : TypeInfo} (h : P.info? t = some i) (w : World) : (sizeOf t).run P w = .ok i.size w := by simp [sizeOf, typeInfo, h]

theorem add_addr (b o n : Nat) : (⟨b, o, none⟩ : Addr).add n = ⟨b, o + n, none⟩ := by
  unfold Addr.add
  split
  · subst_vars; rfl
  · rfl

theorem run_loadC {R : Ren} {w : World} {t : TypeId} {cs : List Value} {off b o : Nat} {v : Value} (h : loadC P t cs off = some v) (hc : ∀ (j : Nat) (x : Value), cs[j]? = some x → ∃ u, VR R x u ∧ w.cell? ⟨b, o + j, none⟩ = some u) :
    ∃ v', (loadVar t ⟨b, o + off, none⟩).run P w = .ok v' w ∧ VR R v v' := by
  unfold loadC at h
  split at h
  · cases h
  rename_i d hd
  split at h
  · rename_i hagg
    split at h
    · cases h
    rename_i i hi
    split at h
    · rename_i hle
      cases h
      have hle := Nat.le_of_ble_eq_true hle
      -- the cells
      have hrow : ∃ us : List Value, us.length = i.size ∧ ∀ (j : Nat), j < i.size → ∃ x u, cs[off + j]? = some x ∧ us[j]? = some u ∧ VR R x u ∧ w.cell? ⟨b, o + off + j, none⟩ = some u := by
        refine ⟨(List.range i.size).map fun j => (w.cell? ⟨b, o + off + j, none⟩).getD undef, by simp, fun j hj => ?_⟩
        have hlt : off + j < cs.length := by omega
        obtain ⟨u, hu, hcu⟩ := hc (off + j) cs[off + j] (by simp [hlt])
        rw [← Nat.add_assoc] at hcu
        exact ⟨_, u, by simp [hlt], by simp [hj, hcu], hu, hcu⟩
      obtain ⟨us, hl, hus⟩ := hrow
      have hload := run_loadCells_list (P := P) w ⟨b, o + off, none⟩ us (fun j u hu => by
        have hj : j < i.size := by rw [← hl]; exact (List.getElem?_eq_some_iff.1 hu).1
        obtain ⟨x, u', _, h2, _, h4⟩ := hus j hj
        rw [h2] at hu
        cases hu
        rw [add_addr]
        exact h4)
      rw [hl] at hload
      refine ⟨.agg us.toArray, ?_, ⟨us.toArray, ⟨us, ?_, rfl⟩, rfl⟩⟩
      · simp only [loadVar, Sem.run_bind, run_isAggD hd, Result.andThen_ok, hagg, if_true, run_sizeOf' hi, hload]
        rfl
      · refine VRs.of_get (by rw [hl]; simp; omega) fun j x hx => ?_
        have hj : j < i.size := by
          have := (List.getElem?_eq_some_iff.1 hx).1
          simp at this
          omega
        obtain ⟨x', u, h1, h2, h3, _⟩ := hus j hj
        rw [List.getElem?_take_of_lt hj, List.getElem?_drop, h1] at hx
        cases hx
        exact ⟨u, h2, h3⟩
    · cases h
  · rename_i hagg
    obtain ⟨u, hu, hcu⟩ := hc off v h
    refine ⟨u, ?_, hu⟩
    simp only [loadVar, Sem.run_bind, run_isAggD hd, Result.andThen_ok, hagg, Bool.false_eq_true, if_false]
    simp [hcu]

theorem evLoad_ok {dst : Option Tmp} {t : TypeId} {ad : Operand} {ty : TypeId} {pos : String} {after : Array Edge} {gd : Option (Nat × Bool)} {ρ : Operand → Value} {s s' : St} {v : Value}
    (h : evLoad P t (ρ ad) s = some (v, s')) : OpS P G ⟨dst, .load t ad, ty, pos, after, gd⟩ ρ s v s' := by
  unfold evLoad at h
  split at h
  · rename_i id off hx
    split at h
    · cases h
    rename_i cs s1 hrow
    split at h
    · cases h
    rename_i v0 hv0
    simp only [Option.some.injEq, Prod.mk.injEq] at h
    obtain ⟨rfl, rfl⟩ := h
    obtain ⟨r1, r2, r3, r4, r5, r6, r7⟩ := rowAt_ok (P := P) (G := G) hrow
    refine ⟨r1, fun F R w a hrd hwr hS _ hop K Q hK => ?_⟩
    obtain ⟨l, hl, hc⟩ := r7 F R w hrd hS
    obtain ⟨v', hrun, hvr⟩ := run_loadC hv0 hc
    have hx' := hop ad (by simp [Op.operands])
    rw [hx] at hx'
    obtain ⟨l', hl', hae⟩ := hx'
    rw [hl] at hl'
    cases hl'
    refine wp_value (v := v') (w' := w) ?_ (hK R v' w hvr (by rw [r2]; exact hS) (Step.refl _ _ _ _))
    simp only [execOp, hae, Instr.loadAt, Instr.sureAddr]
    simp [hrun]
  · cases h
end
end Go.Proofs.Ytahopbjoaoiknaa
