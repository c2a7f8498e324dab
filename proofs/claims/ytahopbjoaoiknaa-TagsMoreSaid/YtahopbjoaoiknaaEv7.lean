/- An evaluator over named blocks: indexes, slices, nil, maps. Nothing of the program stands here. -/
import Derived.Test.YtahopbjoaoiknaaEv6
import Derived.LaidEqlPtr
namespace Go.Proofs.Ytahopbjoaoiknaa
set_option linter.unusedVariables false
set_option linter.unusedSimpArgs false
open Go.RowKit

/-- A whole number that is not negative. -/
def natOf : Value → Option (IntKind × Nat)
  | .int k (.ofNat n) => some (k, n)
  | _ => none
theorem natOf_eq {v : Value} {k : IntKind} {n : Nat} (h : natOf v = some (k, n)) : v = .int k n := by
  unfold natOf at h
  split at h
  · simp only [Option.some.injEq, Prod.mk.injEq] at h
    rw [h.1, h.2]; rfl
  · cases h

def evIndexAddr (P : Program) (t : TypeId) (x ix : Value) (s : St) : Option (Value × St) :=
  match natOf ix with
  | none => none
  | some (_, n) => match P.underlying t, x with
    | some (.slice e), .slice (some ⟨id, off, none⟩) len _ => match P.info? e with
      | none => none
      | some i => match Nat.blt n len with
        | true => some (.pointer (some ⟨id, off + n * i.size, none⟩), s)
        | false => none
    | some (.array len e), .pointer (some ⟨id, off, none⟩) => match P.info? e with
      | none => none
      | some i => match Nat.blt n len with
        | true => some (.pointer (some ⟨id, off + n * i.size, none⟩), s)
        | false => none
    | _, _ => none

/-- Is the capacity of what lies there known? -/
def AObj.exact : AObj → Bool
  | .cells _ _ => true
  | .seg _ => true
  | .nul => true
  | .vw _ => true
  | _ => false

def boundOf : Option Value → Nat → Option Nat
  | none, d => some d
  | some v, _ => (natOf v).map (·.2)
/-- A name for a place in the row of id; it has no capacity. -/
def evNul (id : Nat) (s : St) : Option (Nat × St) := (s.touch id).mk' .nul
def evSlice (P : Program) (t : TypeId) (x : Value) (lo hi mx : Option Value) (s : St) : Option (Value × St) :=
  match P.underlying t, x with
  | some (.slice e), .slice (some ⟨id, off, none⟩) len cap => match mx with
    | none => match P.info? e, boundOf lo 0, boundOf hi len with
      | some i, some l, some h => match Nat.ble l h && Nat.ble h cap with
        | false => none
        | true => match Nat.blt l cap || Nat.beq l 0 with
          | true => some (.slice (some ⟨id, off + l * i.size, none⟩) (h - l) (cap - l), s)
          | false => match s.h.get id with
            | none => none
            | some (.loose cs e') => match evNul id s with
              | none => none
              | some (n, s1) => match s1.mk' (.tl n) with
                | none => none
                | some (id', s2) => some (.slice (some ⟨id', 0, none⟩) 0 0, s2)
            | some o => match o.exact with
              | true => some (.slice (some ⟨id, off, none⟩) (h - l) (cap - l), s.look id)
              | false => none
      | _, _, _ => none
    | some mv => match P.info? e, boundOf lo 0, boundOf hi len, natOf mv with
      | some i, some l, some h, some (_, m) => match Nat.ble l h && Nat.ble h m && Nat.ble m cap && hi.isSome with
        | false => none
        | true => match s.h.get id with
          | none => none
          | some (.loose cs e') => match Nat.beq m l with
            | false => match (s.touch id).mk' (.vw id) with
              | none => none
              | some (n, s1) => some (.slice (some ⟨n, off + l * i.size, none⟩) (h - l) (m - l), s1)
            | true => match evNul id s with
              | none => none
              | some (n, s1) => some (.slice (some ⟨n, 0, none⟩) 0 0, s1)
          | some (.tl n) => match Nat.beq off 0 && Nat.beq m 0 with
            | true => some (.slice (some ⟨n, 0, none⟩) 0 0, s.look id)
            | false => none
          | some o => match o.exact with
            | true => some (.slice (some ⟨id, (match Nat.beq m l with | true => off | false => off + l * i.size), none⟩) (h - l) (m - l), s.look id)
            | false => none
      | _, _, _, _ => none
  | _, _ => none

def evLen (x : Value) (s : St) : Option (Value × St) :=
  match x with
  | .slice (some _) n _ => some (goInt n, s)
  | .map (some id) => match s.h.get id with
    | some (.mapI _ m) => some (goInt m.length, s.look id)
    | some (.mapS m) => some (goInt m.length, s.look id)
    | _ => none
  | _ => none

def nilKind (P : Program) (t : TypeId) : Value → Value → Bool
  | .pointer (some _), .pointer none | .pointer none, .pointer (some _) => match P.underlying t with | some (.pointer _) => true | _ => false
  | .slice (some _) _ _, .slice none 0 0 | .slice none 0 0, .slice (some _) _ _ => match P.underlying t with | some (.slice _) => true | _ => false
  | .map (some _), .map none | .map none, .map (some _) => match P.underlying t with | some (.map _ _) => true | _ => false
  | _, _ => false
def evNil (P : Program) (op : BinOp) (t : TypeId) (x y : Value) (s : St) : Option (Value × St) :=
  match nilKind P t x y with
  | false => none
  | true => match op with
    | .eql => some (.bool false, s)
    | .neq => some (.bool true, s)
    | _ => none
/-- The same address. -/
def evSame (P : Program) (op : BinOp) (t : TypeId) (x y : Value) (s : St) : Option (Value × St) :=
  match x, y with
  | .pointer (some ⟨i, a, none⟩), .pointer (some ⟨j, b, none⟩) => match P.underlying t with
    | some (.pointer e) => match P.info? e with
      | none => none
      | some ie => match Nat.beq i j && Nat.beq a b && !(Nat.beq ie.size 0) with
        | false => none
        | true => match op with
          | .eql => some (.bool true, s)
          | .neq => some (.bool false, s)
          | _ => none
    | _ => none
  | _, _ => none

section
variable {P : Program} {G : Gd}
theorem evIndexAddr_ok {dst : Option Tmp} {t ty : TypeId} {x ix : Operand} {pos : String} {after : Array Edge} {gd : Option (Nat × Bool)} {ρ : Operand → Value} {s s' : St} {v : Value}
    (h : evIndexAddr P t (ρ x) (ρ ix) s = some (v, s')) : OpS P G ⟨dst, .indexAddr t x ix, ty, pos, after, gd⟩ ρ s v s' := by
  unfold evIndexAddr at h
  split at h
  · cases h
  rename_i k n hn
  have hn := natOf_eq hn
  split at h
  · rename_i e id off len cap hu hx
    split at h
    · cases h
    rename_i i hi
    split at h
    · rename_i hlt
      have hlt : n < len := Nat.le_of_ble_eq_true hlt
      simp only [Option.some.injEq, Prod.mk.injEq] at h
      obtain ⟨rfl, rfl⟩ := h
      refine .pure fun R w a hop => ?_
      have hx' := hop x (by simp [Op.operands])
      have hi' := hop ix (by simp [Op.operands])
      rw [hn] at hi'
      have hi' : a.eval ix = .int k n := hi'
      rw [hx] at hx'
      obtain ⟨l, hl, hae⟩ := hx'
      refine ⟨.pointer (some ⟨l.blk, l.off + (off + n * i.size), none⟩), ?_, ⟨l, hl, rfl⟩⟩
      have h2 : (n : Int) < (len : Int) := by omega
      simp [execOp, hae, hi', Instr.indexAt, asIntOf, run_underlying hu, run_sizeOf' hi, hlt, add_addr, Nat.add_assoc]
    · cases h
  · rename_i len e id off hu hx
    split at h
    · cases h
    rename_i i hi
    split at h
    · rename_i hlt
      have hlt : n < len := Nat.le_of_ble_eq_true hlt
      simp only [Option.some.injEq, Prod.mk.injEq] at h
      obtain ⟨rfl, rfl⟩ := h
      refine .pure fun R w a hop => ?_
      have hx' := hop x (by simp [Op.operands])
      have hi' := hop ix (by simp [Op.operands])
      rw [hn] at hi'
      have hi' : a.eval ix = .int k n := hi'
      rw [hx] at hx'
      obtain ⟨l, hl, hae⟩ := hx'
      refine ⟨.pointer (some ⟨l.blk, l.off + (off + n * i.size), none⟩), ?_, ⟨l, hl, rfl⟩⟩
      simp [execOp, hae, hi', Instr.indexAt, Instr.sureAddr, asIntOf, run_underlying hu, run_sizeOf' hi, hlt, add_addr, Nat.add_assoc]
    · cases h
  · cases h

theorem SatObj.exact {R : Ren} {w : World} {id : Nat} {o : AObj} (h : SatObj P R w id o) (he : o.exact = true) : ∃ l, R id = some l ∧ l.ext = 0 := by
  cases o with
  | cells cs t => obtain ⟨l, cur, h1, h2, h3, _⟩ := h; exact ⟨l, h1, h3⟩
  | seg cs => obtain ⟨l, h1, h2, _⟩ := h; exact ⟨l, h1, h2⟩
  | nul => obtain ⟨l, h1, h2⟩ := h; exact ⟨l, h1, h2⟩
  | vw p => obtain ⟨l, l2, h1, h2, h3, h4, h5⟩ := h; exact ⟨l, h1, h5⟩
  | _ => cases he

theorem run_bound {lo : Option Operand} {d l : Nat} {ρ : Operand → Value} {a : Act} {R : Ren} (h : boundOf (lo.map ρ) d = some l) (hop : ∀ x ∈ lo.toList, VR R (ρ x) (a.eval x)) : (lo = none ∧ l = d) ∨ ∃ x k, lo = some x ∧ a.eval x = .int k l := by
  cases lo with
  | none => simp [boundOf] at h; exact .inl ⟨rfl, h.symm⟩
  | some x =>
    simp only [Option.map_some, boundOf] at h
    cases hn : natOf (ρ x) with
    | none => rw [hn] at h; cases h
    | some p =>
      obtain ⟨k, n⟩ := p
      rw [hn] at h
      simp only [Option.map_some, Option.some.injEq] at h
      subst h
      have hx := hop x (by simp)
      rw [natOf_eq hn] at hx
      exact .inr ⟨x, k, rfl, hx⟩

theorem evNul_ok {F : Nat → Prop} {R : Ren} {w : World} {id n : Nat} {s s1 : St} {cs : List Value} {e : TypeId} {L : Loc} (h : evNul id s = some (n, s1)) (ho : s.h.get id = some (.loose cs e)) (hwr : ∀ k ∈ s1.wr, F k) (hS : Sat P G F R s.h w) (hL : R id = some L) (off : Nat) :
    ∃ R', R' n = some ⟨L.blk, off, 0, undef⟩ ∧ Sat P G F R' s1.h w ∧ Step R w s.h R' w s1.wr := by
  unfold evNul at h
  obtain ⟨rfl, hn, rfl⟩ := St.mk'_eq h
  obtain ⟨hr, h1, h2⟩ := hS.alias (c := s.c) (o' := .nul) (l' := ⟨L.blk, off, 0, undef⟩) (hwr id (by simp [St.touch])) (hwr _ (by simp [St.touch])) hn ho rfl hL rfl rfl ⟨_, Ren.upd_same _ _ _, rfl⟩ (s.touch id).wr (by simp [St.touch])
  exact ⟨_, Ren.upd_same _ _ _, h1, h2⟩
theorem evNul_run {id n : Nat} {s s1 : St} (h : evNul id s = some (n, s1)) : ARun s s1 := by
  unfold evNul at h
  exact (ARun.touch s id).trans (ARun.mk' h)

theorem evSlice_ok {dst : Option Tmp} {t ty : TypeId} {x : Operand} {lo hi mx : Option Operand} {pos : String} {after : Array Edge} {gd : Option (Nat × Bool)} {ρ : Operand → Value} {s s' : St} {v : Value}
    (h : evSlice P t (ρ x) (lo.map ρ) (hi.map ρ) (mx.map ρ) s = some (v, s')) : OpS P G ⟨dst, .slice t x lo hi mx, ty, pos, after, gd⟩ ρ s v s' := by
  unfold evSlice at h
  split at h
  · rename_i e id off len cap hu hx
    have hrunG : ∀ (R : Ren) (w : World) (a : Act) (L : Loc) (i : TypeInfo) (l hh m : Nat), P.info? e = some i → boundOf (lo.map ρ) 0 = some l → boundOf (hi.map ρ) len = some hh → l ≤ hh → hh ≤ m → m ≤ cap + L.ext → (mx = none ∧ m = cap + L.ext ∨ ∃ y k, mx = some y ∧ a.eval y = .int k m ∧ hi.isSome = true) →
        (∀ y ∈ (Op.slice t x lo hi mx).operands, VR R (ρ y) (a.eval y)) → R id = some L →
        (execOp a.eval ⟨dst, .slice t x lo hi mx, ty, pos, after, gd⟩).run P w = .ok (.value (.slice (if m = l then some ⟨L.blk, L.off + off, none⟩ else some ⟨L.blk, L.off + off + l * i.size, none⟩) (hh - l) (m - l))) w := by
      intro R w a L i l hh m hi' hl' hh' b1 b2 b3 hm hop hL
      have hx' := hop x (by simp [Op.operands])
      rw [hx] at hx'
      obtain ⟨L', hL', hae⟩ := hx'
      rw [hL] at hL'
      cases hL'
      have hlo := run_bound (a := a) (R := R) hl' (fun y hy => hop y (by cases lo <;> simp_all [Op.operands]))
      have hhi := run_bound (a := a) (R := R) hh' (fun y hy => hop y (by cases hi <;> simp_all [Op.operands]))
      have c1 : (hh : Int) ≤ (m : Int) := by omega
      have c2 : (l : Int) ≤ (hh : Int) := by omega
      have c4 : (m : Int) ≤ ((cap + L.ext : Nat) : Int) := by omega
      rcases hm with ⟨rfl, rfl⟩ | ⟨ym, km, rfl, em, his⟩ <;> rcases hlo with ⟨rfl, rfl⟩ | ⟨x1, k1, rfl, e1⟩ <;> rcases hhi with ⟨rfl, rfl⟩ | ⟨x2, k2, rfl, e2⟩ <;>
        simp [execOp, Instr.sliceAt, Instr.slice, Instr.sliceBounds, Instr.sliceBound, asIntOf, hae, run_underlying hu, run_sizeOf' hi', add_addr, *] <;> (try split) <;> simp_all
    split at h
    · rename_i hmx
      have hmx : mx = none := by cases mx <;> first | rfl | cases hmx
      subst hmx
      split at h
      · rename_i i l hh hi' hl' hh'
        split at h
        · cases h
        rename_i hb
        rw [Bool.and_eq_true] at hb
        have b1 := Nat.le_of_ble_eq_true hb.1
        have b2 := Nat.le_of_ble_eq_true hb.2
        have hrun : ∀ (R : Ren) (w : World) (a : Act) (L : Loc), (∀ y ∈ (Op.slice t x lo hi none).operands, VR R (ρ y) (a.eval y)) → R id = some L →
            (execOp a.eval ⟨dst, .slice t x lo hi none, ty, pos, after, gd⟩).run P w = .ok (.value (.slice (if cap + L.ext = l then some ⟨L.blk, L.off + off, none⟩ else some ⟨L.blk, L.off + off + l * i.size, none⟩) (hh - l) (cap + L.ext - l))) w :=
          fun R w a L hop hL => hrunG R w a L i l hh (cap + L.ext) hi' hl' hh' b1 (by omega) (Nat.le_refl _) (.inl ⟨rfl, rfl⟩) hop hL
        split at h
        · rename_i hlt
          simp only [Option.some.injEq, Prod.mk.injEq] at h
          obtain ⟨rfl, rfl⟩ := h
          refine .pure fun R w a hop => ?_
          have hx' := hop x (by simp [Op.operands])
          rw [hx] at hx'
          obtain ⟨L, hL, hae⟩ := hx'
          have hr := hrun R w a L hop hL
          have he : (if cap + L.ext = l then some (⟨L.blk, L.off + off, none⟩ : Addr) else some ⟨L.blk, L.off + off + l * i.size, none⟩) = some ⟨L.blk, L.off + off + l * i.size, none⟩ := by
            rw [Bool.or_eq_true] at hlt
            rcases hlt with hlt | hlt
            · have hlt : l < cap := Nat.le_of_ble_eq_true hlt
              rw [if_neg (by omega)]
            · have hlt := Nat.eq_of_beq_eq_true hlt
              subst hlt
              simp
          rw [he] at hr
          exact ⟨_, hr, L, hL, by simp only [Nat.add_assoc, show cap + L.ext - l = cap - l + L.ext by omega]⟩
        · rename_i hlt
          rw [Bool.or_eq_false_iff] at hlt
          have hge : ¬ l < cap := fun hc => by
            have : Nat.blt l cap = true := Nat.ble_eq_true_of_le hc
            rw [this] at hlt
            cases hlt.1
          split at h
          · cases h
          · rename_i cs e' ho
            split at h
            · cases h
            rename_i n s1 hn
            split at h
            · cases h
            rename_i id' s2 hm2
            simp only [Option.some.injEq, Prod.mk.injEq] at h
            obtain ⟨rfl, rfl⟩ := h
            have hA := (evNul_run hn).trans (ARun.mk' hm2)
            refine ⟨hA, fun F R w a hrd hwr hS _ hop K Q hK => ?_⟩
            have hx' := hop x (by simp [Op.operands])
            rw [hx] at hx'
            obtain ⟨L, hL, hae⟩ := hx'
            have hr := hrun R w a L hop hL
            have hwr1 : ∀ k ∈ s1.wr, F k := fun k hk => hwr k ((ARun.mk' hm2).wr k hk)
            obtain ⟨R1, q1, q2, q3⟩ := evNul_ok hn ho hwr1 hS hL (if cap + L.ext = l then L.off + off else L.off + off + l * i.size)
            have hid : id ∈ s1.wr := by
              unfold evNul at hn
              obtain ⟨rfl, _, rfl⟩ := St.mk'_eq hn
              simp [St.touch]
            have hne : n ≠ id := by
              unfold evNul at hn
              obtain ⟨hq, hz, _⟩ := St.mk'_eq hn
              intro e
              rw [← hq, e, show (s.touch _).h = s.h from rfl, ho] at hz
              cases hz
            have ho1 : s1.h.get id = some (.loose cs e') := by
              unfold evNul at hn
              obtain ⟨rfl, _, rfl⟩ := St.mk'_eq hn
              simp only
              rw [Tr.get_set, if_neg hne]
              exact ho
            obtain ⟨rfl, hz, rfl⟩ := St.mk'_eq hm2
            have hnn : n ≠ 2 * s1.c := by
              unfold evNul at hn
              obtain ⟨rfl, _, rfl⟩ := St.mk'_eq hn
              simp only
              show ¬ (2 * s.c = 2 * (s.c + 1))
              omega
            obtain ⟨_, g1, g2⟩ := q2.alias (c := s1.c) (o' := .tl n) (l' := ⟨L.blk, (if cap + L.ext = l then L.off + off else L.off + off + l * i.size), cap + L.ext - l, undef⟩) (hwr1 id hid) (hwr _ (by simp)) hz ho1 rfl (q3.mono _ _ hL) rfl rfl
              ⟨⟨L.blk, (if cap + L.ext = l then L.off + off else L.off + off + l * i.size), cap + L.ext - l, undef⟩, ⟨L.blk, (if cap + L.ext = l then L.off + off else L.off + off + l * i.size), 0, undef⟩, Ren.upd_same _ _ _, (by rw [Ren.upd_ne _ _ hnn]; exact q1), rfl, rfl, rfl⟩ s1.wr hid
            refine wp_value hr (hK _ _ w ⟨_, Ren.upd_same _ _ _, ?_⟩ g1 (Step.trans hS (evNul_run hn) (fun k hk => hwr k hk) (q3.more fun k hk => List.mem_cons_of_mem _ hk) g2))
            simp only
            split <;> simp [show hh - l = 0 by omega]
          · rename_i o hno ho
            split at h
            · rename_i hex
              simp only [Option.some.injEq, Prod.mk.injEq] at h
              obtain ⟨rfl, rfl⟩ := h
              refine ⟨ARun.look s id, fun F R w a hrd hwr hS _ hop K Q hK => ?_⟩
              obtain ⟨L, hL, hE⟩ := (hS.obj id o (hrd id (by simp [St.look])) ho).exact hex
              have hr := hrun R w a L hop hL
              rw [if_pos (by omega)] at hr
              refine wp_value hr (hK R _ w ⟨L, hL, ?_⟩ hS (Step.refl _ _ _ _))
              rw [hE]
              rfl
            · cases h
      · cases h
    · rename_i mv hmx
      obtain ⟨ym, rfl, rfl⟩ : ∃ ym, mx = some ym ∧ mv = ρ ym := by cases mx with | none => cases hmx | some ym => exact ⟨ym, rfl, (Option.some.inj hmx).symm⟩
      split at h
      · rename_i i l hh k m hi' hl' hh' hmv
        split at h
        · cases h
        rename_i hb
        simp only [Bool.and_eq_true] at hb
        have b1 := Nat.le_of_ble_eq_true hb.1.1.1
        have b2 := Nat.le_of_ble_eq_true hb.1.1.2
        have b3 := Nat.le_of_ble_eq_true hb.1.2
        have b4 : hi.isSome = true := by simpa using hb.2
        have hrun : ∀ (R : Ren) (w : World) (a : Act) (L : Loc), (∀ y ∈ (Op.slice t x lo hi (some ym)).operands, VR R (ρ y) (a.eval y)) → R id = some L →
            (execOp a.eval ⟨dst, .slice t x lo hi (some ym), ty, pos, after, gd⟩).run P w = .ok (.value (.slice (if m = l then some ⟨L.blk, L.off + off, none⟩ else some ⟨L.blk, L.off + off + l * i.size, none⟩) (hh - l) (m - l))) w :=
          fun R w a L hop hL => hrunG R w a L i l hh m hi' hl' hh' b1 b2 (by omega) (.inr ⟨ym, k, rfl, (by
            have := hop ym (by simp [Op.operands])
            rw [natOf_eq hmv] at this
            exact this), b4⟩) hop hL
        split at h
        · cases h
        · rename_i cs e' ho
          split at h
          · rename_i hml
            split at h
            · cases h
            rename_i n s1 hn
            simp only [Option.some.injEq, Prod.mk.injEq] at h
            obtain ⟨rfl, rfl⟩ := h
            refine ⟨(ARun.touch s id).trans (ARun.mk' hn), fun F R w a hrd hwr hS _ hop K Q hK => ?_⟩
            have hx' := hop x (by simp [Op.operands])
            rw [hx] at hx'
            obtain ⟨L, hL, hae⟩ := hx'
            have hr := hrun R w a L hop hL
            rw [if_neg (fun e => by rw [e] at hml; simp at hml)] at hr
            obtain ⟨rfl, hz, rfl⟩ := St.mk'_eq hn
            obtain ⟨hr0, g1, g2⟩ := hS.alias (c := s.c) (o' := .vw id) (l' := ⟨L.blk, L.off, 0, undef⟩) (hwr id (by simp [St.touch])) (hwr _ (by simp [St.touch])) hz ho rfl hL rfl rfl
              ⟨⟨L.blk, L.off, 0, undef⟩, L, Ren.upd_same _ _ _, (Ren.upd_le (hS.alias (c := s.c) (o' := .nul) (l' := ⟨L.blk, L.off, 0, undef⟩) (hwr id (by simp [St.touch])) (hwr _ (by simp [St.touch])) hz ho rfl hL rfl rfl ⟨_, Ren.upd_same _ _ _, rfl⟩ (s.touch id).wr (by simp [St.touch])).1) _ _ hL, rfl, rfl, rfl⟩ (s.touch id).wr (by simp [St.touch])
            refine wp_value hr (hK _ _ w ⟨_, Ren.upd_same _ _ _, ?_⟩ g1 g2)
            simp only [Nat.add_zero, Nat.add_assoc]
          rename_i hml
          have hml := Nat.eq_of_beq_eq_true hml
          subst hml
          split at h
          · cases h
          rename_i n s1 hn
          simp only [Option.some.injEq, Prod.mk.injEq] at h
          obtain ⟨rfl, rfl⟩ := h
          refine ⟨evNul_run hn, fun F R w a hrd hwr hS _ hop K Q hK => ?_⟩
          have hx' := hop x (by simp [Op.operands])
          rw [hx] at hx'
          obtain ⟨L, hL, hae⟩ := hx'
          have hr := hrun R w a L hop hL
          rw [if_pos rfl] at hr
          obtain ⟨R1, q1, q2, q3⟩ := evNul_ok hn ho hwr hS hL (L.off + off)
          refine wp_value hr (hK _ _ w ⟨_, q1, ?_⟩ q2 q3)
          simp only [Nat.add_zero, Nat.sub_self]
          simp [show hh - m = 0 by omega]
        · rename_i n ho
          split at h
          · rename_i hz
            rw [Bool.and_eq_true] at hz
            have hz1 := Nat.eq_of_beq_eq_true hz.1
            have hz2 := Nat.eq_of_beq_eq_true hz.2
            subst hz1
            subst hz2
            obtain rfl : hh = 0 := by omega
            obtain rfl : l = 0 := by omega
            simp only [Option.some.injEq, Prod.mk.injEq] at h
            obtain ⟨rfl, rfl⟩ := h
            refine ⟨ARun.look s id, fun F R w a hrd hwr hS _ hop K Q hK => ?_⟩
            obtain ⟨L, L2, hL, hL2, h3, h4, h5⟩ := hS.obj id _ (hrd id (by simp [St.look])) ho
            have hr := hrun R w a L hop hL
            rw [if_pos rfl] at hr
            refine wp_value hr (hK R _ w ⟨L2, hL2, ?_⟩ hS (Step.refl _ _ _ _))
            simp only [h3, h4, h5]
          · cases h
        · rename_i o hno1 hno2 ho
          split at h
          · rename_i hex
            simp only [Option.some.injEq, Prod.mk.injEq] at h
            obtain ⟨rfl, rfl⟩ := h
            refine ⟨ARun.look s id, fun F R w a hrd hwr hS _ hop K Q hK => ?_⟩
            obtain ⟨L, hL, hE⟩ := (hS.obj id o (hrd id (by simp [St.look])) ho).exact hex
            have hr := hrun R w a L hop hL
            refine wp_value hr (hK R _ w ⟨L, hL, ?_⟩ hS (Step.refl _ _ _ _))
            rw [hE]
            by_cases hml : m = l
            · subst hml
              simp
            · have : Nat.beq m l = false := by
                cases hq : Nat.beq m l <;> first | rfl | exact absurd (Nat.eq_of_beq_eq_true hq) hml
              rw [if_neg hml, this]
              simp [Nat.add_assoc]
          · cases h
      · cases h
  · cases h

theorem VRm.length {κ : Type} {R : Ren} {m m' : List (κ × Value)} (h : VRm R m m') : m'.length = m.length := by
  have := congrArg List.length h.1
  simpa using this

theorem evLen_ok {dst : Option Tmp} {t ty : TypeId} {x : Operand} {pos : String} {after : Array Edge} {gd : Option (Nat × Bool)} {ρ : Operand → Value} {s s' : St} {v : Value}
    (ht : match P.underlying t, ρ x with | some (.slice _), .slice _ _ _ => True | some (.map _ _), .map _ => True | _, _ => False)
    (h : evLen (ρ x) s = some (v, s')) : OpS P G ⟨dst, .call ⟨.builtin .len, #[x], #[t]⟩, ty, pos, after, gd⟩ ρ s v s' := by
  unfold evLen at h
  split at h
  · rename_i ad n c hx
    simp only [Option.some.injEq, Prod.mk.injEq] at h
    obtain ⟨rfl, rfl⟩ := h
    refine .pure fun R w a hop => ?_
    have hx' := hop x (by simp [Op.operands, Call.operands])
    rw [hx] at hx' ht
    obtain ⟨l, hl, hae⟩ := hx'
    split at ht
    · rename_i e _ _ _ hu heq
      exact ⟨goInt n, by simp [execOp, resolve, invoke, builtin, Builtin.len_, hae, run_underlying hu], rfl⟩
    · rename_i heq; cases heq
    · cases ht
  · rename_i id hx
    rw [hx] at ht
    split at ht
    · rename_i heq; cases heq
    · rename_i k e _ hu heq
      have fin : ∀ (m : Nat) (R : Ren) (w : World) (a : Act) (l : Loc) (es : Array MapEntry) (clock : Nat), VR R (.map (some id)) (a.eval x) → R id = some l → w.heap[l.blk]? = some (.map es clock) → es.size = m →
          (execOp a.eval ⟨dst, .call ⟨.builtin .len, #[x], #[t]⟩, ty, pos, after, gd⟩).run P w = .ok (.value (goInt m)) w := by
        rintro m R w a l es clock ⟨l', hl', hae⟩ hl hb hsz
        rw [hl] at hl'
        cases hl'
        simp [execOp, resolve, invoke, builtin, Builtin.len_, hae, run_underlying hu, MapKept.run_getObj_map hb, hsz]
      split at h
      · rename_i kk m ho
        simp only [Option.some.injEq, Prod.mk.injEq] at h
        obtain ⟨rfl, rfl⟩ := h
        refine ⟨ARun.look s id, fun F R w a hrd hwr hS _ hop K Q hK => ?_⟩
        obtain ⟨l, m', h1, h2, es, clock, hb, hm, _⟩ := hS.obj id _ (hrd id (by simp [St.look])) ho
        have hsz : es.size = m.length := by have := congrArg List.length hm; simp at this; rw [this, h2.length]
        have hx' := hop x (by simp [Op.operands, Call.operands])
        rw [hx] at hx'
        exact wp_value (fin m.length R w a l es clock hx' h1 hb hsz) (hK R _ w rfl hS (Step.refl _ _ _ _))
      · rename_i m ho
        simp only [Option.some.injEq, Prod.mk.injEq] at h
        obtain ⟨rfl, rfl⟩ := h
        refine ⟨ARun.look s id, fun F R w a hrd hwr hS _ hop K Q hK => ?_⟩
        obtain ⟨l, m', h1, h2, es, clock, hb, hm, _⟩ := hS.obj id _ (hrd id (by simp [St.look])) ho
        have hsz : es.size = m.length := by have := congrArg List.length hm; simp at this; rw [this, h2.length]
        have hx' := hop x (by simp [Op.operands, Call.operands])
        rw [hx] at hx'
        exact wp_value (fin m.length R w a l es clock hx' h1 hb hsz) (hK R _ w rfl hS (Step.refl _ _ _ _))
      · cases h
    · cases ht
  · cases h

theorem run_nilKind {t : TypeId} {x y x' y' : Value} {R : Ren} (h : nilKind P t x y = true) (hx : VR R x x') (hy : VR R y y') (w : World) : (∀ d, (Op.equalIn (d + 1) t x' y').run P w = .ok false w) ∧ (∀ op ox oy, (eqGuard op t ox oy x' y').run P w = .ok () w) ∧
    binOp .eql t x' y' = (do pure (.bool (← Op.equal t x' y'))) ∧ binOp .neq t x' y' = (do pure (.bool (!(← Op.equal t x' y')))) := by
  unfold nilKind at h
  split at h <;> (try cases h)
  all_goals
    split at h
    rotate_left
    · cases h
    rename_i hu
  · obtain ⟨l, _, rfl⟩ := hx
    obtain rfl : y' = _ := hy
    exact ⟨fun d => by simp [Op.equalIn, run_underlying hu], fun op ox oy => by cases op <;> simp [eqGuard], rfl, rfl⟩
  · obtain ⟨l, _, rfl⟩ := hy
    obtain rfl : x' = _ := hx
    exact ⟨fun d => by simp [Op.equalIn, run_underlying hu], fun op ox oy => by cases op <;> simp [eqGuard], rfl, rfl⟩
  · obtain ⟨l, _, rfl⟩ := hx
    obtain rfl : y' = _ := hy
    exact ⟨fun d => by simp [Op.equalIn, run_underlying hu], fun op ox oy => by cases op <;> simp [eqGuard], rfl, rfl⟩
  · obtain ⟨l, _, rfl⟩ := hy
    obtain rfl : x' = _ := hx
    exact ⟨fun d => by simp [Op.equalIn, run_underlying hu], fun op ox oy => by cases op <;> simp [eqGuard], rfl, rfl⟩
  · obtain ⟨l, _, rfl⟩ := hx
    obtain rfl : y' = _ := hy
    exact ⟨fun d => by simp [Op.equalIn, run_underlying hu], fun op ox oy => by cases op <;> simp [eqGuard], rfl, rfl⟩
  · obtain ⟨l, _, rfl⟩ := hy
    obtain rfl : x' = _ := hx
    exact ⟨fun d => by simp [Op.equalIn, run_underlying hu], fun op ox oy => by cases op <;> simp [eqGuard], rfl, rfl⟩
theorem evNil_ok {dst : Option Tmp} {op : BinOp} {t ty yt : TypeId} {x y : Operand} {pos : String} {after : Array Edge} {gd : Option (Nat × Bool)} {ρ : Operand → Value} {s s' : St} {v : Value}
    (h : evNil P op t (ρ x) (ρ y) s = some (v, s')) : OpS P G ⟨dst, .binOp op t x y yt, ty, pos, after, gd⟩ ρ s v s' := by
  unfold evNil at h
  split at h
  · cases h
  rename_i hk
  have fin : ∀ b, (op = .eql ∧ b = false) ∨ (op = .neq ∧ b = true) → OpS P G ⟨dst, .binOp op t x y yt, ty, pos, after, gd⟩ ρ s (.bool b) s := by
    intro b hb
    refine .pure fun R w a hop => ⟨.bool b, ?_, rfl⟩
    obtain ⟨h1, h2, h3, h4⟩ := run_nilKind hk (hop x (by simp [Op.operands])) (hop y (by simp [Op.operands])) w
    have h1' : (Op.equal t (a.eval x) (a.eval y)).run P w = .ok false w := h1 9999
    rcases hb with ⟨rfl, rfl⟩ | ⟨rfl, rfl⟩
    · simp only [execOp, Sem.run_bind, h2, Result.andThen_ok]
      rw [h3]
      simp [h1']
    · simp only [execOp, Sem.run_bind, h2, Result.andThen_ok]
      rw [h4]
      simp [h1']
  split at h
  · simp only [Option.some.injEq, Prod.mk.injEq] at h
    obtain ⟨rfl, rfl⟩ := h
    exact fin _ (.inl ⟨rfl, rfl⟩)
  · simp only [Option.some.injEq, Prod.mk.injEq] at h
    obtain ⟨rfl, rfl⟩ := h
    exact fin _ (.inr ⟨rfl, rfl⟩)
  · cases h
end
end Go.Proofs.Ytahopbjoaoiknaa
