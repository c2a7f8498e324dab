/- An evaluator over named blocks: sync/atomic. Nothing of the program stands here. -/
import Derived.Test.YtahopbjoaoiknaaEv8
import Derived.Laws.LoneSync
namespace Go.Proofs.Ytahopbjoaoiknaa
set_option linter.unusedVariables false
set_option linter.unusedSimpArgs false
open Go.RowKit

inductive ExtK where
  | load (k : IntKind)
  | store (k : IntKind)
  | add (k : IntKind)
  | cas (k : IntKind)

abbrev ExtT := List (FuncId × ExtK)

def ExtK.fn : ExtK → Array Value → Sem Value
  | .load k => Extern.Atomic.loadT (.int k)
  | .store _ => Extern.Atomic.storeT
  | .add k => Extern.Atomic.update (Op.intArith .add) k true
  | .cas k => Extern.Atomic.casT (.int k)

/-- These functions of the library are what is said of them. -/
def ExtOk (P : Program) (X : ExtT) : Prop :=
  ∀ p ∈ X, ∃ fn, P.funcs[p.1]? = some fn ∧ (fn.name == "runtime.NumGoroutine") = false ∧ fn.body.isNone = true ∧ Extern.findNext fn = none ∧ Extern.find fn = some p.2.fn

def ExtT.look : ExtT → FuncId → Option ExtK
  | [], _ => none
  | (g, k) :: rest, f => match Nat.beq g f with
    | true => some k
    | false => ExtT.look rest f
theorem ExtT.look_mem : ∀ {X : ExtT} {f : FuncId} {k : ExtK}, X.look f = some k → (f, k) ∈ X
  | [], f, k, h => by cases h
  | (g, k') :: rest, f, k, h => by
    simp only [ExtT.look] at h
    split at h
    · rename_i hb
      cases h
      rw [Nat.eq_of_beq_eq_true hb]
      simp
    · exact List.mem_cons_of_mem _ (ExtT.look_mem h)

def evExt (X : ExtT) (f : FuncId) (args : List Value) (s : St) : Option (Value × St) :=
  match X.look f, args with
  | some (.load k), [.pointer (some ⟨id, off, none⟩)] => match s.h.get id with
    | some (.cells cs _) => match cs[off]? with
      | some (.int k' n) => match decide (k' = k) with
        | true => some (.int k' n, s.look id)
        | false => none
      | _ => none
    | _ => none
  | some (.store k), [.pointer (some ⟨id, off, none⟩), .int k' y] => match s.h.get id with
    | some (.cells cs t) => match Nat.blt off cs.length with
      | true => some (.tuple ⟨[]⟩, s.put id (.cells (cs.set off (.int k' y)) t))
      | false => none
    | _ => none
  | some (.add k), [.pointer (some ⟨id, off, none⟩), .int k' y] => match s.h.get id with
    | some (.cells cs t) => match cs[off]? with
      | some (.int k'' x) => match decide (k' = k) && decide (k'' = k) with
        | true => some (.int k (k.wrap (x + y)), s.put id (.cells (cs.set off (.int k (k.wrap (x + y)))) t))
        | false => none
      | _ => none
    | _ => none
  | some (.cas k), [.pointer (some ⟨id, off, none⟩), .int k1 o, .int k2 y] => match s.h.get id with
    | some (.cells cs t) => match cs[off]? with
      | some (.int k3 x) => match decide (k1 = k) && decide (k2 = k) && decide (k3 = k) with
        | true => match askB (x == o) s with
          | none => none
          | some (true, s1) => some (.bool true, s1.put id (.cells (cs.set off (.int k y)) t))
          | some (false, s1) => some (.bool false, s1.look id)
        | false => none
      | _ => none
    | _ => none
  | _, _ => none

section
variable {P : Program} {G : Gd}

/-- A cell is set. -/
theorem set_cell {F : Nat → Prop} {R : Ren} {w : World} {h : Tr AObj} {id off : Nat} {cs : List Value} {t : TypeId} {x y : Value} (hS : Sat P G F R h w) (hF : F id) (ho : h.get id = some (.cells cs t)) (hxy : VR R x y) (wr : List Nat) {l : Loc} (hl : R id = some l) :
    Sat P G F R (h.set id (.cells (cs.set off x) t)) (w.setCell ⟨l.blk, off, none⟩ y) ∧ Step R w h R (w.setCell ⟨l.blk, off, none⟩ y) (id :: wr) := by
  obtain ⟨l', cur, h1, h2, h3, h4, h5⟩ := hS.obj id _ hF ho
  rw [hl] at h1
  cases h1
  have hb : Blk w l.blk ⟨cur⟩ t := h5
  have hb2 := hb.set off y
  refine hS.write (o' := .cells (cs.set off x) t) hF ho rfl rfl hl wr ⟨l, cur.set off y, hl, h2, h3, h4.set hxy, ?_⟩ ((Kp.refl _ w).set1 off y)
  have : (⟨cur⟩ : Array Value).setIfInBounds off y = ⟨cur.set off y⟩ := by
    apply Array.ext'
    simp
  rw [this] at hb2
  exact hb2

theorem evExt_ok {X : ExtT} (hX : ExtOk P X) {f : FuncId} {args : List Value} {s s' : St} {v : Value} (h : evExt X f args s = some (v, s')) :
    ARun s s' ∧ ∀ (F : Nat → Prop) (R : Ren) (w : World) (avs : List Value), (∀ id ∈ s'.rd, F id) → (∀ id ∈ s'.wr, F id) → Sat P G F R s.h w → (∀ R', R.le R' → ∀ q ∈ s'.ob, q R') → VRs R args avs →
      ∃ v' w', (callFunc f ⟨avs⟩).run P w = .ok (.value v') w' ∧ VR R v v' ∧ Sat P G F R s'.h w' ∧ Step R w s.h R w' s'.wr := by
  unfold evExt at h
  split at h
  · rename_i k id off hk
    obtain ⟨fn, e1, e2, e3, e4, e5⟩ := hX _ (ExtT.look_mem hk)
    split at h
    · rename_i cs t ho
      split at h
      · rename_i k' n hc
        split at h
        · rename_i hkk
          simp only [decide_eq_true_eq] at hkk
          subst hkk
          simp only [Option.some.injEq, Prod.mk.injEq] at h
          obtain ⟨rfl, rfl⟩ := h
          refine ⟨ARun.look s id, fun F R w avs hrd hwr hS _ hargs => ?_⟩
          obtain ⟨y, ys, ⟨l, hl, rfl⟩, hnil, rfl⟩ := hargs
          simp only [VRs] at hnil
          subst hnil
          obtain ⟨l', cur, h1, h2, h3, h4, h5⟩ := hS.obj id _ (hrd id (by simp [St.look])) ho
          rw [hl] at h1
          cases h1
          obtain ⟨u, hu, hv⟩ := h4.get hc
          have hv : u = .int k' n := hv
          subst hv
          refine ⟨_, w, run_call_load e1 e2 e3 e4 k' e5 (a := ⟨l.blk, l.off + off, none⟩) (x := n) (by simp [World.cell?, h5, h2, hu]), rfl, hS, Step.refl _ _ _ _⟩
        · cases h
      · cases h
    · cases h
  · rename_i k id off k' y hk
    obtain ⟨fn, e1, e2, e3, e4, e5⟩ := hX _ (ExtT.look_mem hk)
    split at h
    · rename_i cs t ho
      split at h
      · rename_i hlt
        have hlt : off < cs.length := Nat.le_of_ble_eq_true hlt
        simp only [Option.some.injEq, Prod.mk.injEq] at h
        obtain ⟨rfl, rfl⟩ := h
        refine ⟨ARun.put _ ho rfl, fun F R w avs hrd hwr hS _ hargs => ?_⟩
        obtain ⟨y1, ys, ⟨l, hl, rfl⟩, ⟨y2, ys2, hy2, hnil, rfl⟩, rfl⟩ := hargs
        simp only [VRs] at hnil
        subst hnil
        have hy2 : y2 = .int k' y := hy2
        subst hy2
        have hF : F id := hwr id (by simp [St.put])
        obtain ⟨l', cur, h1, h2, h3, h4, h5⟩ := hS.obj id _ hF ho
        rw [hl] at h1
        cases h1
        obtain ⟨u, hu, hv⟩ := h4.get (j := off) (a := cs[off]) (by simp [hlt])
        obtain ⟨g1, g2⟩ := set_cell (off := off) (x := .int k' y) (y := .int k' y) hS hF ho rfl s.wr hl
        have hadd : l.off + off = off := by rw [h2, Nat.zero_add]
        refine ⟨_, _, run_call_store e1 e2 e3 e4 e5 (a := ⟨l.blk, l.off + off, none⟩) (k := k') (y := y) (u := u) (by simp [World.cell?, h5, h2, hu]) (by simp [World.frozen?, h5]), (VR.flat rfl).2 rfl, ?_, ?_⟩ <;> simp only [hadd]
        · exact g1
        · exact g2
      · cases h
    · cases h
  · rename_i k id off k' y hk
    obtain ⟨fn, e1, e2, e3, e4, e5⟩ := hX _ (ExtT.look_mem hk)
    split at h
    · rename_i cs t ho
      split at h
      · rename_i k'' x hc
        split at h
        · rename_i hkk
          simp only [Bool.and_eq_true, decide_eq_true_eq] at hkk
          obtain ⟨ek1, ek2⟩ := hkk
          subst ek1
          subst ek2
          simp only [Option.some.injEq, Prod.mk.injEq] at h
          obtain ⟨rfl, rfl⟩ := h
          refine ⟨ARun.put _ ho rfl, fun F R w avs hrd hwr hS _ hargs => ?_⟩
          obtain ⟨y1, ys, ⟨l, hl, rfl⟩, ⟨y2, ys2, hy2, hnil, rfl⟩, rfl⟩ := hargs
          simp only [VRs] at hnil
          subst hnil
          have hy2 : y2 = .int _ y := hy2
          subst hy2
          have hF : F id := hwr id (by simp [St.put])
          obtain ⟨l', cur, h1, h2, h3, h4, h5⟩ := hS.obj id _ hF ho
          rw [hl] at h1
          cases h1
          obtain ⟨u, hu, hv⟩ := h4.get hc
          have hv : u = .int _ x := hv
          subst hv
          obtain ⟨g1, g2⟩ := set_cell (off := off) (x := .int k'' (k''.wrap (x + y))) (y := .int k'' (k''.wrap (x + y))) hS hF ho rfl s.wr hl
          have hadd : l.off + off = off := by rw [h2, Nat.zero_add]
          refine ⟨_, _, run_call_add e1 e2 e3 e4 k'' e5 (a := ⟨l.blk, l.off + off, none⟩) (x := x) (y := y) (s := k''.wrap (x + y)) (by simp [World.cell?, h5, h2, hu]) (by simp [World.frozen?, h5]) (by simp [Op.intArith]), rfl, ?_, ?_⟩ <;> simp only [hadd]
          · exact g1
          · exact g2
        · cases h
      · cases h
    · cases h
  · rename_i k id off k1 o k2 y hk
    obtain ⟨fn, e1, e2, e3, e4, e5⟩ := hX _ (ExtT.look_mem hk)
    split at h
    · rename_i cs t ho
      split at h
      · rename_i k3 x hc
        split at h
        · rename_i hkk
          simp only [Bool.and_eq_true, decide_eq_true_eq] at hkk
          obtain ⟨⟨ek1, ek2⟩, ek3⟩ := hkk
          subst ek1
          subst ek2
          subst ek3
          split at h
          · cases h
          · rename_i s1 hask
            obtain ⟨q1, q2, q3, q4, q5, q6⟩ := askB_ok hask
            simp only [Option.some.injEq, Prod.mk.injEq] at h
            obtain ⟨rfl, rfl⟩ := h
            have ho1 : s1.h.get id = some (.cells cs t) := by rw [q2]; exact ho
            refine ⟨q1.trans (ARun.put _ ho1 rfl), fun F R w avs hrd hwr hS hob hargs => ?_⟩
            have hb := q6 R (fun q hq => hob R (.refl R) q hq)
            obtain ⟨y1, ys, ⟨l, hl, rfl⟩, ⟨y2, ys2, hy2, ⟨y3, ys3, hy3, hnil, rfl⟩, rfl⟩, rfl⟩ := hargs
            simp only [VRs] at hnil
            subst hnil
            have hy2 : y2 = .int _ o := hy2
            have hy3 : y3 = .int _ y := hy3
            subst hy2
            subst hy3
            have hF : F id := hwr id (by simp [St.put])
            obtain ⟨l', cur, h1, h2, h3, h4, h5⟩ := hS.obj id _ hF ho
            rw [hl] at h1
            cases h1
            obtain ⟨u, hu, hv⟩ := h4.get hc
            have hv : u = .int _ x := hv
            subst hv
            have hxo : x = o := by simpa using hb
            subst hxo
            obtain ⟨g1, g2⟩ := set_cell (off := off) (x := .int k3 y) (y := .int k3 y) hS hF ho rfl s.wr hl
            have hadd : l.off + off = off := by rw [h2, Nat.zero_add]
            refine ⟨_, _, run_call_cas_hit e1 e2 e3 e4 k3 e5 (a := ⟨l.blk, l.off + off, none⟩) (x := x) (y := y) (by simp [World.cell?, h5, h2, hu]) (by simp [World.frozen?, h5]), rfl, ?_, ?_⟩ <;> simp only [hadd, St.put, q2, q4]
            · exact g1
            · exact g2
          · rename_i s1 hask
            obtain ⟨q1, q2, q3, q4, q5, q6⟩ := askB_ok hask
            simp only [Option.some.injEq, Prod.mk.injEq] at h
            obtain ⟨rfl, rfl⟩ := h
            refine ⟨q1.trans (ARun.look s1 id), fun F R w avs hrd hwr hS hob hargs => ?_⟩
            have hb := q6 R (fun q hq => hob R (.refl R) q hq)
            obtain ⟨y1, ys, ⟨l, hl, rfl⟩, ⟨y2, ys2, hy2, ⟨y3, ys3, hy3, hnil, rfl⟩, rfl⟩, rfl⟩ := hargs
            simp only [VRs] at hnil
            subst hnil
            have hy2 : y2 = .int _ o := hy2
            have hy3 : y3 = .int _ y := hy3
            subst hy2
            subst hy3
            obtain ⟨l', cur, h1, h2, h3, h4, h5⟩ := hS.obj id _ (hrd id (by simp [St.look])) ho
            rw [hl] at h1
            cases h1
            obtain ⟨u, hu, hv⟩ := h4.get hc
            have hv : u = .int _ x := hv
            subst hv
            have hxo : ¬ x = o := by simpa using hb
            refine ⟨_, w, run_call_cas_miss e1 e2 e3 e4 k3 e5 (a := ⟨l.blk, l.off + off, none⟩) (x := x) (o := o) (y := y) (by simp [World.cell?, h5, h2, hu]) (by simp [World.frozen?, h5]) hxo, rfl, ?_, Step.refl _ _ _ _⟩
            simp only [St.look, q2]
            exact hS
        · cases h
      · cases h
    · cases h
  · cases h
end
end Go.Proofs.Ytahopbjoaoiknaa
