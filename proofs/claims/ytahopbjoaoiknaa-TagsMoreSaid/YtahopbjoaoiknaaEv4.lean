/- An evaluator over named blocks: stores, new blocks, addresses, parts. Nothing of the program stands here. -/
import Derived.Test.YtahopbjoaoiknaaEv3
namespace Go.Proofs.Ytahopbjoaoiknaa
set_option linter.unusedVariables false
set_option linter.unusedSimpArgs false
open Go.RowKit

theorem splice_take {cur vs : List Value} {off n N : Nat} (hn : vs.length = n) (h : off + n ≤ N) (hN : N ≤ cur.length) :
    (cur.take off ++ vs ++ cur.drop (off + n)).take N = (cur.take N).take off ++ vs ++ (cur.take N).drop (off + n) := by
  rw [List.append_assoc, List.append_assoc, List.take_append, List.take_append]
  simp only [List.length_take, hn]
  rw [List.take_take, List.take_take, show min N off = min off N from Nat.min_comm _ _, show min off cur.length = off by omega, List.take_of_length_le (l := vs) (by omega), List.drop_take]
  rw [show N - off - n = N - (off + n) by omega]

def splice (cs vs : List Value) (off : Nat) : List Value := cs.take off ++ vs ++ cs.drop (off + vs.length)

def evStore (P : Program) (t : TypeId) (x y : Value) (s : St) : Option (Value × St) :=
  match x with
  | .pointer (some ⟨id, off, none⟩) =>
    match P.info? t with
    | none => none
    | some i => match Nat.beq y.cells.toList.length i.size && y.cells.toList.all (·.oneCell') with
      | false => none
      | true => match s.h.get id with
        | some (.cells cs e) => match Nat.ble (off + y.cells.toList.length) cs.length with
          | true => some (undef, s.put id (.cells (splice cs y.cells.toList off) e))
          | false => none
        | some (.loose cs e) => match Nat.ble (off + y.cells.toList.length) cs.length with
          | true => some (undef, s.put id (.loose (splice cs y.cells.toList off) e))
          | false => none
        | _ => none
  | _ => none

section
variable {P : Program} {G : Gd}

theorem splice_len {cs vs : List Value} {off : Nat} (h : off + vs.length ≤ cs.length) : (splice cs vs off).length = cs.length := by
  unfold splice; simp; omega
theorem VRs.splice {R : Ren} {cs cur vs us : List Value} (h : VRs R cs cur) (k : VRs R vs us) (off : Nat) : VRs R (splice cs vs off) (cur.take off ++ us ++ cur.drop (off + vs.length)) :=
  ((h.take off).append k).append (h.drop _)

theorem evStore_ok {dst : Option Tmp} {t : TypeId} {ad vl : Operand} {ty : TypeId} {pos : String} {after : Array Edge} {gd : Option (Nat × Bool)} {ρ : Operand → Value} {s s' : St} {v : Value}
    (h : evStore P t (ρ ad) (ρ vl) s = some (v, s')) : OpS P G ⟨dst, .store t ad vl, ty, pos, after, gd⟩ ρ s v s' := by
  unfold evStore at h
  split at h
  · rename_i id off hx
    split at h
    · cases h
    rename_i i hi
    split at h
    · cases h
    rename_i hsz
    rw [Bool.and_eq_true] at hsz
    obtain ⟨hsz, hone⟩ := hsz
    have hsz := Nat.eq_of_beq_eq_true hsz
    -- what stands at the run
    have hrun : ∀ (R : Ren) (w : World) (a : Act) (l : Loc) (e : TypeId) (cur : List Value), VR R (ρ ad) (a.eval ad) → VR R (ρ vl) (a.eval vl) → R id = some l → l.off = 0 → w.heap[l.blk]? = some (.cells ⟨cur⟩ e (0, 0)) → off + (ρ vl).cells.toList.length ≤ cur.length →
        (execOp a.eval ⟨dst, .store t ad vl, ty, pos, after, gd⟩).run P w = .ok .skip (w.setRow l.blk (cur.take off ++ (a.eval vl).cells.toList ++ cur.drop (off + (ρ vl).cells.toList.length)).toArray) := by
      intro R w a l e cur ha hv hl hl0 hg hle
      rw [hx] at ha
      obtain ⟨l', hl', hae⟩ := ha
      rw [hl] at hl'
      cases hl'
      have hc := hv.cells
      have hlen := hc.length
      have hone' : ∀ u ∈ (a.eval vl).cells.toList, u.oneCell' = true := by
        have := hc.one
        rw [hone] at this
        exact fun u hu => List.all_eq_true.1 this u hu
      have hst := run_storeCells_at (P := P) l.blk off e (a.eval vl).cells.toList 0 ⟨cur⟩ w hg (by simp only [List.size_toArray]; omega) hone'
      simp only [Nat.add_zero] at hst
      rw [hlen] at hst
      simp only [execOp, hae, Instr.storeAt, Instr.sureAddr, storeVar, hl0, Nat.zero_add]
      have h1 : (a.eval vl).cells.size = i.size := by rw [← hsz, ← hlen]; simp
      simp [run_sizeOf' hi, h1, hst]
    split at h
    · rename_i cs e ho
      split at h
      · rename_i hle
        have hle := Nat.le_of_ble_eq_true hle
        simp only [Option.some.injEq, Prod.mk.injEq] at h
        obtain ⟨rfl, rfl⟩ := h
        refine ⟨ARun.put _ ho rfl, fun F R w a hrd hwr hS _ hop K Q hK => ?_⟩
        obtain ⟨l, cur, h1, h2, h3, h4, h5⟩ := hS.obj id _ (hwr id (by simp [St.put])) ho
        have hv := hop vl (by simp [Op.operands])
        have hr := hrun R w a l e cur (hop ad (by simp [Op.operands])) hv h1 h2 h5 (by rw [h4.length]; exact hle)
        have hkp : Kp (fun k => k = l.blk) w (w.setRow l.blk (cur.take off ++ (a.eval vl).cells.toList ++ cur.drop (off + (ρ vl).cells.toList.length)).toArray) := Kp.setRow (S := fun k => k = l.blk) (Kp.refl _ w) (fun _ => rfl) _
        obtain ⟨hS', hstep⟩ := hS.write (o' := .cells (splice cs (ρ vl).cells.toList off) e) (hwr id (by simp [St.put])) ho rfl rfl h1 s.wr ⟨l, _, h1, h2, h3, h4.splice hv.cells off, setRow_heap w _ _ _ _ _ h5⟩ hkp
        exact wp_skip' hr (hK R undef _ (VR_undef R) hS' hstep)
      · cases h
    · rename_i cs e ho
      split at h
      · rename_i hle
        have hle := Nat.le_of_ble_eq_true hle
        simp only [Option.some.injEq, Prod.mk.injEq] at h
        obtain ⟨rfl, rfl⟩ := h
        refine ⟨ARun.put _ ho rfl, fun F R w a hrd hwr hS _ hop K Q hK => ?_⟩
        obtain ⟨l, cur, i', n, h1, h2, h4, h5, h6, h7, h8, h9, h10⟩ := hS.obj id _ (hwr id (by simp [St.put])) ho
        have hv := hop vl (by simp [Op.operands])
        have hcl : cs.length ≤ cur.length := by rw [h8, h9]; exact Nat.mul_le_mul_right _ (by omega)
        have hr := hrun R w a l e cur (hop ad (by simp [Op.operands])) hv h1 h2 h5 (by omega)
        have hkp : Kp (fun k => k = l.blk) w (w.setRow l.blk (cur.take off ++ (a.eval vl).cells.toList ++ cur.drop (off + (ρ vl).cells.toList.length)).toArray) := Kp.setRow (S := fun k => k = l.blk) (Kp.refl _ w) (fun _ => rfl) _
        obtain ⟨hS', hstep⟩ := hS.write (o' := .loose (splice cs (ρ vl).cells.toList off) e) (hwr id (by simp [St.put])) ho rfl rfl h1 s.wr
          ⟨l, _, i', n, h1, h2, by
            rw [splice_len hle, splice_take hv.cells.length hle hcl]
            exact h4.splice hv.cells off, setRow_heap w _ _ _ _ _ h5, h6, h7, by rw [splice_len hle]; exact h8, by have hle2 := Nat.le_trans hle hcl; have hl2 := hv.cells.length; rw [← h9]; simp at hle2 hl2 ⊢; omega, h10⟩ hkp
        exact wp_skip' hr (hK R undef _ (VR_undef R) hS' hstep)
      · cases h
    · cases h
  · cases h

/-- A new row of cells. -/
theorem new_cells {F : Nat → Prop} {R : Ren} {w : World} {s s1 : St} {cs cur : List Value} {t : TypeId} {id : Nat} (hm : s.mk' (.cells cs t) = some (id, s1)) (hwr : ∀ id ∈ s1.wr, F id) (hS : Sat P G F R s.h w) (hc : VRs R cs cur) :
    ∃ R', R' id = some ⟨w.heap.size, 0, 0, undef⟩ ∧ Sat P G F R' s1.h (w.alloc (.cells ⟨cur⟩ t)) ∧ Step R w s.h R' (w.alloc (.cells ⟨cur⟩ t)) s1.wr := by
  obtain ⟨rfl, hn, rfl⟩ := St.mk'_eq hm
  have hF := hwr (2 * s.c) (by simp)
  have hr : R (2 * s.c) = none := by
    cases hr : R (2 * s.c) with
    | none => rfl
    | some l =>
      rcases hS.dom _ l hF hr with hd | hd
      · rw [hn] at hd; cases hd
      · omega
  obtain ⟨_, h1, h2⟩ := hS.new (o := .cells cs t) (ob := .cells ⟨cur⟩ t) (ext := 0) hF hn s.wr ⟨⟨w.heap.size, 0, 0, undef⟩, cur, Ren.upd_same _ _ _, rfl, rfl, hc.mono (Ren.upd_le hr), heap_alloc_new w _⟩
  exact ⟨_, Ren.upd_same _ _ _, h1, h2⟩

def ptrTo (id : Nat) : Value := .pointer (some ⟨id, 0, none⟩)
theorem VR_ptr {R : Ren} {id b e : Nat} {u : Value} (h : R id = some ⟨b, 0, e, u⟩) : VR R (ptrTo id) (.pointer (some ⟨b, 0, none⟩)) := ⟨_, h, rfl⟩

def evAlloc (P : Program) (elem : TypeId) (s : St) : Option (Value × St) :=
  match P.info? elem with
  | none => none
  | some i => match i.zero with
    | none => none
    | some z => match flat z with
      | false => none
      | true => match s.mk' (.cells z.cells.toList elem) with
        | none => none
        | some (id, s') => some (ptrTo id, s')
theorem evAlloc_ok {dst : Option Tmp} {elem ty : TypeId} {pos : String} {after : Array Edge} {gd : Option (Nat × Bool)} {ρ : Operand → Value} {s s' : St} {v : Value}
    (h : evAlloc P elem s = some (v, s')) : OpS P G ⟨dst, .alloc elem, ty, pos, after, gd⟩ ρ s v s' := by
  unfold evAlloc at h
  split at h
  · cases h
  rename_i i hi
  split at h
  · cases h
  rename_i z hz
  split at h
  · cases h
  rename_i hf
  split at h
  · cases h
  rename_i id s1 hm
  simp only [Option.some.injEq, Prod.mk.injEq] at h
  obtain ⟨rfl, rfl⟩ := h
  refine ⟨ARun.mk' hm, fun F R w a hrd hwr hS _ hop K Q hK => ?_⟩
  have hzz : VR R z z := (VR.flat hf).2 rfl
  obtain ⟨R', h1, h2, h3⟩ := new_cells hm hwr hS hzz.cells
  refine wp_value (v := .pointer (some ⟨w.heap.size, 0, none⟩)) (w' := w.alloc (.cells ⟨z.cells.toList⟩ elem)) ?_ (hK R' _ _ (VR_ptr h1) h2 h3)
  simp [execOp, Instr.alloc, zeroValue, typeInfo, hi, hz, newVar, newRow]

def evBox (elem : TypeId) (x : Value) (s : St) : Option (Value × St) :=
  match s.mk' (.cells x.cells.toList elem) with
  | none => none
  | some (id, s') => some (ptrTo id, s')
theorem evBox_ok {dst : Option Tmp} {elem ty : TypeId} {x : Operand} {pos : String} {after : Array Edge} {gd : Option (Nat × Bool)} {ρ : Operand → Value} {s s' : St} {v : Value}
    (h : evBox elem (ρ x) s = some (v, s')) : OpS P G ⟨dst, .box elem x, ty, pos, after, gd⟩ ρ s v s' := by
  unfold evBox at h
  split at h
  · cases h
  rename_i id s1 hm
  simp only [Option.some.injEq, Prod.mk.injEq] at h
  obtain ⟨rfl, rfl⟩ := h
  refine ⟨ARun.mk' hm, fun F R w a hrd hwr hS _ hop K Q hK => ?_⟩
  obtain ⟨R', h1, h2, h3⟩ := new_cells hm hwr hS (hop x (by simp [Op.operands])).cells
  refine wp_value (v := .pointer (some ⟨w.heap.size, 0, none⟩)) (w' := w.alloc (.cells ⟨(a.eval x).cells.toList⟩ elem)) ?_ (hK R' _ _ (VR_ptr h1) h2 h3)
  simp [execOp, Instr.box, newVar, newRow]

/-- Nothing but a value. -/
theorem OpS.pure {o : Oper} {ρ : Operand → Value} {s : St} {v : Value} (h : ∀ (R : Ren) (w : World) (a : Act), (∀ x ∈ o.op.operands, VR R (ρ x) (a.eval x)) → ∃ v', (execOp a.eval o).run P w = .ok (.value v') w ∧ VR R v v') : OpS P G o ρ s v s :=
  ⟨ARun.refl s, fun F R w a hrd hwr hS _ hop K Q hK => by
    obtain ⟨v', h1, h2⟩ := h R w a hop
    exact wp_value h1 (hK R v' w h2 hS (Step.refl _ _ _ _))⟩

theorem evMove_ok {dst : Option Tmp} {ty : TypeId} {x : Operand} {pos : String} {after : Array Edge} {gd : Option (Nat × Bool)} {ρ : Operand → Value} {s : St} : OpS P G ⟨dst, .move x, ty, pos, after, gd⟩ ρ s (ρ x) s :=
  .pure fun R w a hop => ⟨a.eval x, by simp [execOp], hop x (by simp [Op.operands])⟩
theorem evAssign_ok {dst : Option Tmp} {ty : TypeId} {x : Operand} {pos : String} {after : Array Edge} {gd : Option (Nat × Bool)} {ρ : Operand → Value} {s : St} : OpS P G ⟨dst, .assign x, ty, pos, after, gd⟩ ρ s (ρ x) s :=
  .pure fun R w a hop => ⟨a.eval x, by simp [execOp], hop x (by simp [Op.operands])⟩
theorem evPtr_nilCheck {dst : Option Tmp} {ty : TypeId} {x : Operand} {ad : Addr} {pos : String} {after : Array Edge} {gd : Option (Nat × Bool)} {ρ : Operand → Value} {s : St} (h : ρ x = .pointer (some ad)) : OpS P G ⟨dst, .nilCheck x, ty, pos, after, gd⟩ ρ s (ρ x) s :=
  .pure fun R w a hop => ⟨a.eval x, by
    have hx := hop x (by simp [Op.operands])
    rw [h] at hx
    obtain ⟨l, h1, h2⟩ := hx
    simp [execOp, h2], hop x (by simp [Op.operands])⟩

def runP {α : Type} (P : Program) : Sem α → Option α
  | .pure a => some a
  | .program k => runP P (k P)
  | .mark _ k => runP P k
  | _ => none
theorem runP_run {α : Type} : ∀ (t : Sem α) (v : α), runP P t = some v → ∀ w, t.run P w = .ok v w
  | .pure a, v, h, w => by simp only [runP] at h; cases h; rfl
  | .program k, v, h, w => by simp only [runP] at h; exact runP_run (k P) v h w
  | .load _ _ _, _, h, _ => by simp [runP] at h
  | .store _ _ _ _, _, h, _ => by simp [runP] at h
  | .new _ _, _, h, _ => by simp [runP] at h
  | .shape _ _, _, h, _ => by simp [runP] at h
  | .freeze _ _ _, _, h, _ => by simp [runP] at h
  | .frozen _ _, _, h, _ => by simp [runP] at h
  | .getObj _ _, _, h, _ => by simp [runP] at h
  | .setObj _ _ _, _, h, _ => by simp [runP] at h
  | .choose _ _, _, h, _ => by simp [runP] at h
  | .sys _ _, _, h, _ => by simp [runP] at h
  | .mark m k, v, h, w => by simp only [runP] at h; exact runP_run k v h w
  | .halt _, _, h, _ => by simp [runP] at h

/-- What names no block is the model's own run. -/
def evFlat (P : Program) (ρ : Operand → Value) (o : Oper) (s : St) : Option (Value × St) :=
  match o.op.operands.toList.all fun x => flat (ρ x) with
  | false => none
  | true => match runP P (execOp ρ o) with
    | some (.value v) => match flat v with
      | true => some (v, s)
      | false => none
    | _ => none
theorem evFlat_ok {o : Oper} {ρ : Operand → Value} {s s' : St} {v : Value} (hs : ∀ cs b, o.op ≠ .select cs b) (h : evFlat P ρ o s = some (v, s')) : OpS P G o ρ s v s' := by
  unfold evFlat at h
  split at h
  · cases h
  rename_i hf
  split at h
  · rename_i v0 hv
    split at h
    · rename_i hfv
      simp only [Option.some.injEq, Prod.mk.injEq] at h
      obtain ⟨rfl, rfl⟩ := h
      refine .pure fun R w a hop => ⟨_, ?_, (VR.flat hfv).2 rfl⟩
      have he : ∀ x ∈ o.op.operands, a.eval x = ρ x := fun x hx => (VR.flat (List.all_eq_true.1 hf x (by simpa using hx))).1 (hop x hx)
      rw [execOp_congr o hs he]
      exact runP_run _ _ hv w
    · cases h
  · cases h
end
end Go.Proofs.Ytahopbjoaoiknaa
