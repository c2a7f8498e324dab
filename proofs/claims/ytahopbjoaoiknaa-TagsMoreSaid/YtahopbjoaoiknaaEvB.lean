/- An evaluator over named blocks: a literal of no elements, ranges over strings, bytes to string, other addresses, clear. Nothing of the program stands here. -/
import Derived.Test.YtahopbjoaoiknaaEvA
import Derived.LaidEqlPtr
import Derived.Laws.RangeString
import Derived.Lib.OthersKept
import Derived.Laws.IdiomStrings
namespace Go.Proofs.Ytahopbjoaoiknaa
set_option linter.unusedVariables false
set_option linter.unusedSimpArgs false
open Go.RowKit

def evBuild0 (P : Program) (t : TypeId) (s : St) : Option (Value × St) :=
  match P.underlying t with
  | some (.slice e) => match P.info? e with
    | none => none
    | some _ => match s.mk' (.cells [] e) with
      | none => none
      | some (id, s') => some (.slice (some ⟨id, 0, none⟩) 0 0, s')
  | _ => none

def evRange (P : Program) (t : TypeId) (x : Value) (s : St) : Option (Value × St) :=
  match P.underlying t, x with
  | some .string, .string b => match s.mk' (.str b 0) with
    | none => none
    | some (id, s') => some (ptrTo id, s')
  | _, _ => none

def evNext (x : Value) (isString : Bool) (s : St) : Option (Value × St) :=
  match x, isString with
  | .pointer (some ⟨id, 0, none⟩), true => match s.h.get id with
    | some (.str b pos) => match Nat.blt pos b.size with
      | true => some (.tuple ⟨[.bool true, .int .i64 pos, .int .i32 (Utf8.decode b pos).1]⟩, s.put id (.str b (pos + (Utf8.decode b pos).2)))
      | false => some (.tuple ⟨[.bool false]⟩, s.look id)
    | _ => none
  | _, _ => none

/-- Bytes out of cells. -/
def bytesOf : List Value → Option (List UInt8)
  | [] => some []
  | .int .u8 (.ofNat n) :: l => match Nat.blt n 256 with
    | true => (bytesOf l).map (UInt8.ofNat n :: ·)
    | false => none
  | _ :: _ => none
def evConvS (P : Program) (src dst : TypeId) (x : Value) (s : St) : Option (Value × St) :=
  match P.underlying src, P.underlying dst, x with
  | some (.slice e), some .string, .slice (some ⟨id, off, none⟩) n _ => match P.underlying e with
    | some (.int .u8) => match rowAt s id with
      | none => none
      | some (cs, s1) => match Nat.ble (off + n) cs.length with
        | false => none
        | true => match bytesOf ((cs.drop off).take n) with
          | none => none
          | some l => some (.string ⟨⟨l⟩⟩, s1)
    | _ => none
  | some (.slice e), some .string, .slice none 0 _ => match P.underlying e with
    | some (.int .u8) => some (.string ⟨⟨[]⟩⟩, s)
    | _ => none
  | _, _, _ => none

def AObj.isRow : AObj → Bool
  | .cells _ _ => true
  | .loose _ _ => true
  | _ => false
/-- Another address. -/
def evOther (P : Program) (op : BinOp) (t : TypeId) (x y : Value) (s : St) : Option (Value × St) :=
  match x, y with
  | .pointer (some ⟨i, a, none⟩), .pointer (some ⟨j, b, none⟩) => match P.underlying t with
    | some (.pointer e) => match P.info? e with
      | none => none
      | some ie => match s.h.get i, s.h.get j with
        | some oi, some oj => match oi.isRow && oj.isRow && !(Nat.beq i j) && !(Nat.beq ie.size 0) with
          | false => none
          | true => match op with
            | .eql => some (.bool false, (s.look i).look j)
            | .neq => some (.bool true, (s.look i).look j)
            | _ => none
        | _, _ => none
    | _ => none
  | _, _ => none

section
variable {P : Program} {G : Gd}

theorem evBuild0_ok {dst : Option Tmp} {t ty : TypeId} {pos : String} {after : Array Edge} {gd : Option (Nat × Bool)} {ρ : Operand → Value} {s s' : St} {v : Value}
    (h : evBuild0 P t s = some (v, s')) : OpS P G ⟨dst, .buildSlice t 0 #[], ty, pos, after, gd⟩ ρ s v s' := by
  unfold evBuild0 at h
  split at h
  · rename_i e hu
    split at h
    · cases h
    rename_i ie hie
    split at h
    · cases h
    rename_i id s1 hm
    simp only [Option.some.injEq, Prod.mk.injEq] at h
    obtain ⟨rfl, rfl⟩ := h
    refine ⟨ARun.mk' hm, fun F R w a hrd hwr hS _ hop K Q hK => ?_⟩
    obtain ⟨R', g1, g2, g3⟩ := new_cells hm hwr hS (cs := []) (cur := []) rfl
    refine wp_value (v := .slice (some ⟨w.heap.size, 0, none⟩) 0 0) (w' := w.alloc (.cells ⟨[]⟩ e)) ?_ (hK R' _ _ ⟨_, g1, by simp⟩ g2 g3)
    have hfill : ∀ z : Array Value, Instr.fill (fun i => some (i * ie.size, ie.size)) z [] = some z := fun _ => rfl
    have hr0 : Array.range 0 = #[] := rfl
    simp [execOp, Instr.buildSlice, run_underlying hu, sizeOf, typeInfo, hie, newRow, hfill, hr0]
  · cases h

theorem evRange_ok {dst : Option Tmp} {t ty : TypeId} {x : Operand} {pos : String} {after : Array Edge} {gd : Option (Nat × Bool)} {ρ : Operand → Value} {s s' : St} {v : Value}
    (h : evRange P t (ρ x) s = some (v, s')) : OpS P G ⟨dst, .range t x, ty, pos, after, gd⟩ ρ s v s' := by
  unfold evRange at h
  split at h
  · rename_i b hu hx
    split at h
    · cases h
    rename_i id s1 hm
    simp only [Option.some.injEq, Prod.mk.injEq] at h
    obtain ⟨rfl, rfl⟩ := h
    refine ⟨ARun.mk' hm, fun F R w a hrd hwr hS _ hop K Q hK => ?_⟩
    have hx' := hop x (by simp [Op.operands])
    rw [hx] at hx'
    have hx' : a.eval x = .string b := hx'
    obtain ⟨rfl, hn, rfl⟩ := St.mk'_eq hm
    obtain ⟨_, h1, h2⟩ := hS.new (o := .str b 0) (ob := .stringIter b 0) (ext := 0) (hwr _ (by simp)) hn s.wr ⟨⟨w.heap.size, 0, 0, undef⟩, Ren.upd_same _ _ _, rfl, heap_alloc_new w _⟩
    refine wp_value (v := .pointer (some ⟨w.heap.size, 0, none⟩)) (w' := w.alloc (.stringIter b 0)) ?_ (hK _ _ _ (VR_ptr (Ren.upd_same _ _ _)) h1 h2)
    simp [execOp, hx', Instr.range, run_underlying hu]
  · cases h

theorem evNext_ok {dst : Option Tmp} {ty : TypeId} {x : Operand} {b : Bool} {pos : String} {after : Array Edge} {gd : Option (Nat × Bool)} {ρ : Operand → Value} {s s' : St} {v : Value}
    (h : evNext (ρ x) b s = some (v, s')) : OpS P G ⟨dst, .next x b, ty, pos, after, gd⟩ ρ s v s' := by
  unfold evNext at h
  split at h
  · rename_i id hx
    split at h
    · rename_i str p ho
      split at h
      · rename_i hlt
        have hlt : p < str.size := Nat.le_of_ble_eq_true hlt
        simp only [Option.some.injEq, Prod.mk.injEq] at h
        obtain ⟨rfl, rfl⟩ := h
        refine ⟨ARun.put _ ho rfl, fun F R w a hrd hwr hS _ hop K Q hK => ?_⟩
        have hx' := hop x (by simp [Op.operands])
        rw [hx] at hx'
        obtain ⟨l, hl, hae⟩ := hx'
        have hF : F id := hwr id (by simp [St.put])
        obtain ⟨l', h1, h2, h3⟩ := hS.obj id _ hF ho
        simp only at hl
        rw [hl] at h1
        cases h1
        have hrun := Lib.run_next_any_at (P := P) w l.blk str p ty h3 hlt
        have hsz : l.blk < w.heap.size := (Array.getElem?_eq_some_iff.1 h3).1
        obtain ⟨g1, g2⟩ := hS.write (o' := .str str (p + (Utf8.decode str p).2)) hF ho rfl rfl hl s.wr ⟨l, hl, h2, Lib.iterAt_heap w l.blk str p _ h3⟩
          (w' := w.iterAt l.blk str (p + (Utf8.decode str p).2)) ⟨rfl, rfl, rfl, by rw [Lib.iterAt_size]; exact Nat.le_refl _, fun i hi hne => Lib.iterAt_other w l.blk i str _ hne⟩
        refine wp_value (v := .tuple #[.bool true, .int .i64 p, .int .i32 (Utf8.decode str p).1]) (w' := w.iterAt l.blk str (p + (Utf8.decode str p).2)) ?_ (hK R _ _ ((VR.flat rfl).2 rfl) g1 g2)
        have e0 : a.eval x = .pointer (some ⟨l.blk, 0, none⟩) := by rw [hae]; simp [h2]
        simp only [execOp, e0, Sem.run_bind, hrun, Result.andThen_ok]
        rfl
      · rename_i hlt
        have hlt : ¬ p < str.size := fun hc => by
          have : Nat.blt p str.size = true := Nat.ble_eq_true_of_le hc
          rw [this] at hlt
          cases hlt
        simp only [Option.some.injEq, Prod.mk.injEq] at h
        obtain ⟨rfl, rfl⟩ := h
        refine ⟨ARun.look s id, fun F R w a hrd hwr hS _ hop K Q hK => ?_⟩
        have hx' := hop x (by simp [Op.operands])
        rw [hx] at hx'
        obtain ⟨l, hl, hae⟩ := hx'
        obtain ⟨l', h1, h2, h3⟩ := hS.obj id _ (hrd id (by simp [St.look])) ho
        simp only at hl
        rw [hl] at h1
        cases h1
        have hrun := Lib.run_next_end_at (P := P) w l.blk str p ty h3 hlt
        refine wp_value (v := .tuple #[.bool false]) (w' := w) ?_ (hK R _ _ ((VR.flat rfl).2 rfl) hS (Step.refl _ _ _ _))
        have e0 : a.eval x = .pointer (some ⟨l.blk, 0, none⟩) := by rw [hae]; simp [h2]
        simp only [execOp, e0, Sem.run_bind, hrun, Result.andThen_ok]
        rfl
    · cases h
  · cases h

theorem bytesOf_ok {R : Ren} : ∀ {cs : List Value} {l : List UInt8}, bytesOf cs = some l → l.length = cs.length ∧ ∀ (j : Nat) (hj : j < l.length), cs[j]? = some (.int .u8 (l[j].toNat : Int))
  | [], l, h => by simp only [bytesOf, Option.some.injEq] at h; subst h; exact ⟨rfl, fun j hj => by simp at hj⟩
  | c :: cs, l, h => by
    unfold bytesOf at h
    split at h
    · rename_i l0 heq
      cases heq
    · rename_i n l0 heq
      simp only [List.cons.injEq] at heq
      obtain ⟨rfl, rfl⟩ := heq
      split at h
      · rename_i hn
        have hn : n < 256 := Nat.le_of_ble_eq_true hn
        cases hb : bytesOf cs with
        | none => rw [hb] at h; cases h
        | some l1 =>
          rw [hb] at h
          simp only [Option.map_some, Option.some.injEq] at h
          subst h
          obtain ⟨h1, h2⟩ := bytesOf_ok (R := R) hb
          refine ⟨by simp [h1], fun j hj => ?_⟩
          cases j with
          | zero =>
            simp only [List.getElem?_cons_zero, List.getElem_cons_zero, Option.some.injEq, Value.int.injEq, true_and]
            have : (UInt8.ofNat n).toNat = n := by simp; omega
            rw [this]
            rfl
          | succ j => simpa using h2 j (by simpa using hj)
      · cases h
    · cases h

theorem evConvS_ok {dst0 : Option Tmp} {src dst ty : TypeId} {x : Operand} {pos : String} {after : Array Edge} {gd : Option (Nat × Bool)} {ρ : Operand → Value} {s s' : St} {v : Value}
    (h : evConvS P src dst (ρ x) s = some (v, s')) : OpS P G ⟨dst0, .convert src dst x, ty, pos, after, gd⟩ ρ s v s' := by
  unfold evConvS at h
  split at h
  · rename_i e id off n c hs hd hx
    split at h
    · rename_i he
      split at h
      · cases h
      rename_i cs s3 hrow
      split at h
      · cases h
      rename_i hle
      have hle := Nat.le_of_ble_eq_true hle
      split at h
      · cases h
      rename_i l hl
      simp only [Option.some.injEq, Prod.mk.injEq] at h
      obtain ⟨rfl, rfl⟩ := h
      obtain ⟨r1, r2, r3, r4, r5, r6, r7⟩ := rowAt_ok (P := P) (G := G) hrow
      refine ⟨r1, fun F R w a hrd hwr hS _ hop K Q hK => ?_⟩
      obtain ⟨L, hL, hc⟩ := r7 F R w hrd hS
      have hx' := hop x (by simp [Op.operands])
      rw [hx] at hx'
      obtain ⟨L', hL', hae⟩ := hx'
      simp only at hL'
      rw [hL] at hL'
      cases hL'
      obtain ⟨k1, k2⟩ := bytesOf_ok (R := R) hl
      have hln : l.length = n := by rw [k1, List.length_take, List.length_drop]; omega
      have hrun := run_convert_bytes_back (P := P) w src dst e ⟨L.blk, L.off + off, none⟩ (c + L.ext) l hs he hd (fun j hj => by
        have h2 := k2 j hj
        rw [List.getElem?_take_of_lt (by omega), List.getElem?_drop] at h2
        obtain ⟨u, hu, hcu⟩ := hc (off + j) _ h2
        have hu : u = .int .u8 (l[j].toNat : Int) := hu
        rw [add_addr]
        rw [hu, ← Nat.add_assoc] at hcu
        exact hcu)
      rw [hln] at hrun
      refine wp_value (v := .string ⟨l.toArray⟩) (w' := w) ?_ (hK R _ _ rfl (by rw [r2]; exact hS) (Step.refl _ _ _ _))
      simp only [execOp, hae, Sem.run_bind, hrun, Result.andThen_ok]
      rfl
    · cases h
  · rename_i e c hs hd hx
    split at h
    · rename_i he
      simp only [Option.some.injEq, Prod.mk.injEq] at h
      obtain ⟨rfl, rfl⟩ := h
      refine .pure fun R w a hop => ⟨.string ⟨#[]⟩, ?_, rfl⟩
      have hx' := hop x (by simp [Op.operands])
      rw [hx] at hx'
      have hx' : a.eval x = .slice none 0 c := hx'
      have hrun := run_convert_bytes_nil (P := P) w src e hs he 0 c dst hd
      simp only [execOp, hx', Sem.run_bind, hrun, Result.andThen_ok]
      rfl
    · cases h
  · cases h

theorem SatObj.isRow {R : Ren} {w : World} {id : Nat} {o : AObj} (h : SatObj P R w id o) (he : o.isRow = true) : ∃ l cur t, R id = some l ∧ w.heap[l.blk]? = some (.cells cur t (0, 0)) ∧ l.off = 0 := by
  cases o with
  | cells cs t => obtain ⟨l, cur, h1, h2, h3, h4, h5⟩ := h; exact ⟨l, _, _, h1, h5, h2⟩
  | loose cs t => obtain ⟨l, cur, i, n, h1, h2, h3, h4, _⟩ := h; exact ⟨l, _, _, h1, h4, h2⟩
  | _ => cases he
theorem AObj.isRow_own {o : AObj} (h : o.isRow = true) : o.own = true := by cases o <;> first | rfl | cases h

theorem evOther_ok {dst : Option Tmp} {op : BinOp} {t ty yt : TypeId} {x y : Operand} {pos : String} {after : Array Edge} {gd : Option (Nat × Bool)} {ρ : Operand → Value} {s s' : St} {v : Value}
    (h : evOther P op t (ρ x) (ρ y) s = some (v, s')) : OpS P G ⟨dst, .binOp op t x y yt, ty, pos, after, gd⟩ ρ s v s' := by
  unfold evOther at h
  split at h
  · rename_i i a j b hx hy
    split at h
    · rename_i e hu
      split at h
      · cases h
      rename_i ie hi
      split at h
      · rename_i oi oj ho1 ho2
        split at h
        · cases h
        rename_i hb
        simp only [Bool.and_eq_true] at hb
        obtain ⟨⟨⟨r1, r2⟩, h2⟩, h3⟩ := hb
        have h3 : ie.size ≠ 0 := fun e => by simp [e] at h3
        have h2 : i ≠ j := fun e => by simp [e] at h2
        have key : ∀ (F : Nat → Prop) (R : Ren) (w : World) (A : Act), F i → F j → Sat P G F R s.h w → VR R (ρ x) (A.eval x) → VR R (ρ y) (A.eval y) → (∀ d, (Op.equalIn (d + 1) t (A.eval x) (A.eval y)).run P w = .ok false w) ∧ (∀ op, (eqGuard op t x y (A.eval x) (A.eval y)).run P w = .ok () w) ∧
            binOp .eql t (A.eval x) (A.eval y) = (do pure (.bool (← Op.equal t (A.eval x) (A.eval y)))) ∧ binOp .neq t (A.eval x) (A.eval y) = (do pure (.bool (!(← Op.equal t (A.eval x) (A.eval y))))) := by
          intro F R w A f1 f2 hS g1 g2
          rw [hx] at g1
          rw [hy] at g2
          obtain ⟨l, q1, q2⟩ := g1
          obtain ⟨l', q3, q4⟩ := g2
          simp only at q1 q3
          obtain ⟨l1, c1, t1, p1, p2, p3⟩ := (hS.obj i oi f1 ho1).isRow r1
          obtain ⟨l2, c2, t2, p4, p5, p6⟩ := (hS.obj j oj f2 ho2).isRow r2
          rw [q1] at p1
          rw [q3] at p4
          cases p1
          cases p4
          have hbl := hS.inj i j oi oj l l' f1 f2 h2 ho1 ho2 (AObj.own_live (AObj.isRow_own r1)) (AObj.own_live (AObj.isRow_own r2)) (.inl (AObj.isRow_own r1)) q1 q3
          rw [q2, q4]
          have hne : (⟨l.blk, l.off + a, none⟩ : Addr) ≠ ⟨l'.blk, l'.off + b, none⟩ := fun e => hbl (congrArg Addr.block e)
          exact ⟨fun d => by simp [Op.equalIn, run_underlying hu, run_sizeOf' hi, h3, run_sameAddr_other w hne p2 p5], fun op => by cases op <;> simp [eqGuard], rfl, rfl⟩
        have fin : ∀ b, (op = .eql ∧ b = false) ∨ (op = .neq ∧ b = true) → OpS P G ⟨dst, .binOp op t x y yt, ty, pos, after, gd⟩ ρ s (.bool b) ((s.look i).look j) := by
          intro b hb
          refine ⟨(ARun.look s i).trans (ARun.look _ j), fun F R w A hrd hwr hS _ hop K Q hK => wp_value (v := .bool b) (w' := w) ?_ (hK R _ _ rfl hS (Step.refl _ _ _ _))⟩
          obtain ⟨k1, k2, k3, k4⟩ := key F R w A (hrd i (by simp [St.look])) (hrd j (by simp [St.look])) hS (hop x (by simp [Op.operands])) (hop y (by simp [Op.operands]))
          have k1' : (Op.equal t (A.eval x) (A.eval y)).run P w = .ok false w := k1 9999
          rcases hb with ⟨rfl, rfl⟩ | ⟨rfl, rfl⟩
          · simp only [execOp, Sem.run_bind, k2, Result.andThen_ok]
            rw [k3]
            simp [k1']
          · simp only [execOp, Sem.run_bind, k2, Result.andThen_ok]
            rw [k4]
            simp [k1']
        split at h
        · simp only [Option.some.injEq, Prod.mk.injEq] at h
          obtain ⟨rfl, rfl⟩ := h
          exact fin _ (.inl ⟨rfl, rfl⟩)
        · simp only [Option.some.injEq, Prod.mk.injEq] at h
          obtain ⟨rfl, rfl⟩ := h
          exact fin _ (.inr ⟨rfl, rfl⟩)
        · cases h
      · cases h
    · cases h
  · cases h
end
end Go.Proofs.Ytahopbjoaoiknaa
