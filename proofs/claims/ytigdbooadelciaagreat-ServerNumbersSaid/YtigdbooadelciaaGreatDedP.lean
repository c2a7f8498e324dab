/- The walks of package dedup: each method by its contract. -/
import Derived.Test.YtigdbooadelciaaGreatChecked
import Derived.Test.YtigdbooadelciaaGreatMp
import Derived.Test.YtigdbooadelciaaGreatSt
import Derived.Deep.RegionHeld3
import Derived.Deep.QuietTactic
import Derived.BigQuiet
import Derived.Deep.DeepCutAuto
import Derived.Deep.CutBlock
import Derived.Lib.Hide
import Derived.Deep.LoopGhost
namespace Go.Proofs.YtigdbooadelciaaGreat
set_option linter.unusedVariables false
set_option linter.unusedSimpArgs false
open Go.RowKit

theorem loadM (ρ : Operand → Value) (dst : Option Tmp) (x : Operand) (ty : TypeId) (pos : String) (after : Array Edge) (gd : Option (Nat × Bool)) (w : World)
    (hp : isPtr0 (ρ x) = true) (h : (rowOf w (blkOf (ρ x))).size = 28) : (execOp ρ ⟨dst, .load 53 x, ty, pos, after, gd⟩).run Tryz.prog w = .ok (.value (.agg (rowOf w (blkOf (ρ x))))) w :=
  ex_load (P := Tryz.prog) Tryz.underlying53 rfl (by kernel_rfl) (by decide) ρ dst x ty pos after gd w hp h
theorem storeM (ρ : Operand → Value) (dst : Option Tmp) (x y : Operand) (ty : TypeId) (pos : String) (after : Array Edge) (gd : Option (Nat × Bool)) (w : World)
    (hp : isPtr0 (ρ x) = true) (hy : isAggV (ρ y) = true) (h : (rowOf w (blkOf (ρ x))).size = 28) (hc : (ρ y).cells.size = 28) (h1 : oneB (ρ y).cells = true) :
    (execOp ρ ⟨dst, .store 53 x y, ty, pos, after, gd⟩).run Tryz.prog w = .ok .skip (w.setRow (blkOf (ρ x)) (ρ y).cells) :=
  ex_store (P := Tryz.prog) (by kernel_rfl) (by decide) ρ dst x y ty pos after gd w hp hy h hc h1

/-- The zero message, and one with one field. -/
def zMsg : Array Value := #[.int .u8 0, .int .u32 0, .int .u32 0, .int .u64 0, .int .u8 0, .int .u32 0, .string ⟨#[]⟩, .string ⟨#[]⟩, .int .u8 0, .int .u8 0, .bool false, .int .u8 0, .int .u16 0, .slice none 0 0, .int .u32 0, .slice none 0 0, .int .u16 0, .int .u16 0, .slice none 0 0, .slice none 0 0, .slice none 0 0, .int .u32 0, .int .u32 0, .slice none 0 0, .int .u64 0, .slice none 0 0, .slice none 0 0, .slice none 0 0]
def mset (i : Nat) (v : Value) : Array Value := zMsg.setIfInBounds i v
theorem zMsg_size : zMsg.size = 28 := rfl
theorem zMsg_one : oneB zMsg = true := by decide
theorem mset_size (i : Nat) (v : Value) : (mset i v).size = 28 := by simp [mset, zMsg_size]
theorem mset_one (i : Nat) (k : IntKind) (n : Int) : oneB (mset i (.int k n)) = true := by
  unfold oneB
  rw [List.all_eq_true]
  intro u hu
  rw [mset, Array.toList_setIfInBounds] at hu
  rcases List.mem_or_eq_of_mem_set hu with hu | rfl
  · have := zMsg_one
    unfold oneB at this
    exact List.all_eq_true.1 this u hu
  · rfl
theorem mset5 (v : Value) : (mset 5 v)[5]? = some v := rfl
theorem mset21 (v : Value) : (mset 21 v)[21]? = some v := rfl
theorem allocM (ρ : Operand → Value) (dst : Option Tmp) (ty : TypeId) (pos : String) (after : Array Edge) (gd : Option (Nat × Bool)) (w : World) :
    (execOp ρ ⟨dst, .alloc 53, ty, pos, after, gd⟩).run Tryz.prog w = .ok (.value (.pointer (some ⟨w.heap.size, 0, none⟩))) (w.alloc (.cells zMsg 53)) :=
  ex_alloc (P := Tryz.prog) (fun w => by kernel_rfl) ρ dst ty pos after gd w
theorem buildM (ρ : Operand → Value) (dst : Option Tmp) (ty : TypeId) (pos : String) (after : Array Edge) (gd : Option (Nat × Bool)) (w : World) :
    (execOp ρ ⟨dst, .build 53 #[], ty, pos, after, gd⟩).run Tryz.prog w = .ok (.value (.agg zMsg)) w :=
  ex_build0 (P := Tryz.prog) (fun w => by kernel_rfl) ρ dst ty pos after gd w
def isU32 : Value → Bool | .int .u32 _ => true | _ => false
theorem isU32_int (n : Int) : isU32 (.int .u32 n) = true := rfl
theorem buildM_5 (ρ : Operand → Value) (x : Operand) (dst : Option Tmp) (ty : TypeId) (pos : String) (after : Array Edge) (gd : Option (Nat × Bool)) (w : World) (h : isU32 (ρ x) = true) :
    (execOp ρ ⟨dst, .build 53 #[(5, x)], ty, pos, after, gd⟩).run Tryz.prog w = .ok (.value (.agg (mset 5 (ρ x)))) w := by
  have hb : ∀ n, (Instr.build 53 #[(5, .int .u32 n)]).run Tryz.prog w = .ok (.agg (mset 5 (.int .u32 n))) w := fun n => by kernel_rfl
  generalize hv : ρ x = v at *
  unfold isU32 at h
  split at h
  · simp only [execOp, List.map_toArray, List.map_cons, List.map_nil, hv, Sem.run_bind, hb, Result.andThen_ok, Sem.run_pure]
  · cases h
theorem buildM_14 (ρ : Operand → Value) (x : Operand) (dst : Option Tmp) (ty : TypeId) (pos : String) (after : Array Edge) (gd : Option (Nat × Bool)) (w : World) (h : isU32 (ρ x) = true) :
    (execOp ρ ⟨dst, .build 53 #[(14, x)], ty, pos, after, gd⟩).run Tryz.prog w = .ok (.value (.agg (mset 21 (ρ x)))) w := by
  have hb : ∀ n, (Instr.build 53 #[(14, .int .u32 n)]).run Tryz.prog w = .ok (.agg (mset 21 (.int .u32 n))) w := fun n => by kernel_rfl
  generalize hv : ρ x = v at *
  unfold isU32 at h
  split at h
  · simp only [execOp, List.map_toArray, List.map_cons, List.map_nil, hv, Sem.run_bind, hb, Result.andThen_ok, Sem.run_pure]
  · cases h

theorem buildM_5c (a : Act) (n : Int) (dst : Option Tmp) (ty : TypeId) (pos : String) (after : Array Edge) (gd : Option (Nat × Bool)) (w : World) :
    (execOp a.eval ⟨dst, .build 53 #[(5, .const (.int .u32 n))], ty, pos, after, gd⟩).run Tryz.prog w = .ok (.value (.agg (mset 5 (.int .u32 n)))) w := buildM_5 _ _ _ _ _ _ _ _ rfl
theorem buildM_14c (a : Act) (n : Int) (dst : Option Tmp) (ty : TypeId) (pos : String) (after : Array Edge) (gd : Option (Nat × Bool)) (w : World) :
    (execOp a.eval ⟨dst, .build 53 #[(14, .const (.int .u32 n))], ty, pos, after, gd⟩).run Tryz.prog w = .ok (.value (.agg (mset 21 (.int .u32 n)))) w := buildM_14 _ _ _ _ _ _ _ _ rfl

def k32 (n : Int) : Value := .int .u32 n
theorem keyU32' : KeyOk Tryz.prog 26 k32 := keyOk_int Tryz.underlying26

/-- A table of package dedup lies at block b, its map at r. -/
def TabAt (w : World) (b r : Nat) (done acked : Int) (m : List (Int × Value)) : Prop :=
  Blk w b #[.int .u32 done, .int .u32 acked, .map (some r)] 297 ∧ MapAt w r k32 m

theorem TabAt.kp {S : Nat → Prop} {w w' : World} {b r : Nat} {done acked : Int} {m : List (Int × Value)} (h : TabAt w b r done acked m) (k : Kp S w w') (hb : ¬ S b) (hr : ¬ S r) : TabAt w' b r done acked m :=
  ⟨h.1.kp k hb, h.2.kp k hr⟩
theorem TabAt.alloc {w : World} {b r : Nat} {done acked : Int} {m : List (Int × Value)} (h : TabAt w b r done acked m) (o : Obj) : TabAt (w.alloc o) b r done acked m := ⟨h.1.alloc o, h.2.alloc o⟩
theorem TabAt.ne {w : World} {b r : Nat} {done acked : Int} {m : List (Int × Value)} (h : TabAt w b r done acked m) : r ≠ b := h.2.ne_blk h.1

theorem tab_new (w : World) : Calls Tryz.prog 156 #[] w fun e w' =>
    e = .returned (.pointer (some ⟨w.heap.size + 1, 0, none⟩)) ∧ TabAt w' (w.heap.size + 1) w.heap.size 0 0 [] ∧ Kp (fun _ => False) w w' := by
  have hmm := @run_makeMap Tryz.prog
  have hM := (MapAt.new w k32).alloc (.cells #[.int .u32 0, .int .u32 0, .map (some w.heap.size)] 297)
  have hB := Blk.new (w.alloc (.map #[] 0)) #[.int .u32 0, .int .u32 0, .map (some w.heap.size)] 297
  go_enter Tryz.func156, Tryz.ntmps156
  go_wp2
  go_ret
  refine ⟨rfl, ⟨by simpa using hB, hM⟩, ((Kp.refl _ _).alloc _).alloc _⟩

theorem tab_done (b r : Nat) (done acked : Int) (m : List (Int × Value)) (w : World) (h : TabAt w b r done acked m) :
    Calls Tryz.prog 158 #[.pointer (some ⟨b, 0, none⟩)] w fun e w' => e = .returned (.int .u32 done) ∧ w = w' := by
  have c0 : w.cell? ⟨b, 0, none⟩ = some (.int .u32 done) := (h.1.cell 0).trans rfl
  clear h
  go_enter Tryz.func158, Tryz.ntmps158
  go_wp2
  go_ret
  exact ⟨rfl, rfl⟩

attribute [local go_sem ↓] loadM storeM allocM buildM buildM_5 buildM_14
attribute [local go_sem] rowOf_new rowOf_drew rowOf_setCell setRow_alloc isPtr0_ptr blkOf_ptr isAggV_agg cells_agg zMsg_size zMsg_one mset_size mset_one mset5 mset21 isU32_int

theorem tab_keep_arg (b r : Nat) (done acked : Int) (m : List (Int × Value)) (req : Int) (cs : Array Value) (w : World) (h : TabAt w b r done acked m) (h0 : 0 ≤ req) (h1 : req < 4294967296) (hd0 : 0 ≤ done) (hreq : req = 0 ∨ req - 1 ≠ done) :
    Calls Tryz.prog 109 #[.pointer (some ⟨b, 0, none⟩), .int .u32 req, .agg cs] w fun e w' => e = .returned (.int .i64 1) ∧ w.alloc (.cells cs 53) = w' := by
  have c0 : (w.alloc (.cells cs 53)).cell? ⟨b, 0, none⟩ = some (.int .u32 done) := ((h.1.alloc _).cell 0).trans rfl
  clear h
  by_cases hz : req = 0
  · have e : (req == 0) = true := by simpa using hz
    clear hz hreq
    go_enter Tryz.func109, Tryz.ntmps109
    go_wp2
    go_ret
    exact ⟨rfl, rfl⟩
  · have e : (req == 0) = false := by simpa using hz
    have e2 : (req - 1 != done) = true := by rw [bne_iff_ne]; omega
    have hp : 1 ≤ req := by omega
    clear hz hreq
    go_enter Tryz.func109, Tryz.ntmps109
    go_wp2
    go_ret
    exact ⟨rfl, rfl⟩

theorem tab_keep_full (b r : Nat) (done acked : Int) (m : List (Int × Value)) (req : Int) (cs : Array Value) (w : World) (h : TabAt w b r done acked m) (h0 : 0 ≤ done) (h1 : done < 1073741824) (hreq : req = done + 1) (hm : 16 ≤ m.length) :
    Calls Tryz.prog 109 #[.pointer (some ⟨b, 0, none⟩), .int .u32 req, .agg cs] w fun e w' => e = .returned (.int .i64 4) ∧ w.alloc (.cells cs 53) = w' := by
  have c0 : (w.alloc (.cells cs 53)).cell? ⟨b, 0, none⟩ = some (.int .u32 done) := ((h.1.alloc _).cell 0).trans rfl
  have c2 : (w.alloc (.cells cs 53)).cell? ⟨b, 2, none⟩ = some (.map (some r)) := ((h.1.alloc _).cell 2).trans rfl
  have hl := fun ty => (h.2.alloc (.cells cs 53)).len (P := Tryz.prog) (ty := ty) Tryz.underlying295
  clear h
  subst hreq
  have e : (done + 1 == 0) = false := by simp; omega
  have e2 : (done != done) = false := by simp
  have e3 : ¬ (1073741824 ≤ done) := by omega
  have e4 : (16 : Int) ≤ (m.length : Int) := by omega
  go_enter Tryz.func109, Tryz.ntmps109
  go_wp2
  go_ret
  exact ⟨rfl, rfl⟩

theorem tab_keep (b r : Nat) (done acked : Int) (m : List (Int × Value)) (req : Int) (cs : Array Value) (w : World) (h : TabAt w b r done acked m) (h0 : 0 ≤ done) (h1 : done < 1073741824) (hreq : req = done + 1) (hm : m.length < 16) (hc : cs.size = 28) :
    Calls Tryz.prog 109 #[.pointer (some ⟨b, 0, none⟩), .int .u32 req, .agg cs] w fun e w' => e = .returned (.int .i64 0) ∧ TabAt w' b r (done + 1) acked (putM m (done + 1) (.agg cs)) ∧ Kp (fun k => k = b ∨ k = r) w w' := by
  have c0 : (w.alloc (.cells cs 53)).cell? ⟨b, 0, none⟩ = some (.int .u32 done) := ((h.1.alloc _).cell 0).trans rfl
  have c2 : (w.alloc (.cells cs 53)).cell? ⟨b, 2, none⟩ = some (.map (some r)) := ((h.1.alloc _).cell 2).trans rfl
  have f0 := (h.1.alloc (.cells cs 53)).frozen 0
  have hl := fun ty => (h.2.alloc (.cells cs 53)).len (P := Tryz.prog) (ty := ty) Tryz.underlying295
  have hlt := h.1.lt
  subst hreq
  have e : (done + 1 == 0) = false := by simp; omega
  have e2 : (done != done) = false := by simp
  have e3 : ¬ (1073741824 ≤ done) := by omega
  have e4 : ¬ (16 : Int) ≤ (m.length : Int) := by omega
  have hB2 := (h.1.set 0 (.int .u32 (done + 1))).alloc (.cells cs 53)
  have hM2 := ((h.2.setCell ⟨b, 0, none⟩ (.int .u32 (done + 1))).alloc (.cells cs 53)).drew
  have hR2 : rowOf ((w.setCell ⟨b, 0, none⟩ (.int .u32 (done + 1))).alloc (.cells cs 53)) w.heap.size = cs := by
    have := rowOf_new (w.setCell ⟨b, 0, none⟩ (.int .u32 (done + 1))) cs 53
    simpa using this
  have hne := h.ne
  have hrl := h.2.lt
  obtain ⟨w9, hrun, hM9, hk9, hsz9⟩ := hM2.put keyU32' (P := Tryz.prog) Tryz.underlying295 (done + 1) (.agg cs)
  have d2 : ((w.setCell ⟨b, 0, none⟩ (.int .u32 (done + 1))).alloc (.cells cs 53)).cell? ⟨b, 2, none⟩ = some (.map (some r)) := (hB2.cell 2).trans rfl
  have hfin : TabAt w9 b r (done + 1) acked (putM m (done + 1) (.agg cs)) ∧ Kp (fun k => k = b ∨ k = r) w w9 := by
    refine ⟨⟨hB2.drew.kp hk9 (fun e => hne e.symm), hM9⟩, ?_⟩
    have k1 : Kp (fun k => k = b ∨ k = r) w ((w.setCell ⟨b, 0, none⟩ (.int .u32 (done + 1))).alloc (.cells cs 53)).drew := (((Kp.refl _ _).setCell (fun _ => Or.inl rfl) _).alloc _).drew
    exact k1.trans (hk9.mono (fun _ _ e => Or.inr e))
  have d9 : w9.cell? ⟨b, 2, none⟩ = some (.map (some r)) := (hfin.1.1.cell 2).trans rfl
  have hR9 : rowOf w9 w.heap.size = cs := by
    have hbx := Blk.new (w.setCell ⟨b, 0, none⟩ (.int .u32 (done + 1))) cs 53
    have hbx : Blk ((w.setCell ⟨b, 0, none⟩ (.int .u32 (done + 1))).alloc (.cells cs 53)).drew w.heap.size cs 53 := by simpa using hbx.drew
    exact (hbx.kp hk9 (by show ¬ w.heap.size = r; omega)).row
  clear hM2 hM9 hk9 hB2 h hsz9
  unfold k32 at hrun
  have hfin := Lib.hid hfin
  go_enter Tryz.func109, Tryz.ntmps109
  go_wp2_with fail
  go_region_held3 (fun w' => w'.cell? ⟨b, 2, none⟩ = some (.map (some r)) ∧ rowOf w' w.heap.size = cs) (first | exact ⟨d2, hR2⟩ | exact ⟨d9, hR9⟩ | go_keep) (fail)
  go_wp2
  go_ret
  exact ⟨rfl, hfin.out.1, hfin.out.2⟩

/-- What is left behind an acknowledgement up to n. -/
def Kept (m : List (Int × Value)) (n : Int) : List (Int × Value) := m.filter fun p => decide (n < p.1)

theorem kept_del (m : List (Int × Value)) (n : Int) (h : ∀ p ∈ m, n < p.1) : delM m (n + 1) = Kept m (n + 1) := by
  unfold delM Kept
  refine List.filter_congr fun p hp => ?_
  have := h p hp
  simp only [decide_eq_decide]
  omega
theorem kept_kept (m : List (Int × Value)) (a n : Int) (h : a ≤ n) : Kept (Kept m a) n = Kept m n := by
  unfold Kept
  rw [List.filter_filter]
  refine List.filter_congr fun p _ => ?_
  by_cases h1 : n < p.1 <;> simp [h1]
  omega
theorem kept_gt (m : List (Int × Value)) (n : Int) : ∀ p ∈ Kept m n, n < p.1 := by
  intro p hp
  simpa [Kept] using (List.mem_filter.1 hp).2

theorem tab_ack_arg (b r : Nat) (done acked : Int) (m : List (Int × Value)) (n : Int) (w : World) (h : TabAt w b r done acked m) (hn : done < n) :
    Calls Tryz.prog 103 #[.pointer (some ⟨b, 0, none⟩), .int .u32 n] w fun e w' => e = .returned (.int .i64 1) ∧ w = w' := by
  have c0 : w.cell? ⟨b, 0, none⟩ = some (.int .u32 done) := (h.1.cell 0).trans rfl
  clear h
  go_enter Tryz.func103, Tryz.ntmps103
  go_wp2
  go_ret
  exact ⟨rfl, rfl⟩

def AckRel (w : World) (b r : Nat) (done acked n : Int) (m : List (Int × Value)) (k : Nat) (wr : World) : Prop :=
  ∃ a : Int, acked ≤ a ∧ (a ≤ n ∨ a = acked) ∧ (n - a).toNat = k ∧ TabAt wr b r done a (Kept m a) ∧ Kp (fun k => k = b ∨ k = r) w wr

/-- Behind an acknowledgement. -/
def AckEnd (w : World) (b r : Nat) (done acked n : Int) (m : List (Int × Value)) (w' : World) : Prop :=
  ∃ a : Int, (a = if acked ≤ n then n else acked) ∧ TabAt w' b r done a (Kept m a) ∧ Kp (fun k => k = b ∨ k = r) w w'

theorem AckEnd.cell {w w' : World} {b r : Nat} {done acked n : Int} {m : List (Int × Value)} (h : AckEnd w b r done acked n m w') {a : Addr} {v : Value} (hc : w.cell? a = some v) (hn : ¬ (a.block = b ∨ a.block = r)) : w'.cell? a = some v := by
  obtain ⟨_, _, _, k⟩ := h
  exact k.cell hc hn

theorem tab_ack (b r : Nat) (done acked : Int) (m : List (Int × Value)) (n : Int) (w : World) (h : TabAt w b r done acked m) (h0 : 0 ≤ acked) (hd : done < 4000000000) (hn : n ≤ done) (hn0 : 0 ≤ n) (hm : ∀ p ∈ m, acked < p.1) :
    Calls Tryz.prog 103 #[.pointer (some ⟨b, 0, none⟩), .int .u32 n] w fun e w' => e = .returned (.int .i64 0) ∧ AckEnd w b r done acked n m w' := by
  have c0 : w.cell? ⟨b, 0, none⟩ = some (.int .u32 done) := (h.1.cell 0).trans rfl
  have hk0 : Kept m acked = m := by
    unfold Kept
    rw [List.filter_eq_self]
    intro p hp
    have := hm p hp
    simpa using this
  have hst : AckRel w b r done acked n m (n - acked).toNat w := ⟨acked, by omega, .inr rfl, rfl, by rw [hk0]; exact h, Kp.refl _ _⟩
  have hne := h.ne
  clear h hk0 hm
  go_enter Tryz.func103, Tryz.ntmps103
  go_wp2_with fail
  go_loopg [] (n - acked).toNat (fun k wr => AckRel w b r done acked n m k wr)
  case atStart => exact hst
  case round =>
    clear hst c0
    obtain ⟨a, ha0, ha1, hak, hT, hK⟩ := hrel
    have c1 : wr.cell? ⟨b, 1, none⟩ = some (.int .u32 a) := (hT.1.cell 1).trans rfl
    by_cases hlt : a < n
    · have c2 : wr.cell? ⟨b, 2, none⟩ = some (.map (some r)) := (hT.1.cell 2).trans rfl
      obtain ⟨w9, hrun, hM9, hk9, hsz9⟩ := hT.2.drew.del keyU32' (P := Tryz.prog) (ty := 0) Tryz.underlying295 (a + 1)
      rw [kept_del _ _ (kept_gt m a), kept_kept _ _ _ (by omega)] at hM9
      have hB9 := hT.1.drew.kp hk9 (fun e => hne e.symm)
      have d1 : w9.cell? ⟨b, 1, none⟩ = some (.int .u32 a) := (hB9.cell 1).trans rfl
      have d2 : w9.cell? ⟨b, 2, none⟩ = some (.map (some r)) := (hB9.cell 2).trans rfl
      have f1 := hB9.frozen 1
      have hfin : AckRel w b r done acked n m (n - (a + 1)).toNat (w9.setCell ⟨b, 1, none⟩ (.int .u32 (a + 1))) :=
        ⟨a + 1, by omega, .inl (by omega), rfl, ⟨hB9.set 1 _, hM9.setCell _ _⟩, (hK.drew.trans (hk9.mono (fun _ _ e => Or.inr e))).setCell (fun _ => Or.inl rfl) _⟩
      have hfin := Lib.hid hfin
      have hx : IntKind.u32.wrap (a + 1) = a + 1 := IntWalk.u32_in _ ⟨by omega, by omega⟩
      unfold k32 at hrun
      clear hM9 hk9 hB9 hT hK hsz9
      have hak := Lib.hid hak
      go_wp2_with fail
      go_region_held3 (fun w' => w'.cell? ⟨b, 1, none⟩ = some (.int .u32 a) ∧ w'.cell? ⟨b, 2, none⟩ = some (.map (some r))) (first | exact ⟨c1, c2⟩ | exact ⟨d1, d2⟩ | go_keep) (fail)
      clear hx hrun
      go_wp2
      go_roundg (n - (a + 1)).toNat
      case rel => exact hfin.out
      case measure => have := hak.out; omega
    · have hge : decide (a < n) = false := by simpa using hlt
      have hfin : AckEnd w b r done acked n m wr := ⟨a, by split <;> omega, hT, hK⟩
      go_wp2
      go_ret
      exact ⟨rfl, hfin⟩

/-- The verdict on a number. -/
def Verdict (done acked req : Int) : Int := if req ≤ acked then 3 else if req ≤ done then 2 else if req = done + 1 then 1 else 4

theorem tab_ask_past (b r : Nat) (done acked : Int) (m : List (Int × Value)) (req : Int) (w : World) (h : TabAt w b r done acked m) (hr : req ≤ acked) :
    Calls Tryz.prog 162 #[.pointer (some ⟨b, 0, none⟩), .int .u32 req] w fun e w' => e = .returned (.tuple #[.agg zMsg, .int .u8 3]) ∧ Kp (fun _ => False) w w' := by
  have c0 : ∀ o, (w.alloc o).cell? ⟨b, 0, none⟩ = some (.int .u32 done) := fun o => ((h.1.alloc o).cell 0).trans rfl
  have c1 : ∀ o, (w.alloc o).cell? ⟨b, 1, none⟩ = some (.int .u32 acked) := fun o => ((h.1.alloc o).cell 1).trans rfl
  clear h
  go_enter Tryz.func162, Tryz.ntmps162
  go_wp2
  refine bodyPost_ret (v := .tuple #[.agg zMsg, .int .u8 3]) (results_struct_tmp (P := Tryz.prog) (n := 28) rfl Tryz.underlying53 rfl (by kernel_rfl) (by decide) rfl rfl (rowOf_new _ _ _) zMsg_size) rfl ⟨rfl, (Kp.refl _ _).alloc _⟩

theorem tab_ask_again (b r : Nat) (done acked : Int) (m : List (Int × Value)) (req : Int) (w : World) (h : TabAt w b r done acked m) (cs : Array Value) (hcs : cs.size = 28) (h1 : oneB cs = true) (hr : acked < req) (hd : req ≤ done) (hl : lookM m req = some (.agg cs)) :
    Calls Tryz.prog 162 #[.pointer (some ⟨b, 0, none⟩), .int .u32 req] w fun e w' => e = .returned (.tuple #[.agg cs, .int .u8 2]) ∧ Kp (fun _ => False) w w' := by
  have c0 : ∀ o, (w.alloc o).cell? ⟨b, 0, none⟩ = some (.int .u32 done) := fun o => ((h.1.alloc o).cell 0).trans rfl
  have c1 : ∀ o, (w.alloc o).cell? ⟨b, 1, none⟩ = some (.int .u32 acked) := fun o => ((h.1.alloc o).cell 1).trans rfl
  have c2 : ∀ o, (w.alloc o).cell? ⟨b, 2, none⟩ = some (.map (some r)) := fun o => ((h.1.alloc o).cell 2).trans rfl
  have hlook : ∀ o, (Instr.lookup 295 (.map (some r)) (.int .u32 req) false).run Tryz.prog (w.alloc o) = .ok (.agg cs) (w.alloc o) := fun o => by
    have := (h.2.alloc o).look keyU32' (P := Tryz.prog) Tryz.underlying295 (z := .agg zMsg) (by kernel_rfl) req
    rw [hl] at this
    exact this
  have e1 : ¬ req ≤ acked := by omega
  clear h
  go_enter Tryz.func162, Tryz.ntmps162
  go_wp2
  refine bodyPost_ret (v := .tuple #[.agg cs, .int .u8 2]) (results_struct_tmp (P := Tryz.prog) (n := 28) rfl Tryz.underlying53 rfl (by kernel_rfl) (by decide) rfl rfl (rowOf_new _ _ _) hcs) rfl ⟨rfl, (Kp.refl _ _).alloc _⟩

theorem tab_ask_fresh (b r : Nat) (done acked : Int) (m : List (Int × Value)) (req : Int) (w : World) (h : TabAt w b r done acked m) (hr : acked < req) (hd : req = done + 1) (h0 : 0 ≤ done) (h1 : done < 4294967295) :
    Calls Tryz.prog 162 #[.pointer (some ⟨b, 0, none⟩), .int .u32 req] w fun e w' => e = .returned (.tuple #[.agg zMsg, .int .u8 1]) ∧ Kp (fun _ => False) w w' := by
  have c0 : ∀ o, (w.alloc o).cell? ⟨b, 0, none⟩ = some (.int .u32 done) := fun o => ((h.1.alloc o).cell 0).trans rfl
  have c1 : ∀ o, (w.alloc o).cell? ⟨b, 1, none⟩ = some (.int .u32 acked) := fun o => ((h.1.alloc o).cell 1).trans rfl
  have e1 : ¬ req ≤ acked := by omega
  have e2 : ¬ req ≤ done := by omega
  have e3 : (done == done) = true := by simp
  have e4 : 0 ≤ done ∧ done < 4294967295 := ⟨h0, h1⟩
  subst hd
  clear h
  go_enter Tryz.func162, Tryz.ntmps162
  go_wp2
  refine bodyPost_ret (v := .tuple #[.agg zMsg, .int .u8 1]) (results_struct_tmp (P := Tryz.prog) (n := 28) rfl Tryz.underlying53 rfl (by kernel_rfl) (by decide) rfl rfl (rowOf_new _ _ _) zMsg_size) rfl ⟨rfl, (Kp.refl _ _).alloc _⟩

theorem tab_ask_gap (b r : Nat) (done acked : Int) (m : List (Int × Value)) (req : Int) (w : World) (h : TabAt w b r done acked m) (hr : acked < req) (hd : done + 1 < req) (h0 : 0 ≤ done) (h1 : req < 4294967296) :
    Calls Tryz.prog 162 #[.pointer (some ⟨b, 0, none⟩), .int .u32 req] w fun e w' => e = .returned (.tuple #[.agg zMsg, .int .u8 4]) ∧ Kp (fun _ => False) w w' := by
  have c0 : ∀ o, (w.alloc o).cell? ⟨b, 0, none⟩ = some (.int .u32 done) := fun o => ((h.1.alloc o).cell 0).trans rfl
  have c1 : ∀ o, (w.alloc o).cell? ⟨b, 1, none⟩ = some (.int .u32 acked) := fun o => ((h.1.alloc o).cell 1).trans rfl
  have e1 : ¬ req ≤ acked := by omega
  have e2 : ¬ req ≤ done := by omega
  have e3 : (req - 1 == done) = false := by simp; omega
  clear h
  go_enter Tryz.func162, Tryz.ntmps162
  go_wp2
  refine bodyPost_ret (v := .tuple #[.agg zMsg, .int .u8 4]) (results_struct_tmp (P := Tryz.prog) (n := 28) rfl Tryz.underlying53 rfl (by kernel_rfl) (by decide) rfl rfl (rowOf_new _ _ _) zMsg_size) rfl ⟨rfl, (Kp.refl _ _).alloc _⟩

end Go.Proofs.YtigdbooadelciaaGreat
