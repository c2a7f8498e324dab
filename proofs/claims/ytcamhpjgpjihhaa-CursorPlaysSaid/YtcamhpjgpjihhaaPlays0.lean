/- CursorPlays: whatever is opened, taken, told, closed and left, as ticks go by, each answer is the document's: the state. (Printed by gen_plays.py.) -/
import Derived.Test.YtcamhpjgpjihhaaRf9
namespace Go.Proofs.Ytcamhpjgpjihhaa
set_option linter.unusedVariables false
set_option linter.unusedSimpArgs false
open Go.RowKit

def TP (t : TypeId) : Prop := TC t ∨ TR t
theorem TC_TP {B : Nat} {w w' : World} (k : Kt B TC True w w') : Kt B TP True w w' := k.mono (Nat.le_refl _) (fun _ h => .inl h) id
theorem TR_TP {B : Nat} {w w' : World} (k : Kt B TR False w w') : Kt B TP True w w' := k.mono (Nat.le_refl _) (fun _ h => .inr h) (fun h => h.elim)

structure PlAt (w0 : World) (bt bm c : Nat) (idle : Int) (m k : Nat) (l : CurL) (rs : List RC) (wr : World) : Prop where
  tab : TabAt wr w0.heap.size bt bm idle m l
  ref : RTab w0 wr w0.heap.size c idle m rs
  lr : LR l rs
  inv : PInv rs m k
  kt : Kt w0.heap.size TP True w0 wr
theorem PlAt.kp {w0 w w' : World} {bt bm c : Nat} {idle : Int} {m k : Nat} {l : CurL} {rs : List RC} (h : PlAt w0 bt bm c idle m k l rs w) (q : Kp (fun _ => False) w w') : PlAt w0 bt bm c idle m k l rs w' :=
  ⟨h.tab.kp q, h.ref.kp q, h.lr, h.inv, h.kt.kp q⟩
theorem PlAt.size {w0 w : World} {bt bm c : Nat} {idle : Int} {m k : Nat} {l : CurL} {rs : List RC} (h : PlAt w0 bt bm c idle m k l rs w) : w0.heap.size ≤ w.heap.size := h.kt.size
theorem PlAt.rise {w0 w : World} {bt bm c : Nat} {idle : Int} {m k : Nat} {l : CurL} {rs : List RC} (h : PlAt w0 bt bm c idle m k l rs w) : RiseC l := by
  unfold RiseC
  rw [h.lr.keys]
  exact h.inv.rise
theorem LR.mem {l : CurL} {rs : List RC} (h : LR l rs) {p : Int × Nat × Cur} (hp : p ∈ l) : ∃ r ∈ rs, p.1 = r.n ∧ p.2.2 = curOf r := by
  have : (p.1, p.2.2) ∈ l.map (fun p => (p.1, p.2.2)) := List.mem_map.2 ⟨p, hp, rfl⟩
  rw [h] at this
  obtain ⟨r, hr, e⟩ := List.mem_map.1 this
  simp only [Prod.mk.injEq] at e
  exact ⟨r, hr, e.1.symm, e.2.symm⟩
theorem PlAt.used {w0 w : World} {bt bm c : Nat} {idle : Int} {m k : Nat} {l : CurL} {rs : List RC} (h : PlAt w0 bt bm c idle m k l rs w) : ∀ p ∈ l, 0 ≤ p.2.2.used := by
  intro p hp
  obtain ⟨r, hr, -, e⟩ := h.lr.mem hp
  rw [e]
  exact (h.inv.used r hr).1
theorem PlAt.key {w0 w : World} {bt bm c : Nat} {idle : Int} {m k : Nat} {l : CurL} {rs : List RC} (h : PlAt w0 bt bm c idle m k l rs w) : ∀ p ∈ l, 1 ≤ p.1 ∧ p.1 ≤ (m : Int) := by
  intro p hp
  obtain ⟨r, hr, e, -⟩ := h.lr.mem hp
  rw [e]
  exact h.inv.key r hr
theorem PlAt.len {w0 w : World} {bt bm c : Nat} {idle : Int} {m k : Nat} {l : CurL} {rs : List RC} (h : PlAt w0 bt bm c idle m k l rs w) : l.length = rs.length ∧ rs.length ≤ 8 := ⟨h.lr.len, h.inv.len⟩
theorem RTab.rkt {w0 w w' : World} {B c : Nat} {idle last : Int} {rs : List RC} (h : RTab w0 w B c idle last rs) {B0 : Nat} (k : Kt B0 TC True w w') : RTab w0 w' B c idle last rs := h.kt k (by unfold TC; decide) (by unfold TC; decide) (by unfold TC; decide)
theorem TabAt.tkt {w w' : World} {B bt bm : Nat} {idle last : Int} {l : CurL} (h : TabAt w B bt bm idle last l) {B0 : Nat} (k : Kt B0 TR False w w') : TabAt w' B bt bm idle last l := h.kt k (by unfold TR; decide) (by unfold TR; decide) (by unfold TR; decide) (by unfold TR; decide) id

def OpX (w : World) (bo : Nat) (o : OpC) (xvA : Option Addr) (xvc : Nat) (xaA : Option Addr) (xac : Nat) (xyA : Option Addr) (xyc : Nat) (xnA : Option Addr) (xnc : Nat) (xhA : Option Addr) (xhc : Nat) : Prop := Blk w bo #[.int .u8 o.kind, .int .u8 o.owner, .int .i64 o.pin, .slice xvA o.vec.length xvc, .slice xaA o.al.length xac, .slice xyA o.an.length xyc, .slice xnA o.no.length xnc, .int .u32 o.n, .int .u32 o.page, .slice xhA o.hits.length xhc, .bool o.tell, .int .u32 o.ahead] 72
section
variable {w w' : World} {bo : Nat} {o : OpC} {xvA xaA xyA xnA xhA : Option Addr} {xvc xac xyc xnc xhc : Nat}
theorem OpX.cells (h : OpX w bo o xvA xvc xaA xac xyA xyc xnA xnc xhA xhc) : w.cell? ⟨bo, 0, none⟩ = some (.int .u8 o.kind) ∧ w.cell? ⟨bo, 1, none⟩ = some (.int .u8 o.owner) ∧ w.cell? ⟨bo, 2, none⟩ = some (.int .i64 o.pin) ∧ w.cell? ⟨bo, 3, none⟩ = some (.slice xvA o.vec.length xvc) ∧ w.cell? ⟨bo, 4, none⟩ = some (.slice xaA o.al.length xac) ∧ w.cell? ⟨bo, 5, none⟩ = some (.slice xyA o.an.length xyc) ∧ w.cell? ⟨bo, 6, none⟩ = some (.slice xnA o.no.length xnc) ∧ w.cell? ⟨bo, 7, none⟩ = some (.int .u32 o.n) ∧ w.cell? ⟨bo, 8, none⟩ = some (.int .u32 o.page) ∧ w.cell? ⟨bo, 9, none⟩ = some (.slice xhA o.hits.length xhc) ∧ w.cell? ⟨bo, 10, none⟩ = some (.bool o.tell) ∧ w.cell? ⟨bo, 11, none⟩ = some (.int .u32 o.ahead) :=
  ⟨(Blk.cell h 0).trans rfl, (Blk.cell h 1).trans rfl, (Blk.cell h 2).trans rfl, (Blk.cell h 3).trans rfl, (Blk.cell h 4).trans rfl, (Blk.cell h 5).trans rfl, (Blk.cell h 6).trans rfl, (Blk.cell h 7).trans rfl, (Blk.cell h 8).trans rfl, (Blk.cell h 9).trans rfl, (Blk.cell h 10).trans rfl, (Blk.cell h 11).trans rfl⟩
theorem OpX.kp (h : OpX w bo o xvA xvc xaA xac xyA xyc xnA xnc xhA xhc) (k : Kp (fun _ => False) w w') : OpX w' bo o xvA xvc xaA xac xyA xyc xnA xnc xhA xhc := Blk.kp h k id
theorem OpX.c {B : Nat} (h : OpX w bo o xvA xvc xaA xac xyA xyc xnA xnc xhA xhc) (k : Kt B TC True w w') : OpX w' bo o xvA xvc xaA xac xyA xyc xnA xnc xhA xhc := Blk.kt h k (by unfold TC; decide)
theorem OpX.r {B : Nat} (h : OpX w bo o xvA xvc xaA xac xyA xyc xnA xnc xhA xhc) (k : Kt B TR False w w') : OpX w' bo o xvA xvc xaA xac xyA xyc xnA xnc xhA xhc := Blk.kt h k (by unfold TR; decide)
end

def PlRel (w : World) (bt bm c n : Nat) (idle : Int) (v7 i : Value) (wr : World) : Prop :=
  ∃ (k m : Nat) (l : CurL) (rs : List RC) (t : Int), k ≤ n ∧ k ≤ 80 ∧ m ≤ k ∧ i = .int .i64 k ∧ v7 = .int .u32 t ∧ 0 ≤ t ∧ t < 4294967296 ∧ PlAt w bt bm c idle m k l rs wr
def PlCut (w : World) (bt bm c k : Nat) (idle : Int) (wr : World) : Prop :=
  ∃ (m : Nat) (l : CurL) (rs : List RC), m ≤ k + 1 ∧ PlAt w bt bm c idle m (k + 1) l rs wr
def PlCut2 (w : World) (bt bm c m k bo : Nat) (idle : Int) (o : OpC) (xvA : Option Addr) (xvc : Nat) (xaA : Option Addr) (xac : Nat) (xyA : Option Addr) (xyc : Nat) (xnA : Option Addr) (xnc : Nat) (xhA : Option Addr) (xhc : Nat) (v15 : Value) (wr : World) : Prop :=
  ∃ (l : CurL) (rs : List RC) (pg : Int), v15 = .int .u32 pg ∧ 0 ≤ pg ∧ pg < 4294967296 ∧ PlAt w bt bm c idle m k l rs wr ∧ OpX wr bo o xvA xvc xaA xac xyA xyc xnA xnc xhA xhc

/-- No cursor of this number, or another's. -/
theorem notMine_none {l : CurL} {n owner : Int} (hk : lookC l n = none) : NotMine l owner n := fun b c h => by rw [hk] at h; cases h
theorem notMine_other {l : CurL} {n owner : Int} {b : Nat} {r : RC} (hk : lookC l n = some (b, curOf r)) (ho : r.owner ≠ owner) : NotMine l owner n := fun b' c' h => by
  rw [hk] at h
  simp only [Option.some.injEq, Prod.mk.injEq] at h
  rw [← h.2]
  exact ho

/-- The law's table of the reference, new. -/
theorem RTab.new (w0 w : World) (B : Nat) (idle : Int) (hB : B ≤ w.heap.size) : RTab w0 (w.alloc (.cells #[.int .u32 idle, .slice none 0 0, .int .u32 0] 70)) B w.heap.size idle 0 [] :=
  ⟨hB, _, [], Blk.new w _ _, RowsO.nil _ _ _ _, Par.nil _⟩
theorem tick_of {idle t : Int} (hi : 0 ≤ idle ∧ idle < 4294967296) (ht : 0 ≤ t ∧ t < 4294967296) (r : RC) : tickS idle t (curOf r) = tickR idle t r := by
  unfold tickS tickR
  have : (curOf r).used = r.used := rfl
  rw [this, Bool.eq_iff_iff]
  simp
  omega
theorem lit_at {w : World} {g : Nat} {x0 x1 x2 x3 x4 x5 x6 x7 : Value} (h : Blk w g #[x0, x1, x2, x3, x4, x5, x6, x7] 49) :
    w.cell? ⟨g, 0, none⟩ = some x0 ∧ w.cell? ⟨g, 1, none⟩ = some x1 ∧ w.cell? ⟨g, 2, none⟩ = some x2 ∧ w.cell? ⟨g, 3, none⟩ = some x3 ∧ w.cell? ⟨g, 4, none⟩ = some x4 ∧ w.cell? ⟨g, 5, none⟩ = some x5 ∧ w.cell? ⟨g, 6, none⟩ = some x6 ∧ w.cell? ⟨g, 7, none⟩ = some x7 ∧ (∀ j, w.frozen? ⟨g, j, none⟩ = false) :=
  ⟨(h.cell 0).trans rfl, (h.cell 1).trans rfl, (h.cell 2).trans rfl, (h.cell 3).trans rfl, (h.cell 4).trans rfl, (h.cell 5).trans rfl, (h.cell 6).trans rfl, (h.cell 7).trans rfl, fun j => h.frozen j⟩
theorem RAt.set {rs : List RC} {n : Int} {i : Nat} {r r' : RC} (h : RAt rs n i r) (hn : r'.n = n) : RAt (rs.set i r') n i r' :=
  ⟨by simpa using h.lt, by simp, hn, fun j hj hjl => by
    rw [List.getElem_set_ne (by omega)]
    exact h.fst j hj (by simpa using hjl)⟩
theorem askZ (w : World) : AskR w [.int .i64 0, .slice none 0 0, .slice none 0 0, .slice none 0 0, .slice none 0 0, .bool false, .int .i64 0, .int .u32 0] ⟨0, [], [], [], [], false, 0, 0⟩ :=
  ⟨_, _, _, _, rfl, RowN.nil _ _ _, RowN.nil _ _ _, RowN.nil _ _ _, RowN.nil _ _ _⟩
end Go.Proofs.Ytcamhpjgpjihhaa
