/- Structs that are loaded and stored whole, their cells untold. Nothing of the program stands here. -/
import Derived.Test.YtahopbjoaoiknaaOwn
import Derived.Laws.Rows
import Derived.Laws.Tables
import Derived.Laws.ResultCell
namespace Go.Proofs.Ytahopbjoaoiknaa
set_option linter.unusedVariables false
set_option linter.unusedSimpArgs false
open Go.RowKit

/-- The cells of block g (none, if it is no row of cells or a marked one). -/
def rowOf (w : World) (g : Nat) : Array Value := match w.heap[g]? with | some (.cells cs _ (0, 0)) => cs | _ => #[]

/-- Each of them is one cell. -/
def oneB (cs : Array Value) : Bool := cs.toList.all (·.oneCell')

theorem Blk.row {w : World} {b : Nat} {cs : Array Value} {t : TypeId} (h : Blk w b cs t) : rowOf w b = cs := by
  unfold Blk at h
  simp [rowOf, h]

theorem rowOf_blk {w : World} {g : Nat} (h : 0 < (rowOf w g).size) : ∃ t, Blk w g (rowOf w g) t := by
  unfold rowOf at *
  split at h
  · rename_i cs t hg
    exact ⟨t, by unfold Blk; rw [hg]⟩
  · simp at h

theorem rowOf_new (w : World) (cs : Array Value) (t : TypeId) : rowOf (w.alloc (.cells cs t)) w.heap.size = cs := (Blk.new w cs t).row
theorem rowOf_alloc (w : World) (o : Obj) (g : Nat) (h : g < w.heap.size) : rowOf (w.alloc o) g = rowOf w g := by
  unfold rowOf
  rw [Below.heap_alloc w o g h]
theorem rowOf_drew (w : World) (g : Nat) : rowOf w.drew g = rowOf w g := rfl
theorem rowOf_setCell (w : World) (a : Addr) (v : Value) (g : Nat) (h : g ≠ a.block) : rowOf (w.setCell a v) g = rowOf w g := by
  unfold rowOf
  rw [Below.heap_setCell w a v g h]
theorem rowOf_setRow_other (w : World) (k : Nat) (cs : Array Value) (g : Nat) (h : g ≠ k) : rowOf (w.setRow k cs) g = rowOf w g := by
  unfold rowOf
  rw [setRow_other w k g cs h]
theorem Blk.setRow {w : World} {b : Nat} {old : Array Value} {t : TypeId} (h : Blk w b old t) (cs : Array Value) : Blk (w.setRow b cs) b cs t := setRow_heap w b old cs t (0, 0) h
theorem Blk.setRow_other {w : World} {b k : Nat} {old : Array Value} {t : TypeId} (h : Blk w b old t) (cs : Array Value) (hne : b ≠ k) : Blk (w.setRow k cs) b old t := by
  unfold Blk at *
  rw [Go.setRow_other w k b cs hne]
  exact h

theorem setRow_alloc (w : World) (old cs : Array Value) (t : TypeId) : (w.alloc (.cells old t)).setRow w.heap.size cs = w.alloc (.cells cs t) := by
  have : ((w.heap.push (.cells old t)).modify w.heap.size fun | .cells _ e f => .cells cs e f | o => o) = w.heap.push (.cells cs t) := by
    apply Array.ext
    · simp
    · intro i h1 h2
      simp only [Array.getElem_modify, Array.getElem_push]
      by_cases hi : i < w.heap.size
      · have : ¬ w.heap.size = i := by omega
        simp [hi, this]
      · have : w.heap.size = i := by simp at h2; omega
        subst this
        simp
  exact congrArg (fun h => ({ w with heap := h } : World)) this

theorem Kp.setRow {S : Nat → Prop} {a w : World} (h : Kp S a w) {g : Nat} (hg : g < a.heap.size → S g) (cs : Array Value) : Kp S a (w.setRow g cs) :=
  ⟨h.os, h.tape, h.output, by simpa using h.size, fun k hk hn => by
    rw [Go.setRow_other w g k cs (by rintro rfl; exact hn (hg hk))]
    exact h.block k hk hn⟩

variable {P : Program}

theorem load_row {t : TypeId} {d : TypeDesc} {n : Nat} (hu : P.underlying t = some d) (hd : (match d with | .struct _ | .array _ _ => true | _ => false) = true) (hi : (P.info? t).map (·.size) = some n) (hn : 0 < n)
    (w : World) (g : Nat) (h : (rowOf w g).size = n) : (Instr.loadAt t (.pointer (some ⟨g, 0, none⟩))).run P w = .ok (.agg (rowOf w g)) w := by
  obtain ⟨t', hb⟩ := rowOf_blk (w := w) (g := g) (by omega)
  have := run_loadVar_row (P := P) w g t' t (rowOf w g) (0, 0) d hb hu hd (by rw [hi, h])
  simp only [Instr.loadAt, Instr.sureAddr, Sem.run_bind, Sem.run_pure, Result.andThen_ok, this]

theorem storeCells_row (w : World) (g : Nat) (t : TypeId) : ∀ (vs : List Value) (i : Nat) (pre old : List Value), pre.length = i → vs.length = old.length → (vs.all (·.oneCell')) = true → Blk w g (pre ++ old).toArray t →
    (storeCells ⟨g, 0, none⟩ vs i).run P w = .ok () (w.setRow g (pre ++ vs).toArray)
  | [], i, pre, old, _, hl, _, hb => by
    obtain rfl : old = [] := List.eq_nil_of_length_eq_zero hl.symm
    have : w.setRow g (pre ++ []).toArray = w := by
      rw [List.append_nil] at *
      exact setRow_self w g _ t (0, 0) hb
    simp only [storeCells, Sem.run_pure, this]
  | v :: vs, i, pre, [], _, hl, _, _ => by simp at hl
  | v :: vs, i, pre, u :: old, hi, hl, h1, hb => by
    simp only [List.all_cons, Bool.and_eq_true] at h1
    have hadd : (⟨g, 0, none⟩ : Addr).add i = ⟨g, i, none⟩ := by unfold Addr.add; split <;> simp_all
    have hc : w.cell? ⟨g, i, none⟩ = some u := by
      rw [hb.cell i]
      simp [← hi]
    have hf : w.frozen? ⟨g, i, none⟩ = false := hb.frozen i
    have hst : (store (⟨g, i, none⟩ : Addr) v).run P w = .ok () (w.setCell ⟨g, i, none⟩ v) := by
      have := run_store P w ⟨g, i, none⟩ v .plain
      cases v <;> simp_all [Value.oneCell']
    have hb' : Blk (w.setCell ⟨g, i, none⟩ v) g ((pre ++ [v]) ++ old).toArray t := by
      have := hb.set i v
      simpa [← hi] using this
    have ih := storeCells_row (w.setCell ⟨g, i, none⟩ v) g t vs (i + 1) (pre ++ [v]) old (by simp [hi]) (by simpa using hl) h1.2 hb'
    have hset : (w.setCell ⟨g, i, none⟩ v) = w.setRow g ((pre ++ [v]) ++ old).toArray := by
      rw [setCell_eq_setRow w g i _ t (0, 0) v hb]
      simp [← hi]
    simp only [storeCells, Sem.run_bind, hadd, hst, Result.andThen_ok, ih]
    rw [hset, setRow_setRow]
    simp

theorem store_row {t : TypeId} {n : Nat} (hi : (P.info? t).map (·.size) = some n) (hn : 0 < n)
    (w : World) (g : Nat) (cs : Array Value) (h : (rowOf w g).size = n) (hc : cs.size = n) (h1 : oneB cs = true) : (Instr.storeAt t (.pointer (some ⟨g, 0, none⟩)) (.agg cs)).run P w = .ok () (w.setRow g cs) := by
  obtain ⟨t', hb⟩ := rowOf_blk (w := w) (g := g) (by omega)
  obtain ⟨i, hi1, hi2⟩ := Option.map_eq_some_iff.1 hi
  have := storeCells_row (P := P) w g t' cs.toList 0 [] (rowOf w g).toList rfl (by simp [h, hc]) h1 (by simpa using hb)
  have hs : ¬ cs.size ≠ i.size := by omega
  simp only [Instr.storeAt, Instr.sureAddr, Sem.run_bind, Sem.run_pure, Result.andThen_ok, storeVar, sizeOf, typeInfo, Value.cells]
  simp [hs, hi1, this]

/-! ### The rules at the whole operation, for the walk -/
def isPtr0 : Value → Bool | .pointer (some ⟨_, 0, none⟩) => true | _ => false
def blkOf : Value → Nat | .pointer (some a) => a.block | _ => 0
def isAggV : Value → Bool | .agg _ => true | _ => false
theorem isPtr0_ptr (g : Nat) : isPtr0 (.pointer (some ⟨g, 0, none⟩)) = true := rfl
theorem blkOf_ptr (a : Addr) : blkOf (.pointer (some a)) = a.block := rfl
theorem isAggV_agg (cs : Array Value) : isAggV (.agg cs) = true := rfl
theorem cells_agg (cs : Array Value) : (Value.agg cs).cells = cs := rfl

theorem ex_load {t : TypeId} {d : TypeDesc} {n : Nat} (hu : P.underlying t = some d) (hd : (match d with | .struct _ | .array _ _ => true | _ => false) = true) (hi : (P.info? t).map (·.size) = some n) (hn : 0 < n)
    (ρ : Operand → Value) (dst : Option Tmp) (x : Operand) (ty : TypeId) (pos : String) (after : Array Edge) (gd : Option (Nat × Bool)) (w : World)
    (hp : isPtr0 (ρ x) = true) (h : (rowOf w (blkOf (ρ x))).size = n) : (execOp ρ ⟨dst, .load t x, ty, pos, after, gd⟩).run P w = .ok (.value (.agg (rowOf w (blkOf (ρ x))))) w := by
  generalize hv : ρ x = v at *
  unfold isPtr0 at hp
  split at hp
  · rename_i g
    have := load_row (P := P) hu hd hi hn w g h
    simp only [execOp, Sem.run_bind, hv, this, Result.andThen_ok, Sem.run_pure, blkOf]
  · cases hp

theorem ex_store {t : TypeId} {n : Nat} (hi : (P.info? t).map (·.size) = some n) (hn : 0 < n)
    (ρ : Operand → Value) (dst : Option Tmp) (x y : Operand) (ty : TypeId) (pos : String) (after : Array Edge) (gd : Option (Nat × Bool)) (w : World)
    (hp : isPtr0 (ρ x) = true) (hy : isAggV (ρ y) = true) (h : (rowOf w (blkOf (ρ x))).size = n) (hc : (ρ y).cells.size = n) (h1 : oneB (ρ y).cells = true) :
    (execOp ρ ⟨dst, .store t x y, ty, pos, after, gd⟩).run P w = .ok .skip (w.setRow (blkOf (ρ x)) (ρ y).cells) := by
  generalize hv : ρ x = v at *
  generalize hz : ρ y = z at *
  unfold isPtr0 at hp
  unfold isAggV at hy
  split at hp
  · rename_i g
    split at hy
    · rename_i cs
      have := store_row (P := P) hi hn w g cs h hc h1
      simp only [execOp, Sem.run_bind, hv, hz, this, Result.andThen_ok, Sem.run_pure, blkOf, Value.cells]
    · cases hy
  · cases hp

/-- Two results, the first a struct that lies in block g. -/
theorem results_struct_tmp {fn : Func} {p u : Tmp} {ty : TypeId} {d : TypeDesc} {n : Nat} (h : fn.results = #[.cell p ty, .tmp u]) (hu : P.underlying ty = some d) (hd : (match d with | .struct _ | .array _ _ => true | _ => false) = true) (hi : (P.info? ty).map (·.size) = some n) (hn : 0 < n)
    {tmps : Array Value} {w : World} {g : Nat} {cs : Array Value} {v : Value} (hp : tmps.getD p undef = .pointer (some ⟨g, 0, none⟩)) (hv : tmps.getD u undef = v) (hr : rowOf w g = cs) (hc : cs.size = n) :
    (results fn tmps).run P w = .ok (.tuple #[.agg cs, v]) w := by
  subst hr
  obtain ⟨t', hb⟩ := rowOf_blk (w := w) (g := g) (by omega)
  have := run_loadVar_row (P := P) w g t' ty (rowOf w g) (0, 0) d hb hu hd (by rw [hi, hc])
  rw [results_cell_tmp h, hp, hv]
  simp [asAddr, this, Result.andThen]

theorem oneB_lit (l : List Value) : oneB l.toArray = l.all (·.oneCell') := rfl

theorem ex_alloc {t : TypeId} {z : Array Value} (hz : ∀ w, (zeroValue t).run P w = .ok (.agg z) w) (ρ : Operand → Value) (dst : Option Tmp) (ty : TypeId) (pos : String) (after : Array Edge) (gd : Option (Nat × Bool)) (w : World) :
    (execOp ρ ⟨dst, .alloc t, ty, pos, after, gd⟩).run P w = .ok (.value (.pointer (some ⟨w.heap.size, 0, none⟩))) (w.alloc (.cells z t)) := by
  simp only [execOp, Instr.alloc, Sem.run_bind, hz, Result.andThen_ok]
  rfl

theorem ex_build0 {t : TypeId} {z : Array Value} (hz : ∀ w, (Instr.build t #[]).run P w = .ok (.agg z) w) (ρ : Operand → Value) (dst : Option Tmp) (ty : TypeId) (pos : String) (after : Array Edge) (gd : Option (Nat × Bool)) (w : World) :
    (execOp ρ ⟨dst, .build t #[], ty, pos, after, gd⟩).run P w = .ok (.value (.agg z)) w := by
  simp [execOp, hz, Result.andThen]
/-! ### A struct that is loaded from the middle of a row -/
def adrOf : Value → Addr | .pointer (some a) => a | _ => ⟨0, 0, none⟩
def isPtrA : Value → Bool | .pointer (some _) => true | _ => false
theorem adrOf_ptr (a : Addr) : adrOf (.pointer (some a)) = a := rfl
theorem isPtrA_ptr (a : Addr) : isPtrA (.pointer (some a)) = true := rfl
/-- n cells from a on. -/
def rdAt (w : World) (a : Addr) (n : Nat) : Option (Array Value) := ((List.range n).mapM fun i => w.cell? (a.add i)).map List.toArray

theorem rdAt_cells {w : World} {a : Addr} {n : Nat} {es : Array Value} (h : rdAt w a n = some es) : es.size = n ∧ ∀ j, j < n → w.cell? (a.add j) = es[j]? := by
  obtain ⟨l, hl, rfl⟩ := Option.map_eq_some_iff.1 h
  have key : ∀ (is : List Nat) (out : List Value), is.mapM (fun i => w.cell? (a.add i)) = some out → out.length = is.length ∧ ∀ (j : Nat) (x : Nat), is[j]? = some x → w.cell? (a.add x) = out[j]? := by
    intro is
    induction is with
    | nil => intro out ho; simp at ho; subst ho; simp
    | cons x xs ih =>
      intro out ho
      rw [List.mapM_cons] at ho
      obtain ⟨y, hy, ho⟩ := Option.bind_eq_some_iff.1 ho
      obtain ⟨ys, hys, ho⟩ := Option.bind_eq_some_iff.1 ho
      obtain rfl : y :: ys = out := by simpa using ho
      obtain ⟨hl, hj⟩ := ih ys hys
      refine ⟨by simp [hl], fun j z hz => ?_⟩
      cases j with
      | zero => simp at hz; subst hz; simpa using hy
      | succ j => simpa using hj j z (by simpa using hz)
  obtain ⟨h1, h2⟩ := key _ _ hl
  exact ⟨by simpa using h1, fun j hj => by simpa using h2 j j (by simp [hj])⟩

theorem rdAt_of {w : World} {a : Addr} {es : List Value} (h : ∀ j, j < es.length → w.cell? (a.add j) = es[j]?) : rdAt w a es.length = some es.toArray := by
  have key : ∀ (n k : Nat), (∀ j, j < n → w.cell? (a.add (k + j)) = es[k + j]?) → k + n = es.length → ((List.range' k n).mapM fun i => w.cell? (a.add i)) = some (es.drop k) := by
    intro n
    induction n with
    | zero => intro k _ hk; simp [List.drop_of_length_le (show es.length ≤ k by omega)]
    | succ n ih =>
      intro k hc hk
      have h0 := hc 0 (by omega)
      simp only [Nat.add_zero] at h0
      rw [List.getElem?_eq_getElem (by omega)] at h0
      have := ih (k + 1) (fun j hj => by have := hc (j + 1) (by omega); rwa [show k + (j + 1) = k + 1 + j by omega] at this) (by omega)
      rw [List.range'_succ, List.mapM_cons, h0]
      simp [this]
  have := key es.length 0 (fun j hj => by simpa using h j hj) (by omega)
  unfold rdAt
  rw [List.range_eq_range', this]
  simp

theorem rdAt_below {B : Nat} {w w' : World} {a : Addr} {n : Nat} {es : Array Value} (h : rdAt w a n = some es) (k : Below B w w') (hb : a.block < B) : rdAt w' a n = some es := by
  unfold rdAt at *
  have : (fun i => w'.cell? (a.add i)) = fun i => w.cell? (a.add i) := by
    funext i
    have hab : (a.add i).block = a.block := by unfold Addr.add; split <;> rfl
    exact k.cell (p := a.add i) (by rw [hab]; exact hb)
  rw [this]
  exact h

theorem ex_load_at {t : TypeId} {d : TypeDesc} {n : Nat} (hu : P.underlying t = some d) (hd : (match d with | .struct _ | .array _ _ => true | _ => false) = true) (hi : (P.info? t).map (·.size) = some n)
    (ρ : Operand → Value) (dst : Option Tmp) (x : Operand) (ty : TypeId) (pos : String) (after : Array Edge) (gd : Option (Nat × Bool)) (w : World)
    (hp : isPtrA (ρ x) = true) (h : (rdAt w (adrOf (ρ x)) n).isSome = true) : (execOp ρ ⟨dst, .load t x, ty, pos, after, gd⟩).run P w = .ok (.value (.agg ((rdAt w (adrOf (ρ x)) n).getD #[]))) w := by
  generalize hv : ρ x = v at *
  unfold isPtrA at hp
  split at hp
  · rename_i a
    simp only [adrOf] at h ⊢
    obtain ⟨es, he⟩ := Option.isSome_iff_exists.1 h
    obtain ⟨h1, h2⟩ := rdAt_cells he
    have hl : (loadCells a es.toList.length).run P w = .ok es.toList.toArray w :=
      run_loadCells_list (P := P) w a es.toList (fun j v hv => by
        have hj : j < n := by
          have := (List.getElem?_eq_some_iff.1 hv).1
          simp at this
          omega
        rw [h2 j hj]
        simpa using hv)
    obtain ⟨i, hi1, hi2⟩ := Option.map_eq_some_iff.1 hi
    have hagg : (isAgg t).run P w = .ok true w := by
      unfold isAgg
      rw [Sem.run_bind, run_underlying hu w]
      cases d <;> simp_all
    simp only [Array.length_toList, Array.toArray_toList, h1] at hl
    simp [execOp, hv, Instr.loadAt, Instr.sureAddr, loadVar, Sem.run_bind, hagg, sizeOf, typeInfo, hi1, hi2, hl, he, Result.andThen]
  · cases hp

/-- A struct's cells laid into the zero one's, cell by cell. -/
theorem fold_set_at : ∀ (l pre old : List Value) (k : Nat), pre.length = k → old.length = l.length →
    List.foldl (fun (cs : Array Value) (x : Value × Nat) => cs.setIfInBounds x.2 x.1) (pre ++ old).toArray (l.zipIdx k) = (pre ++ l).toArray
  | [], pre, old, k, _, h => by
    have : old = [] := List.eq_nil_of_length_eq_zero (by simpa using h)
    simp [this]
  | x :: l, pre, old, k, hk, h => by
    cases old with
    | nil => simp at h
    | cons o old =>
      have ih := fold_set_at l (pre ++ [x]) old (k + 1) (by simp [hk]) (by simpa using h)
      rw [List.zipIdx_cons, List.foldl_cons]
      have : (pre ++ o :: old).toArray.setIfInBounds k x = (pre ++ [x] ++ old).toArray := by
        subst hk
        simp
      rw [this, ih]
      simp
theorem fold_set (Z : Array Value) (l : List Value) (h : Z.size = l.length) : List.foldl (fun (cs : Array Value) (x : Value × Nat) => cs.setIfInBounds x.2 x.1) Z l.zipIdx = l.toArray := by
  have := fold_set_at l [] Z.toList 0 rfl (by simpa using h)
  simpa using this

end Go.Proofs.Ytahopbjoaoiknaa
