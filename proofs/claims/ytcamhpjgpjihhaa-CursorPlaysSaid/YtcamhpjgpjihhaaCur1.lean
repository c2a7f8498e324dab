/- Cursor: the table's state, told; New, mine, right, own, Len. -/
import Derived.Test.YtcamhpjgpjihhaaStrs
import Derived.Test.YtcamhpjgpjihhaaShelf
import Derived.Test.YtcamhpjgpjihhaaKt
import Derived.Test.YtcamhpjgpjihhaaApdS
import Derived.Deep.RegionLaw
import Derived.Lib.SliceRun
namespace Go.Proofs.Ytcamhpjgpjihhaa
set_option linter.unusedVariables false
set_option linter.unusedSimpArgs false
open Go.RowKit

abbrev I32 (n : Int) : Value := .int .i32 n
def OwnI (w : World) (B : Nat) (v : Value) (l : List Int) : Prop := OwnR 21 (fun n => .int .i32 n) w B v l
def OwnT (w : World) (B : Nat) (v : Value) (l : List ByteArray) : Prop := OwnR 9 (fun s => .string s) w B v l

theorem OwnI.ints {w : World} {B : Nat} {v : Value} {l : List Int} (h : OwnI w B v l) : Ints .i32 w v l := OwnR.row h
theorem OwnT.strs {w : World} {B : Nat} {v : Value} {l : List ByteArray} (h : OwnT w B v l) : Strs w v l := OwnR.row h

theorem infoI32 : (Try.prog.info? 21).map (fun i => (i.zero, i.size, i.bytes)) = some (some (.int .i32 0), 1, 4) := by kernel_rfl
theorem infoStr0 : (Try.prog.info? 9).map (fun i => (i.zero, i.size, i.bytes)) = some (some (.string ByteArray.empty), 1, 16) := by kernel_rfl

/-- slices.Clone, at whatever slice of numbers. -/
theorem clone_ints (v : Value) (l : List Int) (w : World) (h : Ints .i32 w v l) (hl : l.length ≤ 30000000000000) :
    Calls Try.prog 66 #[v] w fun e w' => ∃ v', e = .returned v' ∧ OwnI w' w.heap.size v' l ∧ Kp (fun _ => False) w w' := by
  obtain ⟨A, cap, rfl, hlc, hcm, hrow⟩ := h.one
  cases A with
  | none =>
    have hl0 : l = [] := by
      cases l with
      | nil => rfl
      | cons s r => obtain ⟨b, off, e, _⟩ := hrow 0 (by simp); cases e
    subst hl0
    have q : (binOp .eql 45 (.slice none 0 cap) (.slice none 0 0)).run Try.prog w = .ok (.bool true) w := Lib.run_eql_slice_nil w _ _ none _ _ 0 0 Try.underlying45
    clear hrow h hl hlc hcm
    go_enter Try.func66, Try.ntmps66
    go_wp2_with fail
    go_ret
    exact ⟨_, rfl, OwnR.nil _ _ _ _, Kp.refl _ _⟩
  | some a =>
    have hH := Lib.hid h
    have q : (binOp .eql 45 (.slice (some a) l.length cap) (.slice none 0 0)).run Try.prog w = .ok (.bool false) w := Lib.run_eql_slice_nil w _ _ (some a) _ _ 0 0 Try.underlying45
    clear hrow h hlc hcm
    have o1 : (w.alloc (.cells #[] 21)).ownsRow w.heap.size 21 1 (.slice (some ⟨w.heap.size, 0, none⟩) 0 0) 0 [] := World.ownsRow_lit w #[] 0 (Nat.le_refl _) (by simp) rfl
    have o1 := Lib.hid o1
    go_enter Try.func66, Try.ntmps66
    go_wp2_with (at_builtin; refine wpList_append_row (w := w.alloc (.cells #[] 21)) w.heap.size rfl (.tmp 5) (.tmp 6) 45 21 (.int .i32 0) 4 rfl Try.underlying45 infoI32 rfl _ 0 [] (fun n => .int .i32 n) (fun _ => rfl) _ l rfl rfl o1.out (hH.out.keeps (Keeps.alloc _ _)) (by omega) (by omega) (by simp) ?_)
    intro A1 cap1 w1 hown hg
    have kk := ((Kp.refl (fun _ => False) w).alloc (.cells #[] 21)).then_ (Kp.of_grown (S := fun g => w.heap.size ≤ g) hg (fun k h => by simp [Value.ownBlock] at h; omega)) (fun i hi h => absurd hi (by omega))
    have ho : OwnI w1 w.heap.size (.slice A1 l.length cap1) l := by unfold OwnI OwnR; simpa using hown
    clear hown hg o1
    go_wp2_with fail
    go_ret
    exact ⟨_, rfl, ho, kk⟩

theorem clone_strs (v : Value) (l : List ByteArray) (w : World) (h : Strs w v l) (hl : l.length ≤ 8000000000000) :
    Calls Try.prog 49 #[v] w fun e w' => ∃ v', e = .returned v' ∧ OwnT w' w.heap.size v' l ∧ Kp (fun _ => False) w w' := by
  obtain ⟨A, cap, rfl, hlc, hcm, hrow⟩ := h.one
  cases A with
  | none =>
    have hl0 : l = [] := by
      cases l with
      | nil => rfl
      | cons s r => obtain ⟨b, off, e, _⟩ := hrow 0 (by simp); cases e
    subst hl0
    have q : (binOp .eql 22 (.slice none 0 cap) (.slice none 0 0)).run Try.prog w = .ok (.bool true) w := Lib.run_eql_slice_nil w _ _ none _ _ 0 0 Try.underlying22
    clear hrow h hl hlc hcm
    go_enter Try.func49, Try.ntmps49
    go_wp2_with fail
    go_ret
    exact ⟨_, rfl, OwnR.nil _ _ _ _, Kp.refl _ _⟩
  | some a =>
    have hH := Lib.hid h
    have q : (binOp .eql 22 (.slice (some a) l.length cap) (.slice none 0 0)).run Try.prog w = .ok (.bool false) w := Lib.run_eql_slice_nil w _ _ (some a) _ _ 0 0 Try.underlying22
    clear hrow h hlc hcm
    have o1 : (w.alloc (.cells #[] 9)).ownsRow w.heap.size 9 1 (.slice (some ⟨w.heap.size, 0, none⟩) 0 0) 0 [] := World.ownsRow_lit w #[] 0 (Nat.le_refl _) (by simp) rfl
    have o1 := Lib.hid o1
    go_enter Try.func49, Try.ntmps49
    go_wp2_with (at_builtin; refine wpList_append_row (w := w.alloc (.cells #[] 9)) w.heap.size rfl (.tmp 5) (.tmp 6) 22 9 (.string ByteArray.empty) 16 rfl Try.underlying22 infoStr0 rfl _ 0 [] (fun n => .string n) (fun _ => rfl) _ l rfl rfl o1.out (hH.out.keeps (Keeps.alloc _ _)) (by omega) (by omega) (by simp) ?_)
    intro A1 cap1 w1 hown hg
    have kk := ((Kp.refl (fun _ => False) w).alloc (.cells #[] 9)).then_ (Kp.of_grown (S := fun g => w.heap.size ≤ g) hg (fun k h => by simp [Value.ownBlock] at h; omega)) (fun i hi h => absurd hi (by omega))
    have ho : OwnT w1 w.heap.size (.slice A1 l.length cap1) l := by unfold OwnT OwnR; simpa using hown
    clear hown hg o1
    go_wp2_with fail
    go_ret
    exact ⟨_, rfl, ho, kk⟩

theorem results_cell1 {fn : Func} {p : Tmp} {ty : TypeId} (h : fn.results = #[.cell p ty]) (tmps : Array Value) (P : Program) (w : World) :
    (results fn tmps).run P w = ((asAddr (tmps.getD p undef)).run P w).andThen fun a w₁ => (loadVar ty a).run P w₁ := by
  simp only [results, h]
  simp [Sem.run_bind, Result.andThen]

/-- One result, a struct that lies in block g. -/
theorem results_struct1 {P : Program} {fn : Func} {p : Tmp} {ty : TypeId} {d : TypeDesc} {n : Nat} (h : fn.results = #[.cell p ty]) (hu : P.underlying ty = some d) (hd : (match d with | .struct _ | .array _ _ => true | _ => false) = true) (hi : (P.info? ty).map (·.size) = some n) (hn : 0 < n)
    {tmps : Array Value} {w : World} {g : Nat} {cs : Array Value} (hp : tmps.getD p undef = .pointer (some ⟨g, 0, none⟩)) (hr : rowOf w g = cs) (hc : cs.size = n) :
    (results fn tmps).run P w = .ok (.agg cs) w := by
  subst hr
  obtain ⟨t', hb⟩ := rowOf_blk (w := w) (g := g) (by omega)
  have := run_loadVar_row (P := P) w g t' ty (rowOf w g) (0, 0) d hb hu hd (by rw [hi, hc])
  rw [results_cell1 h, hp]
  simp [asAddr, this, Result.andThen]

/-- What is asked for, told. -/
structure AskC where
  pin : Int
  vec : List Int
  al : List ByteArray
  an : List ByteArray
  no : List ByteArray
  has : Bool
  ld : Int
  li : Int

def AskC.small (c : AskC) : Prop := c.vec.length ≤ 30000000000000 ∧ c.al.length ≤ 8000000000000 ∧ c.an.length ≤ 8000000000000 ∧ c.no.length ≤ 8000000000000

/-- Its cells, the slices read only. -/
def AskR (w : World) (cs : List Value) (c : AskC) : Prop :=
  ∃ v a y n, cs = [.int .i64 c.pin, v, a, y, n, .bool c.has, .int .i64 c.ld, .int .u32 c.li] ∧ Ints .i32 w v c.vec ∧ Strs w a c.al ∧ Strs w y c.an ∧ Strs w n c.no
/-- Its cells, the slices of the call's own. -/
def AskO (w : World) (B : Nat) (cs : List Value) (c : AskC) : Prop :=
  ∃ v a y n, cs = [.int .i64 c.pin, v, a, y, n, .bool c.has, .int .i64 c.ld, .int .u32 c.li] ∧ OwnI w B v c.vec ∧ OwnT w B a c.al ∧ OwnT w B y c.an ∧ OwnT w B n c.no

theorem AskO.reads {w : World} {B : Nat} {cs : List Value} {c : AskC} (h : AskO w B cs c) : AskR w cs c := by
  obtain ⟨v, a, y, n, e, h1, h2, h3, h4⟩ := h
  exact ⟨v, a, y, n, e, h1.ints, h2.strs, h3.strs, h4.strs⟩
theorem AskR.keeps {w w' : World} {cs : List Value} {c : AskC} (h : AskR w cs c) (k : Keeps w w') : AskR w' cs c := by
  obtain ⟨v, a, y, n, e, h1, h2, h3, h4⟩ := h
  exact ⟨v, a, y, n, e, h1.keeps k, h2.keeps k, h3.keeps k, h4.keeps k⟩
theorem AskO.kt {B B' : Nat} {T : TypeId → Prop} {M : Prop} {w w' : World} {cs : List Value} {c : AskC} (h : AskO w B cs c) (k : Kt B' T M w w') (h1 : ¬ T 21) (h2 : ¬ T 9) : AskO w' B cs c := by
  obtain ⟨v, a, y, n, e, p1, p2, p3, p4⟩ := h
  exact ⟨v, a, y, n, e, OwnR.kt p1 k h1, OwnR.kt p2 k h2, OwnR.kt p3 k h2, OwnR.kt p4 k h2⟩
theorem AskO.kp {B : Nat} {w w' : World} {cs : List Value} {c : AskC} (h : AskO w B cs c) (k : Kp (fun _ => False) w w') : AskO w' B cs c := by
  obtain ⟨v, a, y, n, e, p1, p2, p3, p4⟩ := h
  exact ⟨v, a, y, n, e, OwnR.kp p1 k, OwnR.kp p2 k, OwnR.kp p3 k, OwnR.kp p4 k⟩
theorem AskO.base {B B' : Nat} {w : World} {cs : List Value} {c : AskC} (h : AskO w B cs c) (hb : B' ≤ B) : AskO w B' cs c := by
  obtain ⟨v, a, y, n, e, p1, p2, p3, p4⟩ := h
  exact ⟨v, a, y, n, e, OwnR.base p1 hb, OwnR.base p2 hb, OwnR.base p3 hb, OwnR.base p4 hb⟩
end Go.Proofs.Ytcamhpjgpjihhaa
