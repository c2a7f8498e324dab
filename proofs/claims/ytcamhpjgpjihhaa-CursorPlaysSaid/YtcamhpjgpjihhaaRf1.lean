/- The reference's table of cursors: its state; At, Right, cut. -/
import Derived.Test.YtcamhpjgpjihhaaCur14
import Derived.Test.YtcamhpjgpjihhaaRws
namespace Go.Proofs.Ytcamhpjgpjihhaa
set_option linter.unusedVariables false
set_option linter.unusedSimpArgs false
open Go.RowKit

abbrev EndC := Bool × Int × Int
def endV (e : EndC) : List Value := [.bool e.1, .int .i64 e.2.1, .int .u32 e.2.2]
/-- The ends of a cursor's pages. -/
def EndsO (w : World) (base : Nat) (v : Value) (es : List EndC) : Prop := RowsO 113 3 w base v (es.map endV)

structure RC where
  n : Int
  owner : Int
  ask : AskC
  ends : List EndC
  used : Int

def rowC (r : RC) (v a y n ev : Value) : List Value :=
  [.int .u32 r.n, .int .u64 r.owner, .int .i64 r.ask.pin, v, a, y, n, .bool r.ask.has, .int .i64 r.ask.ld, .int .u32 r.ask.li, ev, .int .u32 r.used]
/-- The cells m are those of the cursor r: its lists came in (as they were at w0), its ends are the table's own. -/
def RowC (w0 w : World) (B : Nat) (m : List Value) (r : RC) : Prop :=
  ∃ v a y n ev, m = rowC r v a y n ev ∧ AskR w0 [.int .i64 r.ask.pin, v, a, y, n, .bool r.ask.has, .int .i64 r.ask.ld, .int .u32 r.ask.li] r.ask ∧ EndsO w B ev r.ends

def RTab (w0 w : World) (B c : Nat) (idle last : Int) (rs : List RC) : Prop :=
  B ≤ c ∧ ∃ v ms, Blk w c #[.int .u32 idle, v, .int .u32 last] 70 ∧ RowsO 80 12 w B v ms ∧ Par (RowC w0 w B) ms rs

/-- The types whose rows the table's functions turn. -/
def TR (t : TypeId) : Prop := t = 70 ∨ t = 80

theorem EndsO.kt {B : Nat} {T : TypeId → Prop} {M : Prop} {w w' : World} {base : Nat} {v : Value} {es : List EndC} (h : EndsO w base v es) (k : Kt B T M w w') (hn : ¬ T 113) : EndsO w' base v es := RowsO.kt h k hn
theorem RowC.kt {B0 : Nat} {T : TypeId → Prop} {M : Prop} {w0 w w' : World} {B : Nat} {m : List Value} {r : RC} (h : RowC w0 w B m r) (k : Kt B0 T M w w') (hn : ¬ T 113) : RowC w0 w' B m r := by
  obtain ⟨v, a, y, n, ev, e, h1, h2⟩ := h
  exact ⟨v, a, y, n, ev, e, h1, h2.kt k hn⟩
theorem RTab.kt {B0 : Nat} {T : TypeId → Prop} {M : Prop} {w0 w w' : World} {B c : Nat} {idle last : Int} {rs : List RC} (h : RTab w0 w B c idle last rs) (k : Kt B0 T M w w') (h1 : ¬ T 113) (h2 : ¬ T 80) (h3 : ¬ T 70) : RTab w0 w' B c idle last rs := by
  obtain ⟨hc, v, ms, p1, p2, p3⟩ := h
  exact ⟨hc, v, ms, p1.kt k h3, p2.kt k h2, p3.mono fun _ _ q => q.kt k h1⟩
theorem RTab.kp {w0 w w' : World} {B c : Nat} {idle last : Int} {rs : List RC} (h : RTab w0 w B c idle last rs) (k : Kp (fun _ => False) w w') : RTab w0 w' B c idle last rs :=
  h.kt (Kt.of_kp (B := 0) (T := fun _ => False) (M := False) k) id id id

/-- The table's place k: its slice, its cells. -/
theorem RTab.look {w0 w : World} {B c : Nat} {idle last : Int} {rs : List RC} (h : RTab w0 w B c idle last rs) {k : Nat} (hk : k < rs.length) :
    ∃ g cap v a y n ev, w.cell? ⟨c, 1, none⟩ = some (.slice (some ⟨g, 0, none⟩) rs.length cap) ∧ rdAt w ⟨g, k * 12, none⟩ 12 = some (rowC rs[k] v a y n ev).toArray ∧
      (∀ j, j < 12 → w.cell? ⟨g, k * 12 + j, none⟩ = (rowC rs[k] v a y n ev)[j]?) ∧ AskR w0 [.int .i64 rs[k].ask.pin, v, a, y, n, .bool rs[k].ask.has, .int .i64 rs[k].ask.ld, .int .u32 rs[k].ask.li] rs[k].ask ∧ EndsO w B ev rs[k].ends ∧ g < w.heap.size := by
  obtain ⟨hc, v, ms, p1, p2, p3⟩ := h
  obtain ⟨hk', v1, a, y, n, ev, e, h1, h2⟩ := p3.at hk
  obtain ⟨g, cap, rfl, hg, hlt⟩ := p2.big (by omega)
  obtain ⟨q1, q2, _⟩ := p2.at k hk'
  rw [e] at q1 q2
  exact ⟨g, cap, v1, a, y, n, ev, by rw [p1.cell 1, ← p3.1]; rfl, q1, q2, h1, h2, hlt⟩
theorem RTab.slice {w0 w : World} {B c : Nat} {idle last : Int} {rs : List RC} (h : RTab w0 w B c idle last rs) : ∃ A cap, w.cell? ⟨c, 1, none⟩ = some (.slice A rs.length cap) ∧ w.cell? ⟨c, 0, none⟩ = some (.int .u32 idle) ∧ w.cell? ⟨c, 2, none⟩ = some (.int .u32 last) := by
  obtain ⟨hc, v, ms, p1, p2, p3⟩ := h
  obtain ⟨A, cap, rfl⟩ := p2.form
  exact ⟨A, cap, by rw [p1.cell 1, ← p3.1]; rfl, (p1.cell 0).trans rfl, (p1.cell 2).trans rfl⟩

def AtRel (n i : Nat) (v : Value) : Prop := ∃ k : Nat, k ≤ i ∧ v = .int .i64 k
set_option maxHeartbeats 1000000 in
theorem r14_at_yes {w0 w : World} {B c : Nat} {idle last : Int} {rs : List RC} (h : RTab w0 w B c idle last rs) {i : Nat} {n : Int} (hi : i < rs.length) (hn : rs[i].n = n) (hf : ∀ j (_ : j < i) (hj : j < rs.length), rs[j].n ≠ n) (hl : rs.length ≤ 1000) :
    Calls Try.prog 38 #[.pointer (some ⟨c, 0, none⟩), .int .u32 n] w fun e w' => e = .returned (.int .i64 i) ∧ w = w' := by
  obtain ⟨A, cap, c1, -, -⟩ := h.slice
  have hlook := Lib.hid (fun (k : Nat) (hk : k < rs.length) => h.look hk)
  have hf := Lib.hid hf
  have hn := Lib.hid hn
  clear h
  go_enter Try.func38, Try.ntmps38
  go_wp2_with fail
  go_loop [5] (fun v => AtRel 0 i v) (fun v => i - (intOf v).toNat)
  case atStart => exact ⟨0, by omega, rfl⟩
  case round =>
    obtain ⟨k, hk, rfl⟩ := hrel
    have hkl : k < rs.length := by omega
    obtain ⟨g, cap', v, a, y, z, ev, d1, -, d2, -, -, -⟩ := hlook.out k hkl
    have d0 := (d2 0 (by omega)).trans (show _ = some (Value.int .u32 rs[k].n) from rfl)
    rw [Nat.add_zero] at d0
    rw [c1] at d1
    simp only [Option.some.injEq, Value.slice.injEq] at d1
    obtain ⟨rfl, -, rfl⟩ := d1
    clear d2
    by_cases hki : k = i
    · subst hki
      have e1 : (rs[k].n == n) = true := by simpa using hn.out
      go_wp2_with fail
      go_ret
      exact ⟨rfl, rfl⟩
    · have e1 : (rs[k].n == n) = false := by simpa using hf.out k (by omega) hkl
      go_wp2_with fail
      go_round
      case rel => exact ⟨k + 1, by omega, by go_num⟩
      case measure => simp [intOf]; omega
set_option maxHeartbeats 1000000 in
theorem r14_at_no {w0 w : World} {B c : Nat} {idle last : Int} {rs : List RC} (h : RTab w0 w B c idle last rs) {n : Int} (hf : ∀ r ∈ rs, r.n ≠ n) (hl : rs.length ≤ 1000) :
    Calls Try.prog 38 #[.pointer (some ⟨c, 0, none⟩), .int .u32 n] w fun e w' => e = .returned (.int .i64 (-1)) ∧ w = w' := by
  obtain ⟨A, cap, c1, -, -⟩ := h.slice
  have hlook := Lib.hid (fun (k : Nat) (hk : k < rs.length) => h.look hk)
  have hf := Lib.hid hf
  clear h
  go_enter Try.func38, Try.ntmps38
  go_wp2_with fail
  go_loop [5] (fun v => AtRel 0 rs.length v) (fun v => rs.length - (intOf v).toNat)
  case atStart => exact ⟨0, by omega, rfl⟩
  case round =>
    obtain ⟨k, hk, rfl⟩ := hrel
    by_cases hkl : k < rs.length
    · obtain ⟨g, cap', v, a, y, z, ev, d1, -, d2, -, -, -⟩ := hlook.out k hkl
      have d0 := (d2 0 (by omega)).trans (show _ = some (Value.int .u32 rs[k].n) from rfl)
      rw [Nat.add_zero] at d0
      rw [c1] at d1
      simp only [Option.some.injEq, Value.slice.injEq] at d1
      obtain ⟨rfl, -, rfl⟩ := d1
      clear d2
      have e1 : (rs[k].n == n) = false := by simpa using hf.out _ (List.getElem_mem hkl)
      go_wp2_with fail
      go_round
      case rel => exact ⟨k + 1, by omega, by go_num⟩
      case measure => simp [intOf]; omega
    · have hkE : k = rs.length := by omega
      subst hkE
      have e1 : decide (rs.length < rs.length) = false := by simp
      go_wp2_with fail
      go_ret
      exact ⟨rfl, rfl⟩

/-- May a page be asked for? -/
def rightR (r : RC) (page : Int) : Bool := page == (r.ends.length : Int) || (decide (1 < (r.ends.length : Int)) && page == (r.ends.length : Int) - 1)
set_option maxHeartbeats 1000000 in
theorem r14_right (r : RC) (v a y n ev : Value) {w0 : World} {B : Nat} (page : Int) (w : World) (hev : EndsO w0 B ev r.ends) (h1 : 1 ≤ r.ends.length) (h2 : r.ends.length ≤ 1000) (hp : 0 ≤ page ∧ page < 4294967296) :
    Calls Try.prog 61 #[.agg (rowC r v a y n ev).toArray, .int .u32 page] w fun e w' => e = .returned (.bool (rightR r page)) ∧ Kp (fun _ => False) w w' := by
  obtain ⟨A, cap, rfl⟩ := RowsO.form hev
  rw [List.length_map] at *
  clear hev
  obtain ⟨hp0, hp1⟩ := hp
  obtain ⟨q, hq⟩ : ∃ q, Hid (rightR r page = q) := ⟨_, rfl⟩
  rw [hq.out]
  have hq2 := hq.out
  unfold rightR at hq2
  unfold rowC
  generalize r.ends.length = m at *
  by_cases e1 : page = (m : Int)
  · subst e1
    obtain rfl : true = q := by rw [← hq2]; simp
    clear hq2 hq
    go_enter Try.func61, Try.ntmps61
    go_wp2_with fail
    go_ret
    exact ⟨rfl, (Kp.refl _ _).alloc _⟩
  · have e2 : (page == (m : Int)) = false := by simpa using e1
    by_cases e3 : 1 < m
    · have e4 : decide ((0 : Int) < (m : Int) - 1) = true := by simp; omega
      have e5 : decide ((1 : Int) < (m : Int)) = true := by simp; omega
      by_cases e6 : page = (m : Int) - 1
      · subst e6
        obtain rfl : true = q := by rw [← hq2]; simp; omega
        clear hq2 hq
        go_enter Try.func61, Try.ntmps61
        go_wp2_with fail
        go_ret
        exact ⟨rfl, (Kp.refl _ _).alloc _⟩
      · have e7 : (page == (m : Int) - 1) = false := by simpa using e6
        obtain rfl : false = q := by rw [← hq2, e2, e7]; simp
        clear hq2 hq
        go_enter Try.func61, Try.ntmps61
        go_wp2_with fail
        go_ret
        exact ⟨rfl, (Kp.refl _ _).alloc _⟩
    · obtain rfl : m = 1 := by omega
      obtain rfl : false = q := by rw [← hq2, e2]; simp
      have e8 : (page == 1) = false := by simpa using e1
      clear hq2 hq
      go_enter Try.func61, Try.ntmps61
      go_wp2_with fail
      go_ret
      exact ⟨rfl, (Kp.refl _ _).alloc _⟩
end Go.Proofs.Ytcamhpjgpjihhaa
