/- Cursor: mine, right, Close, Take, Told. -/
import Derived.Test.YtcamhpjgpjihhaaCur3
namespace Go.Proofs.Ytcamhpjgpjihhaa
set_option linter.unusedVariables false
set_option linter.unusedSimpArgs false
open Go.RowKit

theorem tab_look {w : World} {B bt bm : Nat} {idle last : Int} {l : CurL} (h : TabAt w B bt bm idle last l) (n : Int) :
    (Instr.lookup 94 (.map (some bm)) (.int .u32 n) false).run Try.prog w = .ok (((lookC l n).map fun q => Value.pointer (some ⟨q.1, 0, none⟩)).getD (.pointer none)) w := by
  have := h.map.look keyU32 (t := 94) (e := 99) Try.underlying94 (z := .pointer none) (Try.zeroValue99 w) n
  rw [look_ptrs] at this
  exact this

theorem mine_has {w : World} {B bt bm : Nat} {idle last : Int} {l : CurL} {b : Nat} {c : Cur} {n : Int} (owner : Int) (h : TabAt w B bt bm idle last l) (hl : lookC l n = some (b, c)) (ho : c.owner = owner) :
    Calls Try.prog 54 #[.pointer (some ⟨bt, 0, none⟩), .int .u64 owner, .int .u32 n] w fun e w' => e = .returned (.pointer (some ⟨b, 0, none⟩)) ∧ w = w' := by
  have c1 := (h.blk.cell 1).trans rfl
  have hk := tab_look h n
  rw [hl] at hk
  simp only [Option.map_some, Option.getD_some] at hk
  obtain ⟨_, v, a, y, z, hb, _⟩ := h.cur _ (lookC_mem hl)
  have o0 : w.cell? ⟨b, 0, none⟩ = some (.int .u64 c.owner) := (hb.cell 0).trans rfl
  clear h hb hl
  subst ho
  go_enter Try.func54, Try.ntmps54
  go_wp2_with fail
  go_ret
  exact ⟨rfl, rfl⟩

theorem mine_none {w : World} {B bt bm : Nat} {idle last : Int} {l : CurL} {n : Int} (owner : Int) (h : TabAt w B bt bm idle last l) (hl : lookC l n = none) :
    Calls Try.prog 54 #[.pointer (some ⟨bt, 0, none⟩), .int .u64 owner, .int .u32 n] w fun e w' => e = .returned (.pointer none) ∧ w = w' := by
  have c1 := (h.blk.cell 1).trans rfl
  have hk := tab_look h n
  rw [hl] at hk
  simp only [Option.map_none, Option.getD_none] at hk
  clear h hl
  go_enter Try.func54, Try.ntmps54
  go_wp2_with fail
  go_ret
  exact ⟨rfl, rfl⟩

theorem mine_other {w : World} {B bt bm : Nat} {idle last : Int} {l : CurL} {b : Nat} {c : Cur} {n : Int} (owner : Int) (h : TabAt w B bt bm idle last l) (hl : lookC l n = some (b, c)) (ho : c.owner ≠ owner) :
    Calls Try.prog 54 #[.pointer (some ⟨bt, 0, none⟩), .int .u64 owner, .int .u32 n] w fun e w' => e = .returned (.pointer none) ∧ w = w' := by
  have c1 := (h.blk.cell 1).trans rfl
  have hk := tab_look h n
  rw [hl] at hk
  simp only [Option.map_some, Option.getD_some] at hk
  obtain ⟨_, v, a, y, z, hb, _⟩ := h.cur _ (lookC_mem hl)
  have o0 : w.cell? ⟨b, 0, none⟩ = some (.int .u64 c.owner) := (hb.cell 0).trans rfl
  have hne : (c.owner == owner) = false := by simpa using ho
  clear h hb hl ho
  go_enter Try.func54, Try.ntmps54
  go_wp2_with fail
  go_ret
  exact ⟨rfl, rfl⟩

/-- Has an owner no cursor of this number? -/
def NotMine (l : CurL) (owner n : Int) : Prop := ∀ b c, lookC l n = some (b, c) → c.owner ≠ owner
theorem mine_no {w : World} {B bt bm : Nat} {idle last : Int} {l : CurL} {n owner : Int} (h : TabAt w B bt bm idle last l) (hl : NotMine l owner n) :
    Calls Try.prog 54 #[.pointer (some ⟨bt, 0, none⟩), .int .u64 owner, .int .u32 n] w fun e w' => e = .returned (.pointer none) ∧ w = w' := by
  cases hk : lookC l n with
  | none => exact mine_none owner h hk
  | some q => exact mine_other owner h hk (hl _ _ hk)

/-- May page p be asked for? -/
def rightC (c : Cur) (p : Int) : Bool := decide (0 < p) && (decide (p - 1 = c.page) || decide (p = c.page))

theorem prog_rightc {w : World} {b : Nat} {c : Cur} (p : Int) (h : CurAt w b c) (h0 : 0 ≤ p) (h1 : p < 4294967296) :
    Calls Try.prog 55 #[.pointer (some ⟨b, 0, none⟩), .int .u32 p] w fun e w' => e = .returned (.bool (rightC c p)) ∧ w = w' := by
  obtain ⟨v, a, y, z, hb, _⟩ := h
  have o9 : w.cell? ⟨b, 9, none⟩ = some (.int .u32 c.page) := (hb.cell 9).trans rfl
  clear hb
  obtain ⟨r, hr⟩ : ∃ r, Hid (rightC c p = r) := ⟨_, rfl⟩
  rw [hr.out]
  by_cases hp : 0 < p
  · have e0 : decide ((0 : Int) < p) = true := by simpa using hp
    have ew : IntKind.u32.wrap (p - 1) = p - 1 := IntWalk.u32_in _ ⟨by omega, by omega⟩
    by_cases hq : p - 1 = c.page
    · have e1 : (p - 1 == c.page) = true := by simpa using hq
      have e2 : Hid (true = r) := by
        unfold Hid
        rw [← hr.out]
        simp [rightC, hp, hq]
      clear hp hq
      go_enter Try.func55, Try.ntmps55
      go_wp2_with fail
      go_ret
      exact ⟨by rw [← e2.out]; rfl, rfl⟩
    · have e1 : (p - 1 == c.page) = false := by simpa using hq
      have e2 : Hid ((p == c.page) = r) := by
        unfold Hid
        rw [← hr.out]
        simp only [rightC, hp, hq]
        rw [Bool.eq_iff_iff]
        simp
      clear hp hq
      go_enter Try.func55, Try.ntmps55
      go_wp2_with fail
      go_ret
      exact ⟨by rw [← e2.out]; rfl, rfl⟩
  · have e0 : decide ((0 : Int) < p) = false := by simpa using hp
    have e2 : Hid (false = r) := by
      unfold Hid
      rw [← hr.out]
      simp [rightC, hp]
    clear hp
    go_enter Try.func55, Try.ntmps55
    go_wp2_with fail
    go_ret
    exact ⟨by rw [← e2.out]; rfl, rfl⟩
end Go.Proofs.Ytcamhpjgpjihhaa
