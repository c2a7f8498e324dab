/- Cells of this seat's structs that came in, opened. (Written by gen_came.py, a program of this session's own.) -/
import Derived.Test.YtahopbjoaoiknaaChecked
import Derived.Test.YtahopbjoaoiknaaCame
namespace Go.Proofs.Ytahopbjoaoiknaa
set_option linter.unusedVariables false
set_option linter.unusedSimpArgs false
open Go.RowKit

theorem fields24 : ∃ fs, Try.prog.underlying 24 = some (.struct fs) ∧ fs.toList.map (fun f => (f.type, f.offset)) = [(22, 0), (22, 1), (22, 2)] := ⟨_, Try.underlying24, by kernel_rfl⟩
theorem cells24 : Try.prog.cellsOf 24 = 3 := by kernel_rfl
theorem came24 {w : World} {cs : List Value} (h : CameC Try.prog w 24 cs) : ∃ (x0A : Option Addr) (x0n x0c : Nat) (x1A : Option Addr) (x1n x1c : Nat) (x2A : Option Addr) (x2n x2c : Nat), cs = [.slice x0A x0n x0c, .slice x1A x1n x1c, .slice x2A x2n x2c] ∧ SlIn Try.prog w 9 1 x0A x0n x0c ∧ SlIn Try.prog w 9 1 x1A x1n x1c ∧ SlIn Try.prog w 9 1 x2A x2n x2c := by
  obtain ⟨fs, hu, hf⟩ := fields24
  obtain ⟨hl0, hs⟩ := CameC.struct hu h
  rw [cells24] at hl0
  obtain ⟨c0, cs1, rfl, hl1⟩ := cons_of hl0
  obtain ⟨c1, cs2, rfl, hl2⟩ := cons_of hl1
  obtain ⟨c2, cs3, rfl, hl3⟩ := cons_of hl2
  obtain rfl := List.eq_nil_of_length_eq_zero hl3
  have key := fun t o => key_of hf hs (t := t) (o := o)
  clear hs hf h
  have k0 := key 22 0 (by simp)
  rw [show Try.prog.cellsOf 22 = 1 from by kernel_rfl] at k0
  obtain ⟨x0A, x0n, x0c, e0, hx0⟩ := CameC.slIn Try.underlying22 (by kernel_rfl : Try.prog.cellsOf 9 = 1) (by decide) k0
  simp only [List.drop_zero, List.take_succ_cons, List.take_zero, List.cons.injEq, and_true] at e0
  have k1 := key 22 1 (by simp)
  rw [show Try.prog.cellsOf 22 = 1 from by kernel_rfl] at k1
  obtain ⟨x1A, x1n, x1c, e1, hx1⟩ := CameC.slIn Try.underlying22 (by kernel_rfl : Try.prog.cellsOf 9 = 1) (by decide) k1
  simp only [List.drop_succ_cons, List.drop_zero, List.take_succ_cons, List.take_zero, List.cons.injEq, and_true] at e1
  have k2 := key 22 2 (by simp)
  rw [show Try.prog.cellsOf 22 = 1 from by kernel_rfl] at k2
  obtain ⟨x2A, x2n, x2c, e2, hx2⟩ := CameC.slIn Try.underlying22 (by kernel_rfl : Try.prog.cellsOf 9 = 1) (by decide) k2
  simp only [List.drop_succ_cons, List.drop_zero, List.take_succ_cons, List.take_zero, List.cons.injEq, and_true] at e2
  clear key
  obtain rfl := e0
  obtain rfl := e1
  obtain rfl := e2
  exact ⟨x0A, x0n, x0c, x1A, x1n, x1c, x2A, x2n, x2c, rfl, hx0, hx1, hx2⟩
end Go.Proofs.Ytahopbjoaoiknaa
