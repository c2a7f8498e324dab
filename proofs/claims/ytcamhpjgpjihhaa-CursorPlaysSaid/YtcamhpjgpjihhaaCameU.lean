/- Cells of this seat's structs that came in, opened. (Written by gen_came.py, a program of this session's own.) -/
import Derived.Test.YtcamhpjgpjihhaaChecked
import Derived.Test.YtcamhpjgpjihhaaCame
namespace Go.Proofs.Ytcamhpjgpjihhaa
set_option linter.unusedVariables false
set_option linter.unusedSimpArgs false
open Go.RowKit

theorem fields24 : ∃ fs, Try.prog.underlying 24 = some (.struct fs) ∧ fs.toList.map (fun f => (f.type, f.offset)) = [(22, 0), (22, 1), (22, 2)] := ⟨_, Try.underlying24, by kernel_rfl⟩
theorem cells24 : Try.prog.cellsOf 24 = 3 := by kernel_rfl
theorem came24 {w : World} {cs : List Value} (h : CameC Try.prog w 24 cs) : ∃ (x0A : Option Addr) (x0n x0c : Nat) (x1A : Option Addr) (x1n x1c : Nat) (x2A : Option Addr) (x2n x2c : Nat), cs = [.slice x0A x0n x0c, .slice x1A x1n x1c, .slice x2A x2n x2c] ∧ SlIn Try.prog w 9 1 x0A x0n x0c ∧ SlIn Try.prog w 9 1 x1A x1n x1c ∧ SlIn Try.prog w 9 1 x2A x2n x2c := by
  obtain ⟨fs, hu, hf⟩ := fields24
  obtain ⟨hl0, hs⟩ := CameC.struct hu h
  rw [cells24] at hl0
  obtain ⟨c0, cs1, rfl, hl1⟩ := cons_of hl0
  obtain ⟨c1, cs2, rfl, hl2⟩ := cons_of hl1
  obtain ⟨c2, cs3, rfl, hl3⟩ := cons_of hl2
  obtain rfl := List.eq_nil_of_length_eq_zero hl3
  have key := fun t o => key_of hf hs (t := t) (o := o)
  clear hs hf h
  have k0 := key 22 0 (by simp)
  rw [show Try.prog.cellsOf 22 = 1 from by kernel_rfl] at k0
  obtain ⟨x0A, x0n, x0c, e0, hx0⟩ := CameC.slIn Try.underlying22 (by kernel_rfl : Try.prog.cellsOf 9 = 1) (by decide) k0
  simp only [List.drop_succ_cons, List.drop_zero, List.take_succ_cons, List.take_zero, List.cons.injEq, and_true] at e0
  have k1 := key 22 1 (by simp)
  rw [show Try.prog.cellsOf 22 = 1 from by kernel_rfl] at k1
  obtain ⟨x1A, x1n, x1c, e1, hx1⟩ := CameC.slIn Try.underlying22 (by kernel_rfl : Try.prog.cellsOf 9 = 1) (by decide) k1
  simp only [List.drop_succ_cons, List.drop_zero, List.take_succ_cons, List.take_zero, List.cons.injEq, and_true] at e1
  have k2 := key 22 2 (by simp)
  rw [show Try.prog.cellsOf 22 = 1 from by kernel_rfl] at k2
  obtain ⟨x2A, x2n, x2c, e2, hx2⟩ := CameC.slIn Try.underlying22 (by kernel_rfl : Try.prog.cellsOf 9 = 1) (by decide) k2
  simp only [List.drop_succ_cons, List.drop_zero, List.take_succ_cons, List.take_zero, List.cons.injEq, and_true] at e2
  clear key
  obtain rfl := e0
  obtain rfl := e1
  obtain rfl := e2
  exact ⟨x0A, x0n, x0c, x1A, x1n, x1c, x2A, x2n, x2c, rfl, hx0, hx1, hx2⟩

theorem fields47 : ∃ fs, Try.prog.underlying 47 = some (.struct fs) ∧ fs.toList.map (fun f => (f.type, f.offset)) = [(2, 0), (41, 1)] := ⟨_, Try.underlying47, by kernel_rfl⟩
theorem cells47 : Try.prog.cellsOf 47 = 2 := by kernel_rfl
theorem came47 {w : World} {cs : List Value} (h : CameC Try.prog w 47 cs) : ∃ (x0 : Int) (x1 : Int), cs = [.int .i64 x0, .int .u32 x1] ∧ (Lit.int .i64 x0).wf = true ∧ (Lit.int .u32 x1).wf = true := by
  obtain ⟨fs, hu, hf⟩ := fields47
  obtain ⟨hl0, hs⟩ := CameC.struct hu h
  rw [cells47] at hl0
  obtain ⟨c0, cs1, rfl, hl1⟩ := cons_of hl0
  obtain ⟨c1, cs2, rfl, hl2⟩ := cons_of hl1
  obtain rfl := List.eq_nil_of_length_eq_zero hl2
  have key := fun t o => key_of hf hs (t := t) (o := o)
  clear hs hf h
  have k0 := key 2 0 (by simp)
  rw [show Try.prog.cellsOf 2 = 1 from by kernel_rfl] at k0
  obtain ⟨x0, e0, hx0⟩ := CameC.int Try.underlying2 k0
  simp only [List.drop_succ_cons, List.drop_zero, List.take_succ_cons, List.take_zero, List.cons.injEq, and_true] at e0
  have k1 := key 41 1 (by simp)
  rw [show Try.prog.cellsOf 41 = 1 from by kernel_rfl] at k1
  obtain ⟨x1, e1, hx1⟩ := CameC.int Try.underlying41 k1
  simp only [List.drop_succ_cons, List.drop_zero, List.take_succ_cons, List.take_zero, List.cons.injEq, and_true] at e1
  clear key
  obtain rfl := e0
  obtain rfl := e1
  exact ⟨x0, x1, rfl, hx0, hx1⟩

theorem fields72 : ∃ fs, Try.prog.underlying 72 = some (.struct fs) ∧ fs.toList.map (fun f => (f.type, f.offset)) = [(5, 0), (5, 1), (3, 2), (45, 3), (24, 4), (41, 7), (41, 8), (53, 9), (4, 10), (41, 11)] := ⟨_, Try.underlying72, by kernel_rfl⟩
theorem cells72 : Try.prog.cellsOf 72 = 12 := by kernel_rfl
theorem came72 {w : World} {cs : List Value} (h : CameC Try.prog w 72 cs) : ∃ (x0 : Int) (x1 : Int) (x2 : Int) (x3A : Option Addr) (x3n x3c : Nat) (x4_0A : Option Addr) (x4_0n x4_0c : Nat) (x4_1A : Option Addr) (x4_1n x4_1c : Nat) (x4_2A : Option Addr) (x4_2n x4_2c : Nat) (x5 : Int) (x6 : Int) (x7A : Option Addr) (x7n x7c : Nat) (x8 : Bool) (x9 : Int), cs = [.int .u8 x0, .int .u8 x1, .int .i64 x2, .slice x3A x3n x3c, .slice x4_0A x4_0n x4_0c, .slice x4_1A x4_1n x4_1c, .slice x4_2A x4_2n x4_2c, .int .u32 x5, .int .u32 x6, .slice x7A x7n x7c, .bool x8, .int .u32 x9] ∧ (Lit.int .u8 x0).wf = true ∧ (Lit.int .u8 x1).wf = true ∧ (Lit.int .i64 x2).wf = true ∧ SlIn Try.prog w 21 1 x3A x3n x3c ∧ SlIn Try.prog w 9 1 x4_0A x4_0n x4_0c ∧ SlIn Try.prog w 9 1 x4_1A x4_1n x4_1c ∧ SlIn Try.prog w 9 1 x4_2A x4_2n x4_2c ∧ (Lit.int .u32 x5).wf = true ∧ (Lit.int .u32 x6).wf = true ∧ SlIn Try.prog w 47 2 x7A x7n x7c ∧ (Lit.int .u32 x9).wf = true := by
  obtain ⟨fs, hu, hf⟩ := fields72
  obtain ⟨hl0, hs⟩ := CameC.struct hu h
  rw [cells72] at hl0
  obtain ⟨c0, cs1, rfl, hl1⟩ := cons_of hl0
  obtain ⟨c1, cs2, rfl, hl2⟩ := cons_of hl1
  obtain ⟨c2, cs3, rfl, hl3⟩ := cons_of hl2
  obtain ⟨c3, cs4, rfl, hl4⟩ := cons_of hl3
  obtain ⟨c4, cs5, rfl, hl5⟩ := cons_of hl4
  obtain ⟨c5, cs6, rfl, hl6⟩ := cons_of hl5
  obtain ⟨c6, cs7, rfl, hl7⟩ := cons_of hl6
  obtain ⟨c7, cs8, rfl, hl8⟩ := cons_of hl7
  obtain ⟨c8, cs9, rfl, hl9⟩ := cons_of hl8
  obtain ⟨c9, cs10, rfl, hl10⟩ := cons_of hl9
  obtain ⟨c10, cs11, rfl, hl11⟩ := cons_of hl10
  obtain ⟨c11, cs12, rfl, hl12⟩ := cons_of hl11
  obtain rfl := List.eq_nil_of_length_eq_zero hl12
  have key := fun t o => key_of hf hs (t := t) (o := o)
  clear hs hf h
  have k0 := key 5 0 (by simp)
  rw [show Try.prog.cellsOf 5 = 1 from by kernel_rfl] at k0
  obtain ⟨x0, e0, hx0⟩ := CameC.int Try.underlying5 k0
  simp only [List.drop_succ_cons, List.drop_zero, List.take_succ_cons, List.take_zero, List.cons.injEq, and_true] at e0
  have k1 := key 5 1 (by simp)
  rw [show Try.prog.cellsOf 5 = 1 from by kernel_rfl] at k1
  obtain ⟨x1, e1, hx1⟩ := CameC.int Try.underlying5 k1
  simp only [List.drop_succ_cons, List.drop_zero, List.take_succ_cons, List.take_zero, List.cons.injEq, and_true] at e1
  have k2 := key 3 2 (by simp)
  rw [show Try.prog.cellsOf 3 = 1 from by kernel_rfl] at k2
  obtain ⟨x2, e2, hx2⟩ := CameC.int Try.underlying3 k2
  simp only [List.drop_succ_cons, List.drop_zero, List.take_succ_cons, List.take_zero, List.cons.injEq, and_true] at e2
  have k3 := key 45 3 (by simp)
  rw [show Try.prog.cellsOf 45 = 1 from by kernel_rfl] at k3
  obtain ⟨x3A, x3n, x3c, e3, hx3⟩ := CameC.slIn Try.underlying45 (by kernel_rfl : Try.prog.cellsOf 21 = 1) (by decide) k3
  simp only [List.drop_succ_cons, List.drop_zero, List.take_succ_cons, List.take_zero, List.cons.injEq, and_true] at e3
  have k4 := key 24 4 (by simp)
  rw [cells24] at k4
  obtain ⟨x4_0A, x4_0n, x4_0c, x4_1A, x4_1n, x4_1c, x4_2A, x4_2n, x4_2c, e4, hx4_0, hx4_1, hx4_2⟩ := came24 k4
  simp only [List.drop_succ_cons, List.drop_zero, List.take_succ_cons, List.take_zero, List.cons.injEq, and_true] at e4
  have k5 := key 41 7 (by simp)
  rw [show Try.prog.cellsOf 41 = 1 from by kernel_rfl] at k5
  obtain ⟨x5, e5, hx5⟩ := CameC.int Try.underlying41 k5
  simp only [List.drop_succ_cons, List.drop_zero, List.take_succ_cons, List.take_zero, List.cons.injEq, and_true] at e5
  have k6 := key 41 8 (by simp)
  rw [show Try.prog.cellsOf 41 = 1 from by kernel_rfl] at k6
  obtain ⟨x6, e6, hx6⟩ := CameC.int Try.underlying41 k6
  simp only [List.drop_succ_cons, List.drop_zero, List.take_succ_cons, List.take_zero, List.cons.injEq, and_true] at e6
  have k7 := key 53 9 (by simp)
  rw [show Try.prog.cellsOf 53 = 1 from by kernel_rfl] at k7
  obtain ⟨x7A, x7n, x7c, e7, hx7⟩ := CameC.slIn Try.underlying53 (by kernel_rfl : Try.prog.cellsOf 47 = 2) (by decide) k7
  simp only [List.drop_succ_cons, List.drop_zero, List.take_succ_cons, List.take_zero, List.cons.injEq, and_true] at e7
  have k8 := key 4 10 (by simp)
  rw [show Try.prog.cellsOf 4 = 1 from by kernel_rfl] at k8
  obtain ⟨x8, e8⟩ := CameC.bool Try.underlying4 k8
  simp only [List.drop_succ_cons, List.drop_zero, List.take_succ_cons, List.take_zero, List.cons.injEq, and_true] at e8
  have k9 := key 41 11 (by simp)
  rw [show Try.prog.cellsOf 41 = 1 from by kernel_rfl] at k9
  obtain ⟨x9, e9, hx9⟩ := CameC.int Try.underlying41 k9
  simp only [List.drop_succ_cons, List.drop_zero, List.take_succ_cons, List.take_zero, List.cons.injEq, and_true] at e9
  clear key
  obtain rfl := e0
  obtain rfl := e1
  obtain rfl := e2
  obtain rfl := e3
  obtain ⟨rfl, rfl, rfl⟩ := e4
  obtain rfl := e5
  obtain rfl := e6
  obtain rfl := e7
  obtain rfl := e8
  obtain rfl := e9
  exact ⟨x0, x1, x2, x3A, x3n, x3c, x4_0A, x4_0n, x4_0c, x4_1A, x4_1n, x4_1c, x4_2A, x4_2n, x4_2c, x5, x6, x7A, x7n, x7c, x8, x9, rfl, hx0, hx1, hx2, hx3, hx4_0, hx4_1, hx4_2, hx5, hx6, hx7, hx9⟩
end Go.Proofs.Ytcamhpjgpjihhaa
