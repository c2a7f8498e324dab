/- Cells of this seat's structs that came in, opened. (Written by gen_came.py, a program of this session's own.) -/
import Derived.Test.YtgaaonbjfhklbaaChecked
import Derived.Test.YtgaaonbjfhklbaaCame
namespace Go.Proofs.Ytgaaonbjfhklbaa
set_option linter.unusedVariables false
set_option linter.unusedSimpArgs false
open Go.RowKit

theorem fields27 : ∃ fs, Try.prog.underlying 27 = some (.struct fs) ∧ fs.toList.map (fun f => (f.type, f.offset)) = [(9, 0), (5, 1), (24, 2), (4, 3), (5, 4), (25, 5)] := ⟨_, Try.underlying27, by kernel_rfl⟩
theorem cells27 : Try.prog.cellsOf 27 = 6 := by kernel_rfl
theorem came27 {w : World} {cs : List Value} (h : CameC Try.prog w 27 cs) : ∃ (x0 : ByteArray) (x1 : Int) (x2 : Int) (x3 : Bool) (x4 : Int) (x5 : Int), cs = [.string x0, .int .u8 x1, .int .u8 x2, .bool x3, .int .u8 x4, .int .u16 x5] ∧ x0.size ≤ maxLen ∧ (Lit.int .u8 x1).wf = true ∧ (Lit.int .u8 x2).wf = true ∧ (Lit.int .u8 x4).wf = true ∧ (Lit.int .u16 x5).wf = true := by
  obtain ⟨fs, hu, hf⟩ := fields27
  obtain ⟨hl0, hs⟩ := CameC.struct hu h
  rw [cells27] at hl0
  obtain ⟨c0, cs1, rfl, hl1⟩ := cons_of hl0
  obtain ⟨c1, cs2, rfl, hl2⟩ := cons_of hl1
  obtain ⟨c2, cs3, rfl, hl3⟩ := cons_of hl2
  obtain ⟨c3, cs4, rfl, hl4⟩ := cons_of hl3
  obtain ⟨c4, cs5, rfl, hl5⟩ := cons_of hl4
  obtain ⟨c5, cs6, rfl, hl6⟩ := cons_of hl5
  obtain rfl := List.eq_nil_of_length_eq_zero hl6
  have key := fun t o => key_of hf hs (t := t) (o := o)
  clear hs hf h
  have k0 := key 9 0 (by simp)
  rw [show Try.prog.cellsOf 9 = 1 from by kernel_rfl] at k0
  obtain ⟨x0, e0, hx0⟩ := CameC.string Try.underlying9 k0
  simp only [List.drop_succ_cons, List.drop_zero, List.take_succ_cons, List.take_zero, List.cons.injEq, and_true] at e0
  have k1 := key 5 1 (by simp)
  rw [show Try.prog.cellsOf 5 = 1 from by kernel_rfl] at k1
  obtain ⟨x1, e1, hx1⟩ := CameC.int Try.underlying5 k1
  simp only [List.drop_succ_cons, List.drop_zero, List.take_succ_cons, List.take_zero, List.cons.injEq, and_true] at e1
  have k2 := key 24 2 (by simp)
  rw [show Try.prog.cellsOf 24 = 1 from by kernel_rfl] at k2
  obtain ⟨x2, e2, hx2⟩ := CameC.int Try.underlying24 k2
  simp only [List.drop_succ_cons, List.drop_zero, List.take_succ_cons, List.take_zero, List.cons.injEq, and_true] at e2
  have k3 := key 4 3 (by simp)
  rw [show Try.prog.cellsOf 4 = 1 from by kernel_rfl] at k3
  obtain ⟨x3, e3⟩ := CameC.bool Try.underlying4 k3
  simp only [List.drop_succ_cons, List.drop_zero, List.take_succ_cons, List.take_zero, List.cons.injEq, and_true] at e3
  have k4 := key 5 4 (by simp)
  rw [show Try.prog.cellsOf 5 = 1 from by kernel_rfl] at k4
  obtain ⟨x4, e4, hx4⟩ := CameC.int Try.underlying5 k4
  simp only [List.drop_succ_cons, List.drop_zero, List.take_succ_cons, List.take_zero, List.cons.injEq, and_true] at e4
  have k5 := key 25 5 (by simp)
  rw [show Try.prog.cellsOf 25 = 1 from by kernel_rfl] at k5
  obtain ⟨x5, e5, hx5⟩ := CameC.int Try.underlying25 k5
  simp only [List.drop_succ_cons, List.drop_zero, List.take_succ_cons, List.take_zero, List.cons.injEq, and_true] at e5
  clear key
  obtain rfl := e0
  obtain rfl := e1
  obtain rfl := e2
  obtain rfl := e3
  obtain rfl := e4
  obtain rfl := e5
  exact ⟨x0, x1, x2, x3, x4, x5, rfl, hx0, hx1, hx2, hx4, hx5⟩

theorem fields32 : ∃ fs, Try.prog.underlying 32 = some (.struct fs) ∧ fs.toList.map (fun f => (f.type, f.offset)) = [(30, 0), (30, 1), (30, 2)] := ⟨_, Try.underlying32, by kernel_rfl⟩
theorem cells32 : Try.prog.cellsOf 32 = 3 := by kernel_rfl
theorem came32 {w : World} {cs : List Value} (h : CameC Try.prog w 32 cs) : ∃ (x0A : Option Addr) (x0n x0c : Nat) (x1A : Option Addr) (x1n x1c : Nat) (x2A : Option Addr) (x2n x2c : Nat), cs = [.slice x0A x0n x0c, .slice x1A x1n x1c, .slice x2A x2n x2c] ∧ SlIn Try.prog w 9 1 x0A x0n x0c ∧ SlIn Try.prog w 9 1 x1A x1n x1c ∧ SlIn Try.prog w 9 1 x2A x2n x2c := by
  obtain ⟨fs, hu, hf⟩ := fields32
  obtain ⟨hl0, hs⟩ := CameC.struct hu h
  rw [cells32] at hl0
  obtain ⟨c0, cs1, rfl, hl1⟩ := cons_of hl0
  obtain ⟨c1, cs2, rfl, hl2⟩ := cons_of hl1
  obtain ⟨c2, cs3, rfl, hl3⟩ := cons_of hl2
  obtain rfl := List.eq_nil_of_length_eq_zero hl3
  have key := fun t o => key_of hf hs (t := t) (o := o)
  clear hs hf h
  have k0 := key 30 0 (by simp)
  rw [show Try.prog.cellsOf 30 = 1 from by kernel_rfl] at k0
  obtain ⟨x0A, x0n, x0c, e0, hx0⟩ := CameC.slIn Try.underlying30 (by kernel_rfl : Try.prog.cellsOf 9 = 1) (by decide) k0
  simp only [List.drop_succ_cons, List.drop_zero, List.take_succ_cons, List.take_zero, List.cons.injEq, and_true] at e0
  have k1 := key 30 1 (by simp)
  rw [show Try.prog.cellsOf 30 = 1 from by kernel_rfl] at k1
  obtain ⟨x1A, x1n, x1c, e1, hx1⟩ := CameC.slIn Try.underlying30 (by kernel_rfl : Try.prog.cellsOf 9 = 1) (by decide) k1
  simp only [List.drop_succ_cons, List.drop_zero, List.take_succ_cons, List.take_zero, List.cons.injEq, and_true] at e1
  have k2 := key 30 2 (by simp)
  rw [show Try.prog.cellsOf 30 = 1 from by kernel_rfl] at k2
  obtain ⟨x2A, x2n, x2c, e2, hx2⟩ := CameC.slIn Try.underlying30 (by kernel_rfl : Try.prog.cellsOf 9 = 1) (by decide) k2
  simp only [List.drop_succ_cons, List.drop_zero, List.take_succ_cons, List.take_zero, List.cons.injEq, and_true] at e2
  clear key
  obtain rfl := e0
  obtain rfl := e1
  obtain rfl := e2
  exact ⟨x0A, x0n, x0c, x1A, x1n, x1c, x2A, x2n, x2c, rfl, hx0, hx1, hx2⟩

theorem fields37 : ∃ fs, Try.prog.underlying 37 = some (.struct fs) ∧ fs.toList.map (fun f => (f.type, f.offset)) = [(5, 0), (22, 1), (22, 2), (23, 3), (5, 4), (22, 5), (9, 6), (27, 7), (28, 13), (22, 14), (29, 15), (25, 16), (25, 17), (32, 18), (22, 21), (22, 22), (33, 23), (23, 24), (30, 25), (34, 26), (35, 27)] := ⟨_, Try.underlying37, by kernel_rfl⟩
theorem cells37 : Try.prog.cellsOf 37 = 28 := by kernel_rfl
theorem came37 {w : World} {cs : List Value} (h : CameC Try.prog w 37 cs) : ∃ (x0 : Int) (x1 : Int) (x2 : Int) (x3 : Int) (x4 : Int) (x5 : Int) (x6 : ByteArray) (x7_0 : ByteArray) (x7_1 : Int) (x7_2 : Int) (x7_3 : Bool) (x7_4 : Int) (x7_5 : Int) (x8A : Option Addr) (x8n x8c : Nat) (x9 : Int) (x10A : Option Addr) (x10n x10c : Nat) (x11 : Int) (x12 : Int) (x13_0A : Option Addr) (x13_0n x13_0c : Nat) (x13_1A : Option Addr) (x13_1n x13_1c : Nat) (x13_2A : Option Addr) (x13_2n x13_2c : Nat) (x14 : Int) (x15 : Int) (x16A : Option Addr) (x16n x16c : Nat) (x17 : Int) (x18A : Option Addr) (x18n x18c : Nat) (x19A : Option Addr) (x19n x19c : Nat) (x20A : Option Addr) (x20n x20c : Nat), cs = [.int .u8 x0, .int .u32 x1, .int .u32 x2, .int .u64 x3, .int .u8 x4, .int .u32 x5, .string x6, .string x7_0, .int .u8 x7_1, .int .u8 x7_2, .bool x7_3, .int .u8 x7_4, .int .u16 x7_5, .slice x8A x8n x8c, .int .u32 x9, .slice x10A x10n x10c, .int .u16 x11, .int .u16 x12, .slice x13_0A x13_0n x13_0c, .slice x13_1A x13_1n x13_1c, .slice x13_2A x13_2n x13_2c, .int .u32 x14, .int .u32 x15, .slice x16A x16n x16c, .int .u64 x17, .slice x18A x18n x18c, .slice x19A x19n x19c, .slice x20A x20n x20c] ∧ (Lit.int .u8 x0).wf = true ∧ (Lit.int .u32 x1).wf = true ∧ (Lit.int .u32 x2).wf = true ∧ (Lit.int .u64 x3).wf = true ∧ (Lit.int .u8 x4).wf = true ∧ (Lit.int .u32 x5).wf = true ∧ x6.size ≤ maxLen ∧ x7_0.size ≤ maxLen ∧ (Lit.int .u8 x7_1).wf = true ∧ (Lit.int .u8 x7_2).wf = true ∧ (Lit.int .u8 x7_4).wf = true ∧ (Lit.int .u16 x7_5).wf = true ∧ SlIn Try.prog w 114 4 x8A x8n x8c ∧ (Lit.int .u32 x9).wf = true ∧ SlIn Try.prog w 21 1 x10A x10n x10c ∧ (Lit.int .u16 x11).wf = true ∧ (Lit.int .u16 x12).wf = true ∧ SlIn Try.prog w 9 1 x13_0A x13_0n x13_0c ∧ SlIn Try.prog w 9 1 x13_1A x13_1n x13_1c ∧ SlIn Try.prog w 9 1 x13_2A x13_2n x13_2c ∧ (Lit.int .u32 x14).wf = true ∧ (Lit.int .u32 x15).wf = true ∧ SlIn Try.prog w 5 1 x16A x16n x16c ∧ (Lit.int .u64 x17).wf = true ∧ SlIn Try.prog w 9 1 x18A x18n x18c ∧ SlIn Try.prog w 77 3 x19A x19n x19c ∧ SlIn Try.prog w 171 2 x20A x20n x20c := by
  obtain ⟨fs, hu, hf⟩ := fields37
  obtain ⟨hl0, hs⟩ := CameC.struct hu h
  rw [cells37] at hl0
  obtain ⟨c0, cs1, rfl, hl1⟩ := cons_of hl0
  obtain ⟨c1, cs2, rfl, hl2⟩ := cons_of hl1
  obtain ⟨c2, cs3, rfl, hl3⟩ := cons_of hl2
  obtain ⟨c3, cs4, rfl, hl4⟩ := cons_of hl3
  obtain ⟨c4, cs5, rfl, hl5⟩ := cons_of hl4
  obtain ⟨c5, cs6, rfl, hl6⟩ := cons_of hl5
  obtain ⟨c6, cs7, rfl, hl7⟩ := cons_of hl6
  obtain ⟨c7, cs8, rfl, hl8⟩ := cons_of hl7
  obtain ⟨c8, cs9, rfl, hl9⟩ := cons_of hl8
  obtain ⟨c9, cs10, rfl, hl10⟩ := cons_of hl9
  obtain ⟨c10, cs11, rfl, hl11⟩ := cons_of hl10
  obtain ⟨c11, cs12, rfl, hl12⟩ := cons_of hl11
  obtain ⟨c12, cs13, rfl, hl13⟩ := cons_of hl12
  obtain ⟨c13, cs14, rfl, hl14⟩ := cons_of hl13
  obtain ⟨c14, cs15, rfl, hl15⟩ := cons_of hl14
  obtain ⟨c15, cs16, rfl, hl16⟩ := cons_of hl15
  obtain ⟨c16, cs17, rfl, hl17⟩ := cons_of hl16
  obtain ⟨c17, cs18, rfl, hl18⟩ := cons_of hl17
  obtain ⟨c18, cs19, rfl, hl19⟩ := cons_of hl18
  obtain ⟨c19, cs20, rfl, hl20⟩ := cons_of hl19
  obtain ⟨c20, cs21, rfl, hl21⟩ := cons_of hl20
  obtain ⟨c21, cs22, rfl, hl22⟩ := cons_of hl21
  obtain ⟨c22, cs23, rfl, hl23⟩ := cons_of hl22
  obtain ⟨c23, cs24, rfl, hl24⟩ := cons_of hl23
  obtain ⟨c24, cs25, rfl, hl25⟩ := cons_of hl24
  obtain ⟨c25, cs26, rfl, hl26⟩ := cons_of hl25
  obtain ⟨c26, cs27, rfl, hl27⟩ := cons_of hl26
  obtain ⟨c27, cs28, rfl, hl28⟩ := cons_of hl27
  obtain rfl := List.eq_nil_of_length_eq_zero hl28
  have key := fun t o => key_of hf hs (t := t) (o := o)
  clear hs hf h
  have k0 := key 5 0 (by simp)
  rw [show Try.prog.cellsOf 5 = 1 from by kernel_rfl] at k0
  obtain ⟨x0, e0, hx0⟩ := CameC.int Try.underlying5 k0
  simp only [List.drop_succ_cons, List.drop_zero, List.take_succ_cons, List.take_zero, List.cons.injEq, and_true] at e0
  have k1 := key 22 1 (by simp)
  rw [show Try.prog.cellsOf 22 = 1 from by kernel_rfl] at k1
  obtain ⟨x1, e1, hx1⟩ := CameC.int Try.underlying22 k1
  simp only [List.drop_succ_cons, List.drop_zero, List.take_succ_cons, List.take_zero, List.cons.injEq, and_true] at e1
  have k2 := key 22 2 (by simp)
  rw [show Try.prog.cellsOf 22 = 1 from by kernel_rfl] at k2
  obtain ⟨x2, e2, hx2⟩ := CameC.int Try.underlying22 k2
  simp only [List.drop_succ_cons, List.drop_zero, List.take_succ_cons, List.take_zero, List.cons.injEq, and_true] at e2
  have k3 := key 23 3 (by simp)
  rw [show Try.prog.cellsOf 23 = 1 from by kernel_rfl] at k3
  obtain ⟨x3, e3, hx3⟩ := CameC.int Try.underlying23 k3
  simp only [List.drop_succ_cons, List.drop_zero, List.take_succ_cons, List.take_zero, List.cons.injEq, and_true] at e3
  have k4 := key 5 4 (by simp)
  rw [show Try.prog.cellsOf 5 = 1 from by kernel_rfl] at k4
  obtain ⟨x4, e4, hx4⟩ := CameC.int Try.underlying5 k4
  simp only [List.drop_succ_cons, List.drop_zero, List.take_succ_cons, List.take_zero, List.cons.injEq, and_true] at e4
  have k5 := key 22 5 (by simp)
  rw [show Try.prog.cellsOf 22 = 1 from by kernel_rfl] at k5
  obtain ⟨x5, e5, hx5⟩ := CameC.int Try.underlying22 k5
  simp only [List.drop_succ_cons, List.drop_zero, List.take_succ_cons, List.take_zero, List.cons.injEq, and_true] at e5
  have k6 := key 9 6 (by simp)
  rw [show Try.prog.cellsOf 9 = 1 from by kernel_rfl] at k6
  obtain ⟨x6, e6, hx6⟩ := CameC.string Try.underlying9 k6
  simp only [List.drop_succ_cons, List.drop_zero, List.take_succ_cons, List.take_zero, List.cons.injEq, and_true] at e6
  have k7 := key 27 7 (by simp)
  rw [cells27] at k7
  obtain ⟨x7_0, x7_1, x7_2, x7_3, x7_4, x7_5, e7, hx7_0, hx7_1, hx7_2, hx7_4, hx7_5⟩ := came27 k7
  simp only [List.drop_succ_cons, List.drop_zero, List.take_succ_cons, List.take_zero, List.cons.injEq, and_true] at e7
  have k8 := key 28 13 (by simp)
  rw [show Try.prog.cellsOf 28 = 1 from by kernel_rfl] at k8
  obtain ⟨x8A, x8n, x8c, e8, hx8⟩ := CameC.slIn Try.underlying28 (by kernel_rfl : Try.prog.cellsOf 114 = 4) (by decide) k8
  simp only [List.drop_succ_cons, List.drop_zero, List.take_succ_cons, List.take_zero, List.cons.injEq, and_true] at e8
  have k9 := key 22 14 (by simp)
  rw [show Try.prog.cellsOf 22 = 1 from by kernel_rfl] at k9
  obtain ⟨x9, e9, hx9⟩ := CameC.int Try.underlying22 k9
  simp only [List.drop_succ_cons, List.drop_zero, List.take_succ_cons, List.take_zero, List.cons.injEq, and_true] at e9
  have k10 := key 29 15 (by simp)
  rw [show Try.prog.cellsOf 29 = 1 from by kernel_rfl] at k10
  obtain ⟨x10A, x10n, x10c, e10, hx10⟩ := CameC.slIn Try.underlying29 (by kernel_rfl : Try.prog.cellsOf 21 = 1) (by decide) k10
  simp only [List.drop_succ_cons, List.drop_zero, List.take_succ_cons, List.take_zero, List.cons.injEq, and_true] at e10
  have k11 := key 25 16 (by simp)
  rw [show Try.prog.cellsOf 25 = 1 from by kernel_rfl] at k11
  obtain ⟨x11, e11, hx11⟩ := CameC.int Try.underlying25 k11
  simp only [List.drop_succ_cons, List.drop_zero, List.take_succ_cons, List.take_zero, List.cons.injEq, and_true] at e11
  have k12 := key 25 17 (by simp)
  rw [show Try.prog.cellsOf 25 = 1 from by kernel_rfl] at k12
  obtain ⟨x12, e12, hx12⟩ := CameC.int Try.underlying25 k12
  simp only [List.drop_succ_cons, List.drop_zero, List.take_succ_cons, List.take_zero, List.cons.injEq, and_true] at e12
  have k13 := key 32 18 (by simp)
  rw [cells32] at k13
  obtain ⟨x13_0A, x13_0n, x13_0c, x13_1A, x13_1n, x13_1c, x13_2A, x13_2n, x13_2c, e13, hx13_0, hx13_1, hx13_2⟩ := came32 k13
  simp only [List.drop_succ_cons, List.drop_zero, List.take_succ_cons, List.take_zero, List.cons.injEq, and_true] at e13
  have k14 := key 22 21 (by simp)
  rw [show Try.prog.cellsOf 22 = 1 from by kernel_rfl] at k14
  obtain ⟨x14, e14, hx14⟩ := CameC.int Try.underlying22 k14
  simp only [List.drop_succ_cons, List.drop_zero, List.take_succ_cons, List.take_zero, List.cons.injEq, and_true] at e14
  have k15 := key 22 22 (by simp)
  rw [show Try.prog.cellsOf 22 = 1 from by kernel_rfl] at k15
  obtain ⟨x15, e15, hx15⟩ := CameC.int Try.underlying22 k15
  simp only [List.drop_succ_cons, List.drop_zero, List.take_succ_cons, List.take_zero, List.cons.injEq, and_true] at e15
  have k16 := key 33 23 (by simp)
  rw [show Try.prog.cellsOf 33 = 1 from by kernel_rfl] at k16
  obtain ⟨x16A, x16n, x16c, e16, hx16⟩ := CameC.slIn Try.underlying33 (by kernel_rfl : Try.prog.cellsOf 5 = 1) (by decide) k16
  simp only [List.drop_succ_cons, List.drop_zero, List.take_succ_cons, List.take_zero, List.cons.injEq, and_true] at e16
  have k17 := key 23 24 (by simp)
  rw [show Try.prog.cellsOf 23 = 1 from by kernel_rfl] at k17
  obtain ⟨x17, e17, hx17⟩ := CameC.int Try.underlying23 k17
  simp only [List.drop_succ_cons, List.drop_zero, List.take_succ_cons, List.take_zero, List.cons.injEq, and_true] at e17
  have k18 := key 30 25 (by simp)
  rw [show Try.prog.cellsOf 30 = 1 from by kernel_rfl] at k18
  obtain ⟨x18A, x18n, x18c, e18, hx18⟩ := CameC.slIn Try.underlying30 (by kernel_rfl : Try.prog.cellsOf 9 = 1) (by decide) k18
  simp only [List.drop_succ_cons, List.drop_zero, List.take_succ_cons, List.take_zero, List.cons.injEq, and_true] at e18
  have k19 := key 34 26 (by simp)
  rw [show Try.prog.cellsOf 34 = 1 from by kernel_rfl] at k19
  obtain ⟨x19A, x19n, x19c, e19, hx19⟩ := CameC.slIn Try.underlying34 (by kernel_rfl : Try.prog.cellsOf 77 = 3) (by decide) k19
  simp only [List.drop_succ_cons, List.drop_zero, List.take_succ_cons, List.take_zero, List.cons.injEq, and_true] at e19
  have k20 := key 35 27 (by simp)
  rw [show Try.prog.cellsOf 35 = 1 from by kernel_rfl] at k20
  obtain ⟨x20A, x20n, x20c, e20, hx20⟩ := CameC.slIn Try.underlying35 (by kernel_rfl : Try.prog.cellsOf 171 = 2) (by decide) k20
  simp only [List.drop_succ_cons, List.drop_zero, List.take_succ_cons, List.take_zero, List.cons.injEq, and_true] at e20
  clear key
  obtain rfl := e0
  obtain rfl := e1
  obtain rfl := e2
  obtain rfl := e3
  obtain rfl := e4
  obtain rfl := e5
  obtain rfl := e6
  obtain ⟨rfl, rfl, rfl, rfl, rfl, rfl⟩ := e7
  obtain rfl := e8
  obtain rfl := e9
  obtain rfl := e10
  obtain rfl := e11
  obtain rfl := e12
  obtain ⟨rfl, rfl, rfl⟩ := e13
  obtain rfl := e14
  obtain rfl := e15
  obtain rfl := e16
  obtain rfl := e17
  obtain rfl := e18
  obtain rfl := e19
  obtain rfl := e20
  exact ⟨x0, x1, x2, x3, x4, x5, x6, x7_0, x7_1, x7_2, x7_3, x7_4, x7_5, x8A, x8n, x8c, x9, x10A, x10n, x10c, x11, x12, x13_0A, x13_0n, x13_0c, x13_1A, x13_1n, x13_1c, x13_2A, x13_2n, x13_2c, x14, x15, x16A, x16n, x16c, x17, x18A, x18n, x18c, x19A, x19n, x19c, x20A, x20n, x20c, rfl, hx0, hx1, hx2, hx3, hx4, hx5, hx6, hx7_0, hx7_1, hx7_2, hx7_4, hx7_5, hx8, hx9, hx10, hx11, hx12, hx13_0, hx13_1, hx13_2, hx14, hx15, hx16, hx17, hx18, hx19, hx20⟩

theorem fields77 : ∃ fs, Try.prog.underlying 77 = some (.struct fs) ∧ fs.toList.map (fun f => (f.type, f.offset)) = [(22, 0), (29, 1), (30, 2)] := ⟨_, Try.underlying77, by kernel_rfl⟩
theorem cells77 : Try.prog.cellsOf 77 = 3 := by kernel_rfl
theorem came77 {w : World} {cs : List Value} (h : CameC Try.prog w 77 cs) : ∃ (x0 : Int) (x1A : Option Addr) (x1n x1c : Nat) (x2A : Option Addr) (x2n x2c : Nat), cs = [.int .u32 x0, .slice x1A x1n x1c, .slice x2A x2n x2c] ∧ (Lit.int .u32 x0).wf = true ∧ SlIn Try.prog w 21 1 x1A x1n x1c ∧ SlIn Try.prog w 9 1 x2A x2n x2c := by
  obtain ⟨fs, hu, hf⟩ := fields77
  obtain ⟨hl0, hs⟩ := CameC.struct hu h
  rw [cells77] at hl0
  obtain ⟨c0, cs1, rfl, hl1⟩ := cons_of hl0
  obtain ⟨c1, cs2, rfl, hl2⟩ := cons_of hl1
  obtain ⟨c2, cs3, rfl, hl3⟩ := cons_of hl2
  obtain rfl := List.eq_nil_of_length_eq_zero hl3
  have key := fun t o => key_of hf hs (t := t) (o := o)
  clear hs hf h
  have k0 := key 22 0 (by simp)
  rw [show Try.prog.cellsOf 22 = 1 from by kernel_rfl] at k0
  obtain ⟨x0, e0, hx0⟩ := CameC.int Try.underlying22 k0
  simp only [List.drop_succ_cons, List.drop_zero, List.take_succ_cons, List.take_zero, List.cons.injEq, and_true] at e0
  have k1 := key 29 1 (by simp)
  rw [show Try.prog.cellsOf 29 = 1 from by kernel_rfl] at k1
  obtain ⟨x1A, x1n, x1c, e1, hx1⟩ := CameC.slIn Try.underlying29 (by kernel_rfl : Try.prog.cellsOf 21 = 1) (by decide) k1
  simp only [List.drop_succ_cons, List.drop_zero, List.take_succ_cons, List.take_zero, List.cons.injEq, and_true] at e1
  have k2 := key 30 2 (by simp)
  rw [show Try.prog.cellsOf 30 = 1 from by kernel_rfl] at k2
  obtain ⟨x2A, x2n, x2c, e2, hx2⟩ := CameC.slIn Try.underlying30 (by kernel_rfl : Try.prog.cellsOf 9 = 1) (by decide) k2
  simp only [List.drop_succ_cons, List.drop_zero, List.take_succ_cons, List.take_zero, List.cons.injEq, and_true] at e2
  clear key
  obtain rfl := e0
  obtain rfl := e1
  obtain rfl := e2
  exact ⟨x0, x1A, x1n, x1c, x2A, x2n, x2c, rfl, hx0, hx1, hx2⟩

theorem fields114 : ∃ fs, Try.prog.underlying 114 = some (.struct fs) ∧ fs.toList.map (fun f => (f.type, f.offset)) = [(4, 0), (77, 1)] := ⟨_, Try.underlying114, by kernel_rfl⟩
theorem cells114 : Try.prog.cellsOf 114 = 4 := by kernel_rfl
theorem came114 {w : World} {cs : List Value} (h : CameC Try.prog w 114 cs) : ∃ (x0 : Bool) (x1_0 : Int) (x1_1A : Option Addr) (x1_1n x1_1c : Nat) (x1_2A : Option Addr) (x1_2n x1_2c : Nat), cs = [.bool x0, .int .u32 x1_0, .slice x1_1A x1_1n x1_1c, .slice x1_2A x1_2n x1_2c] ∧ (Lit.int .u32 x1_0).wf = true ∧ SlIn Try.prog w 21 1 x1_1A x1_1n x1_1c ∧ SlIn Try.prog w 9 1 x1_2A x1_2n x1_2c := by
  obtain ⟨fs, hu, hf⟩ := fields114
  obtain ⟨hl0, hs⟩ := CameC.struct hu h
  rw [cells114] at hl0
  obtain ⟨c0, cs1, rfl, hl1⟩ := cons_of hl0
  obtain ⟨c1, cs2, rfl, hl2⟩ := cons_of hl1
  obtain ⟨c2, cs3, rfl, hl3⟩ := cons_of hl2
  obtain ⟨c3, cs4, rfl, hl4⟩ := cons_of hl3
  obtain rfl := List.eq_nil_of_length_eq_zero hl4
  have key := fun t o => key_of hf hs (t := t) (o := o)
  clear hs hf h
  have k0 := key 4 0 (by simp)
  rw [show Try.prog.cellsOf 4 = 1 from by kernel_rfl] at k0
  obtain ⟨x0, e0⟩ := CameC.bool Try.underlying4 k0
  simp only [List.drop_succ_cons, List.drop_zero, List.take_succ_cons, List.take_zero, List.cons.injEq, and_true] at e0
  have k1 := key 77 1 (by simp)
  rw [cells77] at k1
  obtain ⟨x1_0, x1_1A, x1_1n, x1_1c, x1_2A, x1_2n, x1_2c, e1, hx1_0, hx1_1, hx1_2⟩ := came77 k1
  simp only [List.drop_succ_cons, List.drop_zero, List.take_succ_cons, List.take_zero, List.cons.injEq, and_true] at e1
  clear key
  obtain rfl := e0
  obtain ⟨rfl, rfl, rfl⟩ := e1
  exact ⟨x0, x1_0, x1_1A, x1_1n, x1_1c, x1_2A, x1_2n, x1_2c, rfl, hx1_0, hx1_1, hx1_2⟩

theorem fields171 : ∃ fs, Try.prog.underlying 171 = some (.struct fs) ∧ fs.toList.map (fun f => (f.type, f.offset)) = [(2, 0), (22, 1)] := ⟨_, Try.underlying171, by kernel_rfl⟩
theorem cells171 : Try.prog.cellsOf 171 = 2 := by kernel_rfl
theorem came171 {w : World} {cs : List Value} (h : CameC Try.prog w 171 cs) : ∃ (x0 : Int) (x1 : Int), cs = [.int .i64 x0, .int .u32 x1] ∧ (Lit.int .i64 x0).wf = true ∧ (Lit.int .u32 x1).wf = true := by
  obtain ⟨fs, hu, hf⟩ := fields171
  obtain ⟨hl0, hs⟩ := CameC.struct hu h
  rw [cells171] at hl0
  obtain ⟨c0, cs1, rfl, hl1⟩ := cons_of hl0
  obtain ⟨c1, cs2, rfl, hl2⟩ := cons_of hl1
  obtain rfl := List.eq_nil_of_length_eq_zero hl2
  have key := fun t o => key_of hf hs (t := t) (o := o)
  clear hs hf h
  have k0 := key 2 0 (by simp)
  rw [show Try.prog.cellsOf 2 = 1 from by kernel_rfl] at k0
  obtain ⟨x0, e0, hx0⟩ := CameC.int Try.underlying2 k0
  simp only [List.drop_succ_cons, List.drop_zero, List.take_succ_cons, List.take_zero, List.cons.injEq, and_true] at e0
  have k1 := key 22 1 (by simp)
  rw [show Try.prog.cellsOf 22 = 1 from by kernel_rfl] at k1
  obtain ⟨x1, e1, hx1⟩ := CameC.int Try.underlying22 k1
  simp only [List.drop_succ_cons, List.drop_zero, List.take_succ_cons, List.take_zero, List.cons.injEq, and_true] at e1
  clear key
  obtain rfl := e0
  obtain rfl := e1
  exact ⟨x0, x1, rfl, hx0, hx1⟩
end Go.Proofs.Ytgaaonbjfhklbaa
