/- Messages as opaque cells: what is built of them, rows of one or two of them. (Printed by gen_msgb.py, a program of this session's own.) -/
import Derived.Test.YtigdbooadelciaaGreatDedP
namespace Go.Proofs.YtigdbooadelciaaGreat
set_option linter.unusedVariables false
set_option linter.unusedSimpArgs false
open Go.RowKit

/-- A message of numbers alone. -/
def mM (kind req caps token code n num : Int) : Array Value := #[.int .u8 kind, .int .u32 req, .int .u32 caps, .int .u64 token, .int .u8 code, .int .u32 n, .string ⟨#[]⟩, .string ⟨#[]⟩, .int .u8 0, .int .u8 0, .bool false, .int .u8 0, .int .u16 0, .slice none 0 0, .int .u32 0, .slice none 0 0, .int .u16 0, .int .u16 0, .slice none 0 0, .slice none 0 0, .slice none 0 0, .int .u32 num, .int .u32 0, .slice none 0 0, .int .u64 0, .slice none 0 0, .slice none 0 0, .slice none 0 0]
theorem mM_zero : zMsg = mM 0 0 0 0 0 0 0 := rfl
theorem mM_size (a b c d e f g : Int) : (mM a b c d e f g).size = 28 := rfl
theorem mM_one (a b c d e f g : Int) : oneB (mM a b c d e f g) = true := rfl
theorem mM_len (a b c d e f g : Int) : (mM a b c d e f g).toList.length = 28 := rfl
theorem mM_all (a b c d e f g : Int) : (mM a b c d e f g).toList.all (·.oneCell') = true := rfl
theorem mM_0 (a b c d e f g : Int) : (mM a b c d e f g)[0]? = some (.int .u8 a) := rfl
theorem mM_1 (a b c d e f g : Int) : (mM a b c d e f g)[1]? = some (.int .u32 b) := rfl
theorem mM_2 (a b c d e f g : Int) : (mM a b c d e f g)[2]? = some (.int .u32 c) := rfl
theorem mM_3 (a b c d e f g : Int) : (mM a b c d e f g)[3]? = some (.int .u64 d) := rfl
theorem mM_4 (a b c d e f g : Int) : (mM a b c d e f g)[4]? = some (.int .u8 e) := rfl
theorem mM_5 (a b c d e f g : Int) : (mM a b c d e f g)[5]? = some (.int .u32 f) := rfl
theorem mM_21 (a b c d e f g : Int) : (mM a b c d e f g)[21]? = some (.int .u32 g) := rfl

def isI : IntKind → Value → Bool | k, .int k' _ => decide (k' = k) | _, _ => false
def nOf : Value → Int | .int _ n => n | _ => 0
theorem isI_int (k : IntKind) (n : Int) : isI k (.int k n) = true := by simp [isI]
theorem nOf_int (k : IntKind) (n : Int) : nOf (.int k n) = n := rfl
theorem isI_out {k : IntKind} {v : Value} (h : isI k v = true) : v = .int k (nOf v) := by
  unfold isI at h
  split at h
  · simp only [decide_eq_true_eq] at h
    subst h
    rfl
  · cases h

theorem bM_0 (ρ : Operand → Value) (x0 : Operand) (dst : Option Tmp) (ty : TypeId) (pos : String) (after : Array Edge) (gd : Option (Nat × Bool)) (w : World) (h0 : isI .u8 (ρ x0) = true) :
    (execOp ρ ⟨dst, .build 53 #[(0, x0)], ty, pos, after, gd⟩).run Tryz.prog w = .ok (.value (.agg (mM (nOf (ρ x0)) 0 0 0 0 0 0))) w := by
  have hb : ∀ n0, (Instr.build 53 #[(0, .int .u8 n0)]).run Tryz.prog w = .ok (.agg (mM n0 0 0 0 0 0 0)) w := fun n0 => by kernel_rfl
  have e0 := isI_out h0
  have hb := hb (nOf (ρ x0))
  rw [← e0] at hb
  simp only [execOp, List.map_toArray, List.map_cons, List.map_nil, Sem.run_bind, hb, Result.andThen_ok, Sem.run_pure]
theorem bM_0_1 (ρ : Operand → Value) (x0 x1 : Operand) (dst : Option Tmp) (ty : TypeId) (pos : String) (after : Array Edge) (gd : Option (Nat × Bool)) (w : World) (h0 : isI .u8 (ρ x0) = true) (h1 : isI .u32 (ρ x1) = true) :
    (execOp ρ ⟨dst, .build 53 #[(0, x0), (1, x1)], ty, pos, after, gd⟩).run Tryz.prog w = .ok (.value (.agg (mM (nOf (ρ x0)) (nOf (ρ x1)) 0 0 0 0 0))) w := by
  have hb : ∀ n0 n1, (Instr.build 53 #[(0, .int .u8 n0), (1, .int .u32 n1)]).run Tryz.prog w = .ok (.agg (mM n0 n1 0 0 0 0 0)) w := fun n0 n1 => by kernel_rfl
  have e0 := isI_out h0
  have e1 := isI_out h1
  have hb := hb (nOf (ρ x0)) (nOf (ρ x1))
  rw [← e0] at hb
  rw [← e1] at hb
  simp only [execOp, List.map_toArray, List.map_cons, List.map_nil, Sem.run_bind, hb, Result.andThen_ok, Sem.run_pure]
theorem bM_0_2 (ρ : Operand → Value) (x0 x2 : Operand) (dst : Option Tmp) (ty : TypeId) (pos : String) (after : Array Edge) (gd : Option (Nat × Bool)) (w : World) (h0 : isI .u8 (ρ x0) = true) (h2 : isI .u32 (ρ x2) = true) :
    (execOp ρ ⟨dst, .build 53 #[(0, x0), (2, x2)], ty, pos, after, gd⟩).run Tryz.prog w = .ok (.value (.agg (mM (nOf (ρ x0)) 0 (nOf (ρ x2)) 0 0 0 0))) w := by
  have hb : ∀ n0 n2, (Instr.build 53 #[(0, .int .u8 n0), (2, .int .u32 n2)]).run Tryz.prog w = .ok (.agg (mM n0 0 n2 0 0 0 0)) w := fun n0 n2 => by kernel_rfl
  have e0 := isI_out h0
  have e2 := isI_out h2
  have hb := hb (nOf (ρ x0)) (nOf (ρ x2))
  rw [← e0] at hb
  rw [← e2] at hb
  simp only [execOp, List.map_toArray, List.map_cons, List.map_nil, Sem.run_bind, hb, Result.andThen_ok, Sem.run_pure]
theorem bM_0_3 (ρ : Operand → Value) (x0 x3 : Operand) (dst : Option Tmp) (ty : TypeId) (pos : String) (after : Array Edge) (gd : Option (Nat × Bool)) (w : World) (h0 : isI .u8 (ρ x0) = true) (h3 : isI .u64 (ρ x3) = true) :
    (execOp ρ ⟨dst, .build 53 #[(0, x0), (3, x3)], ty, pos, after, gd⟩).run Tryz.prog w = .ok (.value (.agg (mM (nOf (ρ x0)) 0 0 (nOf (ρ x3)) 0 0 0))) w := by
  have hb : ∀ n0 n3, (Instr.build 53 #[(0, .int .u8 n0), (3, .int .u64 n3)]).run Tryz.prog w = .ok (.agg (mM n0 0 0 n3 0 0 0)) w := fun n0 n3 => by kernel_rfl
  have e0 := isI_out h0
  have e3 := isI_out h3
  have hb := hb (nOf (ρ x0)) (nOf (ρ x3))
  rw [← e0] at hb
  rw [← e3] at hb
  simp only [execOp, List.map_toArray, List.map_cons, List.map_nil, Sem.run_bind, hb, Result.andThen_ok, Sem.run_pure]
theorem bM_0_4 (ρ : Operand → Value) (x0 x4 : Operand) (dst : Option Tmp) (ty : TypeId) (pos : String) (after : Array Edge) (gd : Option (Nat × Bool)) (w : World) (h0 : isI .u8 (ρ x0) = true) (h4 : isI .u8 (ρ x4) = true) :
    (execOp ρ ⟨dst, .build 53 #[(0, x0), (4, x4)], ty, pos, after, gd⟩).run Tryz.prog w = .ok (.value (.agg (mM (nOf (ρ x0)) 0 0 0 (nOf (ρ x4)) 0 0))) w := by
  have hb : ∀ n0 n4, (Instr.build 53 #[(0, .int .u8 n0), (4, .int .u8 n4)]).run Tryz.prog w = .ok (.agg (mM n0 0 0 0 n4 0 0)) w := fun n0 n4 => by kernel_rfl
  have e0 := isI_out h0
  have e4 := isI_out h4
  have hb := hb (nOf (ρ x0)) (nOf (ρ x4))
  rw [← e0] at hb
  rw [← e4] at hb
  simp only [execOp, List.map_toArray, List.map_cons, List.map_nil, Sem.run_bind, hb, Result.andThen_ok, Sem.run_pure]
theorem bM_0_5 (ρ : Operand → Value) (x0 x5 : Operand) (dst : Option Tmp) (ty : TypeId) (pos : String) (after : Array Edge) (gd : Option (Nat × Bool)) (w : World) (h0 : isI .u8 (ρ x0) = true) (h5 : isI .u32 (ρ x5) = true) :
    (execOp ρ ⟨dst, .build 53 #[(0, x0), (5, x5)], ty, pos, after, gd⟩).run Tryz.prog w = .ok (.value (.agg (mM (nOf (ρ x0)) 0 0 0 0 (nOf (ρ x5)) 0))) w := by
  have hb : ∀ n0 n5, (Instr.build 53 #[(0, .int .u8 n0), (5, .int .u32 n5)]).run Tryz.prog w = .ok (.agg (mM n0 0 0 0 0 n5 0)) w := fun n0 n5 => by kernel_rfl
  have e0 := isI_out h0
  have e5 := isI_out h5
  have hb := hb (nOf (ρ x0)) (nOf (ρ x5))
  rw [← e0] at hb
  rw [← e5] at hb
  simp only [execOp, List.map_toArray, List.map_cons, List.map_nil, Sem.run_bind, hb, Result.andThen_ok, Sem.run_pure]
theorem bM_0_1_4 (ρ : Operand → Value) (x0 x1 x4 : Operand) (dst : Option Tmp) (ty : TypeId) (pos : String) (after : Array Edge) (gd : Option (Nat × Bool)) (w : World) (h0 : isI .u8 (ρ x0) = true) (h1 : isI .u32 (ρ x1) = true) (h4 : isI .u8 (ρ x4) = true) :
    (execOp ρ ⟨dst, .build 53 #[(0, x0), (1, x1), (4, x4)], ty, pos, after, gd⟩).run Tryz.prog w = .ok (.value (.agg (mM (nOf (ρ x0)) (nOf (ρ x1)) 0 0 (nOf (ρ x4)) 0 0))) w := by
  have hb : ∀ n0 n1 n4, (Instr.build 53 #[(0, .int .u8 n0), (1, .int .u32 n1), (4, .int .u8 n4)]).run Tryz.prog w = .ok (.agg (mM n0 n1 0 0 n4 0 0)) w := fun n0 n1 n4 => by kernel_rfl
  have e0 := isI_out h0
  have e1 := isI_out h1
  have e4 := isI_out h4
  have hb := hb (nOf (ρ x0)) (nOf (ρ x1)) (nOf (ρ x4))
  rw [← e0] at hb
  rw [← e1] at hb
  rw [← e4] at hb
  simp only [execOp, List.map_toArray, List.map_cons, List.map_nil, Sem.run_bind, hb, Result.andThen_ok, Sem.run_pure]
theorem bM_0_1_14 (ρ : Operand → Value) (x0 x1 x14 : Operand) (dst : Option Tmp) (ty : TypeId) (pos : String) (after : Array Edge) (gd : Option (Nat × Bool)) (w : World) (h0 : isI .u8 (ρ x0) = true) (h1 : isI .u32 (ρ x1) = true) (h14 : isI .u32 (ρ x14) = true) :
    (execOp ρ ⟨dst, .build 53 #[(0, x0), (1, x1), (14, x14)], ty, pos, after, gd⟩).run Tryz.prog w = .ok (.value (.agg (mM (nOf (ρ x0)) (nOf (ρ x1)) 0 0 0 0 (nOf (ρ x14))))) w := by
  have hb : ∀ n0 n1 n14, (Instr.build 53 #[(0, .int .u8 n0), (1, .int .u32 n1), (14, .int .u32 n14)]).run Tryz.prog w = .ok (.agg (mM n0 n1 0 0 0 0 n14)) w := fun n0 n1 n14 => by kernel_rfl
  have e0 := isI_out h0
  have e1 := isI_out h1
  have e14 := isI_out h14
  have hb := hb (nOf (ρ x0)) (nOf (ρ x1)) (nOf (ρ x14))
  rw [← e0] at hb
  rw [← e1] at hb
  rw [← e14] at hb
  simp only [execOp, List.map_toArray, List.map_cons, List.map_nil, Sem.run_bind, hb, Result.andThen_ok, Sem.run_pure]
theorem bM_0_2_3_5 (ρ : Operand → Value) (x0 x2 x3 x5 : Operand) (dst : Option Tmp) (ty : TypeId) (pos : String) (after : Array Edge) (gd : Option (Nat × Bool)) (w : World) (h0 : isI .u8 (ρ x0) = true) (h2 : isI .u32 (ρ x2) = true) (h3 : isI .u64 (ρ x3) = true) (h5 : isI .u32 (ρ x5) = true) :
    (execOp ρ ⟨dst, .build 53 #[(0, x0), (2, x2), (3, x3), (5, x5)], ty, pos, after, gd⟩).run Tryz.prog w = .ok (.value (.agg (mM (nOf (ρ x0)) 0 (nOf (ρ x2)) (nOf (ρ x3)) 0 (nOf (ρ x5)) 0))) w := by
  have hb : ∀ n0 n2 n3 n5, (Instr.build 53 #[(0, .int .u8 n0), (2, .int .u32 n2), (3, .int .u64 n3), (5, .int .u32 n5)]).run Tryz.prog w = .ok (.agg (mM n0 0 n2 n3 0 n5 0)) w := fun n0 n2 n3 n5 => by kernel_rfl
  have e0 := isI_out h0
  have e2 := isI_out h2
  have e3 := isI_out h3
  have e5 := isI_out h5
  have hb := hb (nOf (ρ x0)) (nOf (ρ x2)) (nOf (ρ x3)) (nOf (ρ x5))
  rw [← e0] at hb
  rw [← e2] at hb
  rw [← e3] at hb
  rw [← e5] at hb
  simp only [execOp, List.map_toArray, List.map_cons, List.map_nil, Sem.run_bind, hb, Result.andThen_ok, Sem.run_pure]

/-! ### Rows of messages -/
theorem zeroM (w : World) : (zeroValue 53).run Tryz.prog w = .ok (.agg zMsg) w := by kernel_rfl
theorem sizeM : (Tryz.prog.info? 53).map (·.size) = some 28 := by kernel_rfl
theorem fold_all (cs : Array Value) (h : cs.size = 28) : List.foldl (fun (a : Array Value) (x : Value × Nat) => a.setIfInBounds x.2 x.1) ((Array.range (1 * 28)).map (zMsg[· % zMsg.size]!)) cs.toList.zipIdx = cs := by
  have h1 : ((Array.range (1 * 28)).map (zMsg[· % zMsg.size]!)).size = cs.toList.length := by simp [h]
  rw [fold_set _ _ h1]
end Go.Proofs.YtigdbooadelciaaGreat
