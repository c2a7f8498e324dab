/- ServerIdle: the frame alone, at some numbers. (Printed by gen_idle.py.) -/
import Derived.Test.YtigdbooadelciaaGreatIdle0
namespace Go.Proofs.YtigdbooadelciaaGreat
set_option linter.unusedVariables false
set_option linter.unusedSimpArgs false
open Go.RowKit

def FrcRun (n : Nat) : Prop := obsK (evCallN Tryz.prog extX idleO 1000 100 13 [msgC 7 0 0 n] ⟨sta0.tree, 0, [], [], [], []⟩) 36 (sta0.keep []) = some (.slice (some ⟨34, 0, none⟩) 10 10, [], Keep.want 36 (sta0.keep []))
theorem runFrc0 : FrcRun 0 := by unfold FrcRun; kernel_rfl
theorem runFrc1 : FrcRun 1 := by unfold FrcRun; kernel_rfl
theorem runFrc2 : FrcRun 2 := by unfold FrcRun; kernel_rfl
theorem runFrc3 : FrcRun 3 := by unfold FrcRun; kernel_rfl
theorem runFrc4 : FrcRun 4 := by unfold FrcRun; kernel_rfl
theorem runFrc5 : FrcRun 5 := by unfold FrcRun; kernel_rfl
theorem runFrc6 : FrcRun 6 := by unfold FrcRun; kernel_rfl
theorem runFrc7 : FrcRun 7 := by unfold FrcRun; kernel_rfl
theorem runFrc8 : FrcRun 8 := by unfold FrcRun; kernel_rfl
theorem runFrc9 : FrcRun 9 := by unfold FrcRun; kernel_rfl
theorem runFrc10 : FrcRun 10 := by unfold FrcRun; kernel_rfl
theorem runFrc11 : FrcRun 11 := by unfold FrcRun; kernel_rfl
theorem runFrc12 : FrcRun 12 := by unfold FrcRun; kernel_rfl
theorem runFrc13 : FrcRun 13 := by unfold FrcRun; kernel_rfl
theorem runFrc14 : FrcRun 14 := by unfold FrcRun; kernel_rfl
theorem runFrc15 : FrcRun 15 := by unfold FrcRun; kernel_rfl
theorem runFrc16 : FrcRun 16 := by unfold FrcRun; kernel_rfl
theorem runFrc17 : FrcRun 17 := by unfold FrcRun; kernel_rfl
theorem runFrc18 : FrcRun 18 := by unfold FrcRun; kernel_rfl
theorem runFrc19 : FrcRun 19 := by unfold FrcRun; kernel_rfl
theorem runFrc20 : FrcRun 20 := by unfold FrcRun; kernel_rfl
theorem runFrc21 : FrcRun 21 := by unfold FrcRun; kernel_rfl
theorem runFrc22 : FrcRun 22 := by unfold FrcRun; kernel_rfl
theorem runFrc23 : FrcRun 23 := by unfold FrcRun; kernel_rfl
theorem runFrc24 : FrcRun 24 := by unfold FrcRun; kernel_rfl
theorem runFrc25 : FrcRun 25 := by unfold FrcRun; kernel_rfl
theorem runFrc26 : FrcRun 26 := by unfold FrcRun; kernel_rfl
theorem runFrc27 : FrcRun 27 := by unfold FrcRun; kernel_rfl
theorem runFrc28 : FrcRun 28 := by unfold FrcRun; kernel_rfl
theorem runFrc29 : FrcRun 29 := by unfold FrcRun; kernel_rfl
theorem runFrc30 : FrcRun 30 := by unfold FrcRun; kernel_rfl
theorem runFrc31 : FrcRun 31 := by unfold FrcRun; kernel_rfl
theorem runFrc32 : FrcRun 32 := by unfold FrcRun; kernel_rfl
theorem runFrc33 : FrcRun 33 := by unfold FrcRun; kernel_rfl
theorem runFrc34 : FrcRun 34 := by unfold FrcRun; kernel_rfl
theorem runFrc35 : FrcRun 35 := by unfold FrcRun; kernel_rfl
theorem runFrc36 : FrcRun 36 := by unfold FrcRun; kernel_rfl
theorem runFrc37 : FrcRun 37 := by unfold FrcRun; kernel_rfl
theorem runFrc38 : FrcRun 38 := by unfold FrcRun; kernel_rfl
theorem runFrc39 : FrcRun 39 := by unfold FrcRun; kernel_rfl
end Go.Proofs.YtigdbooadelciaaGreat
