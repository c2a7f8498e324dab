/- ServerIdle: runs at some numbers. (Printed by gen_idle.py.) -/
import Derived.Test.YtigdbooadelciaaGreatIdle0
namespace Go.Proofs.YtigdbooadelciaaGreat
set_option linter.unusedVariables false
set_option linter.unusedSimpArgs false
open Go.RowKit

theorem runFrRun20 : FrRun 20 := fun _ _ _ => by kernel_rfl
theorem runInRun20 : InRun 20 := fun _ _ _ => by kernel_rfl
theorem runOutRun20 : OutRun 20 := fun _ _ => by kernel_rfl
theorem runAllRun20 : AllRun 20 := fun _ _ => by kernel_rfl
theorem runFrRun21 : FrRun 21 := fun _ _ _ => by kernel_rfl
theorem runInRun21 : InRun 21 := fun _ _ _ => by kernel_rfl
theorem runOutRun21 : OutRun 21 := fun _ _ => by kernel_rfl
theorem runAllRun21 : AllRun 21 := fun _ _ => by kernel_rfl
theorem runFrRun22 : FrRun 22 := fun _ _ _ => by kernel_rfl
theorem runInRun22 : InRun 22 := fun _ _ _ => by kernel_rfl
theorem runOutRun22 : OutRun 22 := fun _ _ => by kernel_rfl
theorem runAllRun22 : AllRun 22 := fun _ _ => by kernel_rfl
theorem runFrRun23 : FrRun 23 := fun _ _ _ => by kernel_rfl
theorem runInRun23 : InRun 23 := fun _ _ _ => by kernel_rfl
theorem runOutRun23 : OutRun 23 := fun _ _ => by kernel_rfl
theorem runAllRun23 : AllRun 23 := fun _ _ => by kernel_rfl
theorem runFrRun24 : FrRun 24 := fun _ _ _ => by kernel_rfl
theorem runInRun24 : InRun 24 := fun _ _ _ => by kernel_rfl
theorem runOutRun24 : OutRun 24 := fun _ _ => by kernel_rfl
theorem runAllRun24 : AllRun 24 := fun _ _ => by kernel_rfl
theorem runFrRun25 : FrRun 25 := fun _ _ _ => by kernel_rfl
theorem runInRun25 : InRun 25 := fun _ _ _ => by kernel_rfl
theorem runOutRun25 : OutRun 25 := fun _ _ => by kernel_rfl
theorem runAllRun25 : AllRun 25 := fun _ _ => by kernel_rfl
theorem runFrRun26 : FrRun 26 := fun _ _ _ => by kernel_rfl
theorem runInRun26 : InRun 26 := fun _ _ _ => by kernel_rfl
theorem runOutRun26 : OutRun 26 := fun _ _ => by kernel_rfl
theorem runAllRun26 : AllRun 26 := fun _ _ => by kernel_rfl
theorem runFrRun27 : FrRun 27 := fun _ _ _ => by kernel_rfl
theorem runInRun27 : InRun 27 := fun _ _ _ => by kernel_rfl
theorem runOutRun27 : OutRun 27 := fun _ _ => by kernel_rfl
theorem runAllRun27 : AllRun 27 := fun _ _ => by kernel_rfl
theorem runFrRun28 : FrRun 28 := fun _ _ _ => by kernel_rfl
theorem runInRun28 : InRun 28 := fun _ _ _ => by kernel_rfl
theorem runOutRun28 : OutRun 28 := fun _ _ => by kernel_rfl
theorem runAllRun28 : AllRun 28 := fun _ _ => by kernel_rfl
theorem runFrRun29 : FrRun 29 := fun _ _ _ => by kernel_rfl
theorem runInRun29 : InRun 29 := fun _ _ _ => by kernel_rfl
theorem runOutRun29 : OutRun 29 := fun _ _ => by kernel_rfl
theorem runAllRun29 : AllRun 29 := fun _ _ => by kernel_rfl
theorem runFrRun30 : FrRun 30 := fun _ _ _ => by kernel_rfl
theorem runInRun30 : InRun 30 := fun _ _ _ => by kernel_rfl
theorem runOutRun30 : OutRun 30 := fun _ _ => by kernel_rfl
theorem runAllRun30 : AllRun 30 := fun _ _ => by kernel_rfl
theorem runFrRun31 : FrRun 31 := fun _ _ _ => by kernel_rfl
theorem runInRun31 : InRun 31 := fun _ _ _ => by kernel_rfl
theorem runOutRun31 : OutRun 31 := fun _ _ => by kernel_rfl
theorem runAllRun31 : AllRun 31 := fun _ _ => by kernel_rfl
theorem runFrRun32 : FrRun 32 := fun _ _ _ => by kernel_rfl
theorem runInRun32 : InRun 32 := fun _ _ _ => by kernel_rfl
theorem runOutRun32 : OutRun 32 := fun _ _ => by kernel_rfl
theorem runAllRun32 : AllRun 32 := fun _ _ => by kernel_rfl
theorem runFrRun33 : FrRun 33 := fun _ _ _ => by kernel_rfl
theorem runInRun33 : InRun 33 := fun _ _ _ => by kernel_rfl
theorem runOutRun33 : OutRun 33 := fun _ _ => by kernel_rfl
theorem runAllRun33 : AllRun 33 := fun _ _ => by kernel_rfl
theorem runFrRun34 : FrRun 34 := fun _ _ _ => by kernel_rfl
theorem runInRun34 : InRun 34 := fun _ _ _ => by kernel_rfl
theorem runOutRun34 : OutRun 34 := fun _ _ => by kernel_rfl
theorem runAllRun34 : AllRun 34 := fun _ _ => by kernel_rfl
theorem runFrRun35 : FrRun 35 := fun _ _ _ => by kernel_rfl
theorem runInRun35 : InRun 35 := fun _ _ _ => by kernel_rfl
theorem runOutRun35 : OutRun 35 := fun _ _ => by kernel_rfl
theorem runAllRun35 : AllRun 35 := fun _ _ => by kernel_rfl
theorem runFrRun36 : FrRun 36 := fun _ _ _ => by kernel_rfl
theorem runInRun36 : InRun 36 := fun _ _ _ => by kernel_rfl
theorem runOutRun36 : OutRun 36 := fun _ _ => by kernel_rfl
theorem runAllRun36 : AllRun 36 := fun _ _ => by kernel_rfl
theorem runFrRun37 : FrRun 37 := fun _ _ _ => by kernel_rfl
theorem runInRun37 : InRun 37 := fun _ _ _ => by kernel_rfl
theorem runOutRun37 : OutRun 37 := fun _ _ => by kernel_rfl
theorem runAllRun37 : AllRun 37 := fun _ _ => by kernel_rfl
theorem runFrRun38 : FrRun 38 := fun _ _ _ => by kernel_rfl
theorem runInRun38 : InRun 38 := fun _ _ _ => by kernel_rfl
theorem runOutRun38 : OutRun 38 := fun _ _ => by kernel_rfl
theorem runAllRun38 : AllRun 38 := fun _ _ => by kernel_rfl
theorem runFrRun39 : FrRun 39 := fun _ _ _ => by kernel_rfl
theorem runInRun39 : InRun 39 := fun _ _ _ => by kernel_rfl
theorem runOutRun39 : OutRun 39 := fun _ _ => by kernel_rfl
theorem runAllRun39 : AllRun 39 := fun _ _ => by kernel_rfl
end Go.Proofs.YtigdbooadelciaaGreat
