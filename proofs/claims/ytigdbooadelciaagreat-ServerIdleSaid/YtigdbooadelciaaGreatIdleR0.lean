/- ServerIdle: runs at some numbers. (Printed by gen_idle.py.) -/
import Derived.Test.YtigdbooadelciaaGreatIdle0
namespace Go.Proofs.YtigdbooadelciaaGreat
set_option linter.unusedVariables false
set_option linter.unusedSimpArgs false
open Go.RowKit

theorem runFrRun0 : FrRun 0 := fun _ _ _ => by kernel_rfl
theorem runInRun0 : InRun 0 := fun _ _ _ => by kernel_rfl
theorem runOutRun0 : OutRun 0 := fun _ _ => by kernel_rfl
theorem runAllRun0 : AllRun 0 := fun _ _ => by kernel_rfl
theorem runFrRun1 : FrRun 1 := fun _ _ _ => by kernel_rfl
theorem runInRun1 : InRun 1 := fun _ _ _ => by kernel_rfl
theorem runOutRun1 : OutRun 1 := fun _ _ => by kernel_rfl
theorem runAllRun1 : AllRun 1 := fun _ _ => by kernel_rfl
theorem runFrRun2 : FrRun 2 := fun _ _ _ => by kernel_rfl
theorem runInRun2 : InRun 2 := fun _ _ _ => by kernel_rfl
theorem runOutRun2 : OutRun 2 := fun _ _ => by kernel_rfl
theorem runAllRun2 : AllRun 2 := fun _ _ => by kernel_rfl
theorem runFrRun3 : FrRun 3 := fun _ _ _ => by kernel_rfl
theorem runInRun3 : InRun 3 := fun _ _ _ => by kernel_rfl
theorem runOutRun3 : OutRun 3 := fun _ _ => by kernel_rfl
theorem runAllRun3 : AllRun 3 := fun _ _ => by kernel_rfl
theorem runFrRun4 : FrRun 4 := fun _ _ _ => by kernel_rfl
theorem runInRun4 : InRun 4 := fun _ _ _ => by kernel_rfl
theorem runOutRun4 : OutRun 4 := fun _ _ => by kernel_rfl
theorem runAllRun4 : AllRun 4 := fun _ _ => by kernel_rfl
theorem runFrRun5 : FrRun 5 := fun _ _ _ => by kernel_rfl
theorem runInRun5 : InRun 5 := fun _ _ _ => by kernel_rfl
theorem runOutRun5 : OutRun 5 := fun _ _ => by kernel_rfl
theorem runAllRun5 : AllRun 5 := fun _ _ => by kernel_rfl
theorem runFrRun6 : FrRun 6 := fun _ _ _ => by kernel_rfl
theorem runInRun6 : InRun 6 := fun _ _ _ => by kernel_rfl
theorem runOutRun6 : OutRun 6 := fun _ _ => by kernel_rfl
theorem runAllRun6 : AllRun 6 := fun _ _ => by kernel_rfl
theorem runFrRun7 : FrRun 7 := fun _ _ _ => by kernel_rfl
theorem runInRun7 : InRun 7 := fun _ _ _ => by kernel_rfl
theorem runOutRun7 : OutRun 7 := fun _ _ => by kernel_rfl
theorem runAllRun7 : AllRun 7 := fun _ _ => by kernel_rfl
theorem runFrRun8 : FrRun 8 := fun _ _ _ => by kernel_rfl
theorem runInRun8 : InRun 8 := fun _ _ _ => by kernel_rfl
theorem runOutRun8 : OutRun 8 := fun _ _ => by kernel_rfl
theorem runAllRun8 : AllRun 8 := fun _ _ => by kernel_rfl
theorem runFrRun9 : FrRun 9 := fun _ _ _ => by kernel_rfl
theorem runInRun9 : InRun 9 := fun _ _ _ => by kernel_rfl
theorem runOutRun9 : OutRun 9 := fun _ _ => by kernel_rfl
theorem runAllRun9 : AllRun 9 := fun _ _ => by kernel_rfl
theorem runFrRun10 : FrRun 10 := fun _ _ _ => by kernel_rfl
theorem runInRun10 : InRun 10 := fun _ _ _ => by kernel_rfl
theorem runOutRun10 : OutRun 10 := fun _ _ => by kernel_rfl
theorem runAllRun10 : AllRun 10 := fun _ _ => by kernel_rfl
theorem runFrRun11 : FrRun 11 := fun _ _ _ => by kernel_rfl
theorem runInRun11 : InRun 11 := fun _ _ _ => by kernel_rfl
theorem runOutRun11 : OutRun 11 := fun _ _ => by kernel_rfl
theorem runAllRun11 : AllRun 11 := fun _ _ => by kernel_rfl
theorem runFrRun12 : FrRun 12 := fun _ _ _ => by kernel_rfl
theorem runInRun12 : InRun 12 := fun _ _ _ => by kernel_rfl
theorem runOutRun12 : OutRun 12 := fun _ _ => by kernel_rfl
theorem runAllRun12 : AllRun 12 := fun _ _ => by kernel_rfl
theorem runFrRun13 : FrRun 13 := fun _ _ _ => by kernel_rfl
theorem runInRun13 : InRun 13 := fun _ _ _ => by kernel_rfl
theorem runOutRun13 : OutRun 13 := fun _ _ => by kernel_rfl
theorem runAllRun13 : AllRun 13 := fun _ _ => by kernel_rfl
theorem runFrRun14 : FrRun 14 := fun _ _ _ => by kernel_rfl
theorem runInRun14 : InRun 14 := fun _ _ _ => by kernel_rfl
theorem runOutRun14 : OutRun 14 := fun _ _ => by kernel_rfl
theorem runAllRun14 : AllRun 14 := fun _ _ => by kernel_rfl
theorem runFrRun15 : FrRun 15 := fun _ _ _ => by kernel_rfl
theorem runInRun15 : InRun 15 := fun _ _ _ => by kernel_rfl
theorem runOutRun15 : OutRun 15 := fun _ _ => by kernel_rfl
theorem runAllRun15 : AllRun 15 := fun _ _ => by kernel_rfl
theorem runFrRun16 : FrRun 16 := fun _ _ _ => by kernel_rfl
theorem runInRun16 : InRun 16 := fun _ _ _ => by kernel_rfl
theorem runOutRun16 : OutRun 16 := fun _ _ => by kernel_rfl
theorem runAllRun16 : AllRun 16 := fun _ _ => by kernel_rfl
theorem runFrRun17 : FrRun 17 := fun _ _ _ => by kernel_rfl
theorem runInRun17 : InRun 17 := fun _ _ _ => by kernel_rfl
theorem runOutRun17 : OutRun 17 := fun _ _ => by kernel_rfl
theorem runAllRun17 : AllRun 17 := fun _ _ => by kernel_rfl
theorem runFrRun18 : FrRun 18 := fun _ _ _ => by kernel_rfl
theorem runInRun18 : InRun 18 := fun _ _ _ => by kernel_rfl
theorem runOutRun18 : OutRun 18 := fun _ _ => by kernel_rfl
theorem runAllRun18 : AllRun 18 := fun _ _ => by kernel_rfl
theorem runFrRun19 : FrRun 19 := fun _ _ _ => by kernel_rfl
theorem runInRun19 : InRun 19 := fun _ _ _ => by kernel_rfl
theorem runOutRun19 : OutRun 19 := fun _ _ => by kernel_rfl
theorem runAllRun19 : AllRun 19 := fun _ _ => by kernel_rfl
end Go.Proofs.YtigdbooadelciaaGreat
