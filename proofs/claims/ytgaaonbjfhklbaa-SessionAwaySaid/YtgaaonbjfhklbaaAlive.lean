/- The statements' example is true. -/
import Derived.Test.YtgaaonbjfhklbaaChecked
import Derived.Test.YtgaaonbjfhklbaaEv14
namespace Go.Proofs.Ytgaaonbjfhklbaa
set_option linter.unusedVariables false
set_option linter.unusedSimpArgs false
open Go.RowKit
def extX : ExtT := [(63, .load .u32), (73, .store .u32), (74, .cas .u32)]
theorem extX_ok : ExtOk Try.prog extX := by
  intro p hp
  simp only [extX, List.mem_cons, List.mem_nil_iff, or_false] at hp
  rcases hp with rfl | rfl | rfl
  · exact ⟨Try.f63, by kernel_rfl, by kernel_rfl, by kernel_rfl, by kernel_rfl, by kernel_rfl⟩
  · exact ⟨Try.f73, by kernel_rfl, by kernel_rfl, by kernel_rfl, by kernel_rfl, by kernel_rfl⟩
  · exact ⟨Try.f74, by kernel_rfl, by kernel_rfl, by kernel_rfl, by kernel_rfl, by kernel_rfl⟩
theorem mixed : Try.prog.follows .mixedOrders = true := by kernel_rfl
theorem alive_ev : evOk (evCallN Try.prog extX noOvr 1000 100 7 [] st0) = some (.bool true) := by kernel_rfl
theorem alive_calls (w : World) : Calls Try.prog 7 #[] w fun e w' => e = .returned (.bool true) ∧ Below w.heap.size w w' :=
  ev_closed mixed extX_ok alive_ev rfl rfl w
end Go.Proofs.Ytgaaonbjfhklbaa
