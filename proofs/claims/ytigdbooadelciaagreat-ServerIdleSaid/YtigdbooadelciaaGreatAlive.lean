/- The statements' example is true. -/
import Derived.Test.YtigdbooadelciaaGreatOvr
import Derived.Test.YtigdbooadelciaaGreatExt
namespace Go.Proofs.YtigdbooadelciaaGreat
set_option linter.unusedVariables false
set_option linter.unusedSimpArgs false
open Go.RowKit
theorem alive_ev : evOk (evCallN Tryz.prog extX crcO 1000 100 5 [] st0) = some (.bool true) := by kernel_rfl
theorem alive_calls (w : World) : Calls Tryz.prog 5 #[] w fun e w' => e = .returned (.bool true) ∧ Below w.heap.size w w' := by
  have h := alive_ev
  unfold evOk at h
  split at h
  · rename_i v' s' he
    split at h
    · rename_i hob
      cases h
      refine (ev_open (R := fun _ => none) mixed extX_ok (crcO_ok _) (fun _ _ h => by cases h) he (avs := []) rfl (fun R' _ q hq => by rw [hob] at hq; cases hq)).mono ?_
      rintro e w' ⟨R', v2, rfl, h1, _, h2⟩
      have h1 : v2 = .bool true := h1
      rw [h1]
      exact ⟨rfl, h2⟩
    · cases h
  · cases h
end Go.Proofs.YtigdbooadelciaaGreat
