/- (kept for its name: see Strs.lean) -/
import Derived.Test.YtgaaonbjfhklbaaStrs
import Derived.Test.YtgaaonbjfhklbaaApi
namespace Go.Proofs.Ytgaaonbjfhklbaa
set_option linter.unusedVariables false
set_option linter.unusedSimpArgs false
end Go.Proofs.Ytgaaonbjfhklbaa
