/- V-logic -/
import Derived.Test.YtdbhfajlffaneaaGreatVT6
import Derived.Test.YtdbhfajlffaneaaGreatVPE
namespace Go.VL
open Go.Proofs
set_option maxRecDepth 10000
set_option linter.unusedSimpArgs false
set_option linter.unusedVariables false
end Go.VL
namespace Go.VL
open Go.Proofs
set_option maxRecDepth 10000
set_option linter.unusedSimpArgs false
set_option linter.unusedVariables false
end Go.VL
