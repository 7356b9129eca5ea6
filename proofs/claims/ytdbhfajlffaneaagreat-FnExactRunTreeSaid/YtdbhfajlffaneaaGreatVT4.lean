/- V-logic -/
import Derived.Test.YtdbhfajlffaneaaGreatVPD
import Derived.Test.YtdbhfajlffaneaaGreatVT3
namespace Go.VL
open Go.Proofs
set_option maxRecDepth 10000
set_option linter.unusedSimpArgs false
set_option linter.unusedVariables false
end Go.VL
