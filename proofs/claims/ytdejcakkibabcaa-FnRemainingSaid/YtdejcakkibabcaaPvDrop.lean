/- Plain laws: a maze without one of its doors. -/
import Derived.Test.YtdejcakkibabcaaPvBits
set_option linter.unusedVariables false
set_option linter.unusedSimpArgs false
set_option autoImplicit false
namespace Go.Pv
open Go Go.Fx Go.Pf

abbrev RM' := Int × List (Int × Int × Int) × List Int × Bool
end Go.Pv
