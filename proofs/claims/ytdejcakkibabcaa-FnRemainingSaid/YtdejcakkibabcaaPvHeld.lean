/- Plain laws: marks of mazes that are held. -/
import Derived.Test.YtdejcakkibabcaaPvMark
set_option linter.unusedVariables false
set_option linter.unusedSimpArgs false
set_option autoImplicit false
namespace Go.Pv
open Go Go.Fx Go.Pf

end Go.Pv
