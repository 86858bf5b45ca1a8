/- Plain laws: doors at a node, other keys, a colour less, mazes that are joined. -/
import Derived.Test.YtdejcakkibabcaaPvNode
import Derived.Test.YtdejcakkibabcaaPvHeld
set_option linter.unusedVariables false
set_option linter.unusedSimpArgs false
set_option autoImplicit false
namespace Go.Pv
open Go Go.Fx Go.Pf

section
variable {n : Nat} {N : Int} {ds : List (Int × Int × Int)} {ks : List Int}
end
end Go.Pv
