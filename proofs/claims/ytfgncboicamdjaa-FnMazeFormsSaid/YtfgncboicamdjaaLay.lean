/- Doors are compared as the library's sorting function asks it; printed by a program of mine (mach.py). -/
import Derived.Test.YtfgncboicamdjaaLay0
import Derived.Test.YtfgncboicamdjaaGwF
import Derived.Test.YtfgncboicamdjaaPvIsMaze
set_option linter.unusedVariables false
set_option autoImplicit false
namespace Go.Pf
open Go Go.Fx
theorem cfD_eq (p q : Int × Int × Int) : impl_compareDoors.F 4 p.1 p.2.1 p.2.2 q.1 q.2.1 q.2.2 = some (cfD p q) := by
  simp only [impl_compareDoors.F, Go.Pv.compare_eq, Option.bind_some, Go.Pv.or3_eq (n := 4) (by omega)]
  rfl
namespace Lay
theorem aggD : ∀ w, (isAgg 67).run Go.Proofs.Try.prog w = .ok true w := Go.Proofs.Try.isAgg67
theorem sizeD : ∀ w, (Go.sizeOf 67).run Go.Proofs.Try.prog w = .ok 3 w := Go.Proofs.Try.sizeOf67
end Lay
end Go.Pf
