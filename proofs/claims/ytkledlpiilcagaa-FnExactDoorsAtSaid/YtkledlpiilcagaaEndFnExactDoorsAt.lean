/- The law FnExactDoorsAt of the given program is true for all its inputs; no condition. -/
import Derived.Test.YtkledlpiilcagaaLawFnExactDoorsAt
import Derived.Test.YtkledlpiilcagaaPvLawsPut
namespace Go.Proofs.Ytkledlpiilcagaa
theorem fnExactDoorsAt_holds : Rows.FnExactDoorsAtSaid :=
  fnExactDoorsAt.over fun x hw => Go.Pv.lawDoorsAt x.1.1 x.1.2.1 x.1.2.2.1 x.2.1 hw.1.2.1.1 hw.1.2.2.1.1
#print axioms fnExactDoorsAt_holds
end Go.Proofs.Ytkledlpiilcagaa
