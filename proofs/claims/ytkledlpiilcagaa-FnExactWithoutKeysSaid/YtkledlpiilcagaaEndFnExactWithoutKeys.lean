/- The law FnExactWithoutKeys of the given program is true for all its inputs; no condition. -/
import Derived.Test.YtkledlpiilcagaaLawFnExactWithoutKeys
import Derived.Test.YtkledlpiilcagaaPvLawsPut
namespace Go.Proofs.Ytkledlpiilcagaa
theorem fnExactWithoutKeys_holds : Rows.FnExactWithoutKeysSaid :=
  fnExactWithoutKeys.over fun x hw => Go.Pv.lawWithoutKeys x.1.1 x.1.2.1 x.1.2.2.1 x.2.1 hw.1.2.1.1 hw.1.2.2.1.1
#print axioms fnExactWithoutKeys_holds
end Go.Proofs.Ytkledlpiilcagaa
