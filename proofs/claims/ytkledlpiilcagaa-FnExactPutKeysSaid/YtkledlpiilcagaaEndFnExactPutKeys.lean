/- The law FnExactPutKeys of the given program is true for all its inputs; no condition. -/
import Derived.Test.YtkledlpiilcagaaLawFnExactPutKeys
import Derived.Test.YtkledlpiilcagaaPvLawsPut
namespace Go.Proofs.Ytkledlpiilcagaa
theorem fnExactPutKeys_holds : Rows.FnExactPutKeysSaid :=
  fnExactPutKeys.over fun x hw => Go.Pv.lawPutKeys x.1.1 x.1.2.1 x.1.2.2.1 x.2.1 x.2.2.1 hw.1.2.1.1 hw.1.2.2.1.1
#print axioms fnExactPutKeys_holds
end Go.Proofs.Ytkledlpiilcagaa
