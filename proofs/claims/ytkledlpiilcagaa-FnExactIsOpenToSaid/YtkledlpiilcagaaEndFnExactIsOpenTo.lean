/- The law FnExactIsOpenTo of the given program is true for all its inputs; no condition. -/
import Derived.Test.YtkledlpiilcagaaLawFnExactIsOpenTo
import Derived.Test.YtkledlpiilcagaaPvIsOpenTo
namespace Go.Proofs.Ytkledlpiilcagaa
theorem fnExactIsOpenTo_holds : Rows.FnExactIsOpenToSaid :=
  fnExactIsOpenTo.over fun x hw => Go.Pv.lawIsOpenTo x.1.1 x.1.2.1 x.1.2.2.1 x.2.1 x.2.2.1 x.2.2.2.1 hw.1.2.1.1 hw.1.2.2.1.1
#print axioms fnExactIsOpenTo_holds
end Go.Proofs.Ytkledlpiilcagaa
