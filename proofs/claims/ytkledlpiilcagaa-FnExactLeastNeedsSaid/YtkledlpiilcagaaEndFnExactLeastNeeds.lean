/- The law FnExactLeastNeeds of the given program is true for all its inputs; no condition. -/
import Derived.Test.YtkledlpiilcagaaLawFnExactLeastNeeds
import Derived.Test.YtkledlpiilcagaaPvLawsWithout
namespace Go.Proofs.Ytkledlpiilcagaa
theorem fnExactLeastNeeds_holds : Rows.FnExactLeastNeedsSaid :=
  fnExactLeastNeeds.over fun x hw => Go.Pv.lawLeastNeeds x.1.1 x.1.2.1 x.1.2.2.1 x.2.1 x.2.2.1 hw.1.2.1.1 hw.1.2.2.1.1
#print axioms fnExactLeastNeeds_holds
end Go.Proofs.Ytkledlpiilcagaa
