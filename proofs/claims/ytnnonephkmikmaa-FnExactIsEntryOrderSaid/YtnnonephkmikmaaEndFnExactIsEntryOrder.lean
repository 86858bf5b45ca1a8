/- The law FnExactIsEntryOrder of the given program is true for all its inputs; no condition. -/
import Derived.Test.YtnnonephkmikmaaLawFnExactIsEntryOrder
import Derived.Test.YtnnonephkmikmaaPvLawsL5
namespace Go.Proofs.Ytnnonephkmikmaa
theorem fnExactIsEntryOrder_holds : Rows.FnExactIsEntryOrderSaid :=
  fnExactIsEntryOrder.over fun x hw => Go.Pv.lawIsEntryOrder x.1.1 x.1.2.1 x.1.2.2.1 x.2.1 hw.1.2.1.1 hw.1.2.2.1.1 hw.2.1.1
#print axioms fnExactIsEntryOrder_holds
end Go.Proofs.Ytnnonephkmikmaa
