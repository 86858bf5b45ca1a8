/- The law FnExactFirstEntryOrder of the given program is true for all its inputs; no condition. -/
import Derived.Test.YtnnonephkmikmaaLawFnExactFirstEntryOrder
import Derived.Test.YtnnonephkmikmaaPvLawsL5
namespace Go.Proofs.Ytnnonephkmikmaa
theorem fnExactFirstEntryOrder_holds : Rows.FnExactFirstEntryOrderSaid :=
  fnExactFirstEntryOrder.over fun x hw => Go.Pv.lawFirstEntryOrder x.1.1 x.1.2.1 x.1.2.2.1 hw.1.2.1.1 hw.1.2.2.1.1
#print axioms fnExactFirstEntryOrder_holds
end Go.Proofs.Ytnnonephkmikmaa
