/- The law FnExactIsEntrySet of the given program is true for all its inputs; no condition. -/
import Derived.Test.YtnnonephkmikmaaLawFnExactIsEntrySet
import Derived.Test.YtnnonephkmikmaaPvLawsL5
namespace Go.Proofs.Ytnnonephkmikmaa
theorem fnExactIsEntrySet_holds : Rows.FnExactIsEntrySetSaid :=
  fnExactIsEntrySet.over fun x hw => Go.Pv.lawIsEntrySet x.1.1 x.1.2.1 x.1.2.2.1 x.2.1 hw.1.2.1.1 hw.1.2.2.1.1 hw.2.1.1
#print axioms fnExactIsEntrySet_holds
end Go.Proofs.Ytnnonephkmikmaa
