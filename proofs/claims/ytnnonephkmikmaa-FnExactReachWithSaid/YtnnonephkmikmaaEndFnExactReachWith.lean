/- The law FnExactReachWith of the given program is true for all its inputs; no condition. -/
import Derived.Test.YtnnonephkmikmaaLawFnExactReachWith
import Derived.Test.YtnnonephkmikmaaPvLawsL3
namespace Go.Proofs.Ytnnonephkmikmaa
theorem fnExactReachWith_holds : Rows.FnExactReachWithSaid :=
  fnExactReachWith.over fun x hw => Go.Pv.lawReachWith x.1.1 x.1.2.1 x.1.2.2.1 x.2.1 x.2.2.1 hw.1.2.1.1 hw.1.2.2.1.1
#print axioms fnExactReachWith_holds
end Go.Proofs.Ytnnonephkmikmaa
