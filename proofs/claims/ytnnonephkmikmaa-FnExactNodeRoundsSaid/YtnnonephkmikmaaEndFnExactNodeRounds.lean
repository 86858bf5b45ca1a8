/- The law FnExactNodeRounds of the given program is true for all its inputs; no condition. -/
import Derived.Test.YtnnonephkmikmaaLawFnExactNodeRounds
import Derived.Test.YtnnonephkmikmaaPvLawsL3
namespace Go.Proofs.Ytnnonephkmikmaa
theorem fnExactNodeRounds_holds : Rows.FnExactNodeRoundsSaid :=
  fnExactNodeRounds.over fun x hw => Go.Pv.lawNodeRounds x.1.1 x.1.2.1 x.1.2.2.1 x.2.1 hw.1.2.1.1 hw.1.2.2.1.1
#print axioms fnExactNodeRounds_holds
end Go.Proofs.Ytnnonephkmikmaa
