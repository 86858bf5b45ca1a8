/- The law FnExactGainAtLast of the given program is true for all its inputs; no condition. -/
import Derived.Test.YtnnonephkmikmaaLawFnExactGainAtLast
import Derived.Test.YtnnonephkmikmaaPvLawsL3
namespace Go.Proofs.Ytnnonephkmikmaa
theorem fnExactGainAtLast_holds : Rows.FnExactGainAtLastSaid :=
  fnExactGainAtLast.over fun x hw => Go.Pv.lawGainAtLast x.1.1 x.1.2.1 x.1.2.2.1 x.2.1 hw.1.2.1.1 hw.1.2.2.1.1
#print axioms fnExactGainAtLast_holds
end Go.Proofs.Ytnnonephkmikmaa
