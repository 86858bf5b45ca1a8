/- The law FnExactPrecedes of the given program is true for all its inputs; no condition. -/
import Derived.Test.YtnnonephkmikmaaLawFnExactPrecedes
import Derived.Test.YtnnonephkmikmaaPvLawsL5
namespace Go.Proofs.Ytnnonephkmikmaa
theorem fnExactPrecedes_holds : Rows.FnExactPrecedesSaid :=
  fnExactPrecedes.over fun x hw => Go.Pv.lawPrecedes x.1.1 x.1.2.1 x.1.2.2.1 x.2.1 x.2.2.1 hw.1.2.1.1 hw.1.2.2.1.1
#print axioms fnExactPrecedes_holds
end Go.Proofs.Ytnnonephkmikmaa
