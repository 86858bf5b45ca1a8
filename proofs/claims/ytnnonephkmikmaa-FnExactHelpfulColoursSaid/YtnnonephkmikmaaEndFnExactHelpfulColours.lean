/- The law FnExactHelpfulColours of the given program is true for all its inputs; no condition. -/
import Derived.Test.YtnnonephkmikmaaLawFnExactHelpfulColours
import Derived.Test.YtnnonephkmikmaaPvLawsL3
namespace Go.Proofs.Ytnnonephkmikmaa
theorem fnExactHelpfulColours_holds : Rows.FnExactHelpfulColoursSaid :=
  fnExactHelpfulColours.over fun x hw => Go.Pv.lawHelpfulColours x.1.1 x.1.2.1 x.1.2.2.1 x.2.1 hw.1.2.1.1 hw.1.2.2.1.1
#print axioms fnExactHelpfulColours_holds
end Go.Proofs.Ytnnonephkmikmaa
