/- The law FnExactCanWin of the given program is true for all its inputs; no condition. -/
import Derived.Test.YtnnonephkmikmaaLawFnExactCanWin
import Derived.Test.YtnnonephkmikmaaPvLawsL3
namespace Go.Proofs.Ytnnonephkmikmaa
theorem fnExactCanWin_holds : Rows.FnExactCanWinSaid :=
  fnExactCanWin.over fun x hw => Go.Pv.lawCanWin x.1.1 x.1.2.1 x.1.2.2.1 x.2.1 hw.1.2.1.1 hw.1.2.2.1.1
#print axioms fnExactCanWin_holds
end Go.Proofs.Ytnnonephkmikmaa
