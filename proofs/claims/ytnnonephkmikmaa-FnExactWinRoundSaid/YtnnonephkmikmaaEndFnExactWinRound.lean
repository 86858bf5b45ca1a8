/- The law FnExactWinRound of the given program is true for all its inputs; no condition. -/
import Derived.Test.YtnnonephkmikmaaLawFnExactWinRound
import Derived.Test.YtnnonephkmikmaaPvLawsL3
namespace Go.Proofs.Ytnnonephkmikmaa
theorem fnExactWinRound_holds : Rows.FnExactWinRoundSaid :=
  fnExactWinRound.over fun x hw => Go.Pv.lawWinRound x.1.1 x.1.2.1 x.1.2.2.1 x.2.1 hw.1.2.1.1 hw.1.2.2.1.1
#print axioms fnExactWinRound_holds
end Go.Proofs.Ytnnonephkmikmaa
