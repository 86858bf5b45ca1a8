/- The law FnExactRoundsOf of the given program is true for all its inputs; no condition. -/
import Derived.Test.YtnnonephkmikmaaLawFnExactRoundsOf
import Derived.Test.YtnnonephkmikmaaPvLawsL3
namespace Go.Proofs.Ytnnonephkmikmaa
theorem fnExactRoundsOf_holds : Rows.FnExactRoundsOfSaid :=
  fnExactRoundsOf.over fun x hw => Go.Pv.lawRoundsOf x.1.1 x.1.2.1 x.1.2.2.1 x.2.1 hw.1.2.1.1 hw.1.2.2.1.1
#print axioms fnExactRoundsOf_holds
end Go.Proofs.Ytnnonephkmikmaa
