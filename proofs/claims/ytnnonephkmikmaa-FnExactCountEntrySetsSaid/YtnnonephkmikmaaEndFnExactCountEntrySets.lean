/- The law FnExactCountEntrySets of the given program is true for all its inputs; no condition. -/
import Derived.Test.YtnnonephkmikmaaLawFnExactCountEntrySets
import Derived.Test.YtnnonephkmikmaaPvLawsCount
namespace Go.Proofs.Ytnnonephkmikmaa
theorem fnExactCountEntrySets_holds : Rows.FnExactCountEntrySetsSaid :=
  fnExactCountEntrySets.over fun x hw => Go.Pv.lawCountEntrySets x.1.1 x.1.2.1 x.1.2.2.1 hw.1.2.1.1 hw.1.2.2.1.1
#print axioms fnExactCountEntrySets_holds
end Go.Proofs.Ytnnonephkmikmaa
