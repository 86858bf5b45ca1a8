/- The law FnExactIsKeyWalk of the given program is true for all its inputs; no condition. -/
import Derived.Test.YtkledlpiilcagaaLawFnExactIsKeyWalk
import Derived.Test.YtkledlpiilcagaaPvTaken
namespace Go.Proofs.Ytkledlpiilcagaa
theorem fnExactIsKeyWalk_holds : Rows.FnExactIsKeyWalkSaid :=
  fnExactIsKeyWalk.over fun x hw => Go.Pv.lawIsKeyWalk x.1.1 x.1.2.1 x.1.2.2.1 x.2.1 hw.1.2.1.1 hw.1.2.2.1.1 hw.2.1.1
#print axioms fnExactIsKeyWalk_holds
end Go.Proofs.Ytkledlpiilcagaa
