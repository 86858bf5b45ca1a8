/- The law FnExactTakenOn of the given program is true for all its inputs; no condition. -/
import Derived.Test.YtkledlpiilcagaaLawFnExactTakenOn
import Derived.Test.YtkledlpiilcagaaPvTaken
namespace Go.Proofs.Ytkledlpiilcagaa
theorem fnExactTakenOn_holds : Rows.FnExactTakenOnSaid :=
  fnExactTakenOn.over fun x hw => Go.Pv.lawTakenOn x.1.1 x.1.2.1 x.1.2.2.1 x.2.1 hw.1.2.1.1 hw.1.2.2.1.1 hw.2.1.1
#print axioms fnExactTakenOn_holds
end Go.Proofs.Ytkledlpiilcagaa
