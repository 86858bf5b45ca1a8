/- The law FnExactWithoutNode of the given program is true for all its inputs; no condition. -/
import Derived.Test.YtkledlpiilcagaaLawFnExactWithoutNode
import Derived.Test.YtkledlpiilcagaaPvLawsWithout
namespace Go.Proofs.Ytkledlpiilcagaa
theorem fnExactWithoutNode_holds : Rows.FnExactWithoutNodeSaid :=
  fnExactWithoutNode.over fun x hw => Go.Pv.lawWithoutNode x.1.1 x.1.2.1 x.1.2.2.1 x.2.1 hw.1.2.1.1 hw.1.2.2.1.1
#print axioms fnExactWithoutNode_holds
end Go.Proofs.Ytkledlpiilcagaa
