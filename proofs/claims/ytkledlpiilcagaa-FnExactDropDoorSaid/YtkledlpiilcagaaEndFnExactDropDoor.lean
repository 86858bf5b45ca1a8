/- The law FnExactDropDoor of the given program is true for all its inputs; no condition. -/
import Derived.Test.YtkledlpiilcagaaLawFnExactDropDoor
import Derived.Test.YtkledlpiilcagaaPvLawsDrop
namespace Go.Proofs.Ytkledlpiilcagaa
theorem fnExactDropDoor_holds : Rows.FnExactDropDoorSaid :=
  fnExactDropDoor.over fun x hw => Go.Pv.lawDropDoor x.1.1 x.1.2.1 x.1.2.2.1 x.2.1 hw.1.2.1.1 hw.1.2.2.1.1
#print axioms fnExactDropDoor_holds
end Go.Proofs.Ytkledlpiilcagaa
