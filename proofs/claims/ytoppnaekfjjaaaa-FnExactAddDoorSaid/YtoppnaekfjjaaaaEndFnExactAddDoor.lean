/- The law FnExactAddDoor of the given program is true for all its inputs; no condition. -/
import Derived.Test.YtoppnaekfjjaaaaLawFnExactAddDoor
import Derived.Test.YtoppnaekfjjaaaaPvLawsE
namespace Go.Proofs.Ytoppnaekfjjaaaa
theorem fnExactAddDoor_holds : Rows.FnExactAddDoorSaid :=
  fnExactAddDoor.over fun x hw => Go.Pv.lawAddDoor x.1.1 x.1.2.1 x.1.2.2.1 x.2.1 x.2.2.1 x.2.2.2.1 hw.1.2.1.1 hw.1.2.2.1.1
#print axioms fnExactAddDoor_holds
end Go.Proofs.Ytoppnaekfjjaaaa
