/- The law FnExactFreeColours of the given program is true for all its inputs; no condition. -/
import Derived.Test.YtoppnaekfjjaaaaLawFnExactFreeColours
import Derived.Test.YtoppnaekfjjaaaaPvLawsE
namespace Go.Proofs.Ytoppnaekfjjaaaa
theorem fnExactFreeColours_holds : Rows.FnExactFreeColoursSaid :=
  fnExactFreeColours.over fun x hw => Go.Pv.lawFreeColours x.1.1 x.1.2.1 x.1.2.2.1 x.2.1 hw.1.2.1.1 hw.1.2.2.1.1
#print axioms fnExactFreeColours_holds
end Go.Proofs.Ytoppnaekfjjaaaa
