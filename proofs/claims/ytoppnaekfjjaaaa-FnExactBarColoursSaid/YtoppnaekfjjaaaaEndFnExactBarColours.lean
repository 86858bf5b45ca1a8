/- The law FnExactBarColours of the given program is true for all its inputs; no condition. -/
import Derived.Test.YtoppnaekfjjaaaaLawFnExactBarColours
import Derived.Test.YtoppnaekfjjaaaaPvLawsE
namespace Go.Proofs.Ytoppnaekfjjaaaa
theorem fnExactBarColours_holds : Rows.FnExactBarColoursSaid :=
  fnExactBarColours.over fun x hw => Go.Pv.lawBarColours x.1.1 x.1.2.1 x.1.2.2.1 x.2.1 hw.1.2.1.1 hw.1.2.2.1.1
#print axioms fnExactBarColours_holds
end Go.Proofs.Ytoppnaekfjjaaaa
