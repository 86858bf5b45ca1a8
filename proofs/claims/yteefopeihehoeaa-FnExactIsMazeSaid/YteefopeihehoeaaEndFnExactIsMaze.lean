/- The law FnExactIsMaze of the given program is true for all its inputs; no condition. -/
import Derived.Test.YteefopeihehoeaaLawFnExactIsMaze
import Derived.Test.YteefopeihehoeaaPvIsMaze
namespace Go.Proofs.Yteefopeihehoeaa
theorem fnExactIsMaze_holds : Rows.FnExactIsMazeSaid :=
  fnExactIsMaze.over fun x hw => Go.Pv.lawIsMaze x.1.1 x.1.2.1 x.1.2.2.1 hw.1.2.1.1 hw.1.2.2.1.1
#print axioms fnExactIsMaze_holds
end Go.Proofs.Yteefopeihehoeaa
