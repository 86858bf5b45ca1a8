/- The law FnExactStepsAndKeys of the given program is true for all its inputs; no condition. -/
import Derived.Test.YtjhidgbicfegkaaLawFnExactStepsAndKeys
import Derived.Test.YtjhidgbicfegkaaPvLawsL4
namespace Go.Proofs.Ytjhidgbicfegkaa
theorem fnExactStepsAndKeys_holds : Rows.FnExactStepsAndKeysSaid :=
  fnExactStepsAndKeys.over fun x hw => Go.Pv.lawStepsAndKeys x.1.1 x.1.2.1 x.1.2.2.1 hw.1.2.1.1 hw.1.2.2.1.1
#print axioms fnExactStepsAndKeys_holds
end Go.Proofs.Ytjhidgbicfegkaa
