/- The law FnExactFewestSteps of the given program is true for all its inputs; no condition. -/
import Derived.Test.YtjhidgbicfegkaaLawFnExactFewestSteps
import Derived.Test.YtjhidgbicfegkaaPvLawsL4
namespace Go.Proofs.Ytjhidgbicfegkaa
theorem fnExactFewestSteps_holds : Rows.FnExactFewestStepsSaid :=
  fnExactFewestSteps.over fun x hw => Go.Pv.lawFewestSteps x.1.1 x.1.2.1 x.1.2.2.1 hw.1.2.1.1 hw.1.2.2.1.1
#print axioms fnExactFewestSteps_holds
end Go.Proofs.Ytjhidgbicfegkaa
