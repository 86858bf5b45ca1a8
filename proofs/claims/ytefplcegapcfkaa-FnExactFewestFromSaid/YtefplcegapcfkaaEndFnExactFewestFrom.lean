/- The law FnExactFewestFrom of the given program is true for all its inputs; no condition. -/
import Derived.Test.YtefplcegapcfkaaLawFnExactFewestFrom
import Derived.Test.YtefplcegapcfkaaPvLawsFrom
namespace Go.Proofs.Ytefplcegapcfkaa
theorem fnExactFewestFrom_holds : Rows.FnExactFewestFromSaid :=
  fnExactFewestFrom.over fun x hw => Go.Pv.lawFewestFrom x.1.1 x.1.2.1 x.1.2.2.1 x.2.1 x.2.2.1 hw.1.2.1.1 hw.1.2.2.1.1
#print axioms fnExactFewestFrom_holds
end Go.Proofs.Ytefplcegapcfkaa
