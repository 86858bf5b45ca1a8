/- The law FnExactFewestWith of the given program is true for all its inputs; no condition. -/
import Derived.Test.YtjhidgbicfegkaaLawFnExactFewestWith
import Derived.Test.YtjhidgbicfegkaaPvLawsL4
namespace Go.Proofs.Ytjhidgbicfegkaa
theorem fnExactFewestWith_holds : Rows.FnExactFewestWithSaid :=
  fnExactFewestWith.over fun x hw => Go.Pv.lawFewestWith x.1.1 x.1.2.1 x.1.2.2.1 x.2.1 hw.1.2.1.1 hw.1.2.2.1.1
#print axioms fnExactFewestWith_holds
end Go.Proofs.Ytjhidgbicfegkaa
