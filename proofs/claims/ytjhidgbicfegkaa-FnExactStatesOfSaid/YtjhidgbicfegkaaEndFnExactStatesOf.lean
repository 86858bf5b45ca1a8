/- The law FnExactStatesOf of the given program is true for all its inputs; no condition. -/
import Derived.Test.YtjhidgbicfegkaaLawFnExactStatesOf
import Derived.Test.YtjhidgbicfegkaaPvLawsL4
namespace Go.Proofs.Ytjhidgbicfegkaa
theorem fnExactStatesOf_holds : Rows.FnExactStatesOfSaid :=
  fnExactStatesOf.over fun x hw => Go.Pv.lawStatesOf x.1.1 x.1.2.1 x.1.2.2.1 hw.1.2.1.1 hw.1.2.2.1.1
#print axioms fnExactStatesOf_holds
end Go.Proofs.Ytjhidgbicfegkaa
