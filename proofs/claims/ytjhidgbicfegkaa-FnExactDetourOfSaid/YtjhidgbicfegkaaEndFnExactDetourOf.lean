/- The law FnExactDetourOf of the given program is true for all its inputs; no condition. -/
import Derived.Test.YtjhidgbicfegkaaLawFnExactDetourOf
import Derived.Test.YtjhidgbicfegkaaPvLawsL4
namespace Go.Proofs.Ytjhidgbicfegkaa
theorem fnExactDetourOf_holds : Rows.FnExactDetourOfSaid :=
  fnExactDetourOf.over fun x hw => Go.Pv.lawDetourOf x.1.1 x.1.2.1 x.1.2.2.1 hw.1.2.1.1 hw.1.2.2.1.1
#print axioms fnExactDetourOf_holds
end Go.Proofs.Ytjhidgbicfegkaa
