/- The law FnExactFewestKeys of the given program is true for all its inputs; no condition. -/
import Derived.Test.YtjhidgbicfegkaaLawFnExactFewestKeys
import Derived.Test.YtjhidgbicfegkaaPvLawsL4
namespace Go.Proofs.Ytjhidgbicfegkaa
theorem fnExactFewestKeys_holds : Rows.FnExactFewestKeysSaid :=
  fnExactFewestKeys.over fun x hw => Go.Pv.lawFewestKeys x.1.1 x.1.2.1 x.1.2.2.1 hw.1.2.1.1 hw.1.2.2.1.1
#print axioms fnExactFewestKeys_holds
end Go.Proofs.Ytjhidgbicfegkaa
