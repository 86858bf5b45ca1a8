/- The law FnExactWayBack of the given program is true for all its inputs; no condition. -/
import Derived.Test.YtjhidgbicfegkaaLawFnExactWayBack
import Derived.Test.YtjhidgbicfegkaaPvLawsL4
namespace Go.Proofs.Ytjhidgbicfegkaa
theorem fnExactWayBack_holds : Rows.FnExactWayBackSaid :=
  fnExactWayBack.over fun x hw => Go.Pv.lawWayBack x.1.1 x.1.2.1 x.1.2.2.1 x.2.1 hw.1.2.1.1 hw.1.2.2.1.1 hw.2.1.1
#print axioms fnExactWayBack_holds
end Go.Proofs.Ytjhidgbicfegkaa
