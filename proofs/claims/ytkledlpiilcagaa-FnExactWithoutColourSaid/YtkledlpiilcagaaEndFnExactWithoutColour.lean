/- The law FnExactWithoutColour of the given program is true for all its inputs; no condition. -/
import Derived.Test.YtkledlpiilcagaaLawFnExactWithoutColour
import Derived.Test.YtkledlpiilcagaaPvLawsPut
namespace Go.Proofs.Ytkledlpiilcagaa
theorem fnExactWithoutColour_holds : Rows.FnExactWithoutColourSaid :=
  fnExactWithoutColour.over fun x hw => Go.Pv.lawWithoutColour x.1.1 x.1.2.1 x.1.2.2.1 x.2.1 hw.1.2.1.1 hw.1.2.2.1.1
#print axioms fnExactWithoutColour_holds
end Go.Proofs.Ytkledlpiilcagaa
