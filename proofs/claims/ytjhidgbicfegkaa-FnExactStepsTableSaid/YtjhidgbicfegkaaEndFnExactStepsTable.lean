/- The law FnExactStepsTable of the given program is true for all its inputs; no condition. -/
import Derived.Test.YtjhidgbicfegkaaLawFnExactStepsTable
import Derived.Test.YtjhidgbicfegkaaPvLawsL4
namespace Go.Proofs.Ytjhidgbicfegkaa
theorem fnExactStepsTable_holds : Rows.FnExactStepsTableSaid :=
  fnExactStepsTable.over fun x hw => Go.Pv.lawStepsTable x.1.1 x.1.2.1 x.1.2.2.1 hw.1.2.1.1 hw.1.2.2.1.1
#print axioms fnExactStepsTable_holds
end Go.Proofs.Ytjhidgbicfegkaa
