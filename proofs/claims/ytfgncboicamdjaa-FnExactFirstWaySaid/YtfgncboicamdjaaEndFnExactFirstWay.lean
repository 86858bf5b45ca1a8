/- The law FnExactFirstWay of the given program is true for all its inputs; no condition. -/
import Derived.Test.YtfgncboicamdjaaLawFnExactFirstWay
import Derived.Test.YtfgncboicamdjaaPvLawsWay
namespace Go.Proofs.Ytfgncboicamdjaa
theorem fnExactFirstWay_holds : Rows.FnExactFirstWaySaid :=
  fnExactFirstWay.over fun x hw => Go.Pv.lawFirstWay x.1.1 x.1.2.1 x.1.2.2.1 hw.1.2.1.1 hw.1.2.2.1.1
#print axioms fnExactFirstWay_holds
end Go.Proofs.Ytfgncboicamdjaa
