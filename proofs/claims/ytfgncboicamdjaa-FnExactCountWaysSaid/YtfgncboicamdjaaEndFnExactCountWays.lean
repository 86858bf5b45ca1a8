/- The law FnExactCountWays of the given program is true for all its inputs; no condition. -/
import Derived.Test.YtfgncboicamdjaaLawFnExactCountWays
import Derived.Test.YtfgncboicamdjaaPvLawsCnt
namespace Go.Proofs.Ytfgncboicamdjaa
theorem fnExactCountWays_holds : Rows.FnExactCountWaysSaid :=
  fnExactCountWays.over fun x hw => Go.Pv.lawCountWays x.1.1 x.1.2.1 x.1.2.2.1 hw.1.2.1.1 hw.1.2.2.1.1
#print axioms fnExactCountWays_holds
end Go.Proofs.Ytfgncboicamdjaa
