/- The law FnWays of the given program is true for all its inputs; no condition. -/
import Derived.Test.YtfgncboicamdjaaLawFnWays
import Derived.Test.YtfgncboicamdjaaPvLawsWays
namespace Go.Proofs.Ytfgncboicamdjaa
theorem fnWays_holds : Rows.FnWaysSaid :=
  fnWays.over fun x hw => Go.Pv.lawWays x.1 hw.1.2
#print axioms fnWays_holds
end Go.Proofs.Ytfgncboicamdjaa
