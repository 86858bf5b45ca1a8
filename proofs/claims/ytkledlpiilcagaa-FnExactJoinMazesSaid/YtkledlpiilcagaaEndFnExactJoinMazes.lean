/- The law FnExactJoinMazes of the given program is true for all its inputs; no condition. -/
import Derived.Test.YtkledlpiilcagaaLawFnExactJoinMazes
import Derived.Test.YtkledlpiilcagaaPvLawsWithout
namespace Go.Proofs.Ytkledlpiilcagaa
theorem fnExactJoinMazes_holds : Rows.FnExactJoinMazesSaid :=
  fnExactJoinMazes.over fun x hw => Go.Pv.lawJoinMazes x.1.1 x.1.2.1 x.1.2.2.1 x.2.1.1 x.2.1.2.1 x.2.1.2.2.1 hw.1.2.1.1 hw.1.2.2.1.1 hw.2.1.2.1.1 hw.2.1.2.2.1.1
#print axioms fnExactJoinMazes_holds
end Go.Proofs.Ytkledlpiilcagaa
