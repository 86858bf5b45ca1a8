/- The law FnExactNumberMaze of the given program is true for all its inputs; no condition. -/
import Derived.Test.YtoppnaekfjjaaaaLawFnExactNumberMaze
import Derived.Test.YtoppnaekfjjaaaaPvLawsF
namespace Go.Proofs.Ytoppnaekfjjaaaa
theorem fnExactNumberMaze_holds : Rows.FnExactNumberMazeSaid :=
  fnExactNumberMaze.over fun x hw => Go.Pv.lawNumberMaze x.1.1 x.1.2.1 x.1.2.2.1 x.2.1 hw.1.2.1.1 hw.1.2.2.1.1 hw.2.1.1
#print axioms fnExactNumberMaze_holds
end Go.Proofs.Ytoppnaekfjjaaaa
