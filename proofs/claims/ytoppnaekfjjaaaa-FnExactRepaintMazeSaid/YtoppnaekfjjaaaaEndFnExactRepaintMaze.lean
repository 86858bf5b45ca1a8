/- The law FnExactRepaintMaze of the given program is true for all its inputs; no condition. -/
import Derived.Test.YtoppnaekfjjaaaaLawFnExactRepaintMaze
import Derived.Test.YtoppnaekfjjaaaaPvLawsF
namespace Go.Proofs.Ytoppnaekfjjaaaa
theorem fnExactRepaintMaze_holds : Rows.FnExactRepaintMazeSaid :=
  fnExactRepaintMaze.over fun x hw => Go.Pv.lawRepaintMaze x.1.1 x.1.2.1 x.1.2.2.1 x.2.1 hw.1.2.1.1 hw.1.2.2.1.1 hw.2.1.1
#print axioms fnExactRepaintMaze_holds
end Go.Proofs.Ytoppnaekfjjaaaa
