/- The law FnExactMirrorMaze of the given program is true for all its inputs; no condition. -/
import Derived.Test.YtoppnaekfjjaaaaLawFnExactMirrorMaze
import Derived.Test.YtoppnaekfjjaaaaPvLawsF
namespace Go.Proofs.Ytoppnaekfjjaaaa
theorem fnExactMirrorMaze_holds : Rows.FnExactMirrorMazeSaid :=
  fnExactMirrorMaze.over fun x hw => Go.Pv.lawMirrorMaze x.1.1 x.1.2.1 x.1.2.2.1 hw.1.2.1.1 hw.1.2.2.1.1
#print axioms fnExactMirrorMaze_holds
end Go.Proofs.Ytoppnaekfjjaaaa
