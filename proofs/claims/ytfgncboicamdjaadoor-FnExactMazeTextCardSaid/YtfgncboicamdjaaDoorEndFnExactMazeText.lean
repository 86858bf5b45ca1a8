/- The law FnExactMazeText of the given program is true for all its inputs, under the row's own condition that the listed package-level variables hold what the program lays there. -/
import Derived.Test.YtfgncboicamdjaaDoorLawFnExactMazeText
import Derived.Test.YtfgncboicamdjaaDoorPvLawMText
namespace Go.Proofs.YtfgncboicamdjaaDoor
theorem fnExactMazeText_holds : Rows.FnExactMazeTextCardSaid :=
  fnExactMazeText.over fun x hw => Go.Pv.lawMazeText x.1.1 x.1.2.1 x.1.2.2.1 hw.1.2.1.1 hw.1.2.2.1.1
#print axioms fnExactMazeText_holds
end Go.Proofs.YtfgncboicamdjaaDoor
