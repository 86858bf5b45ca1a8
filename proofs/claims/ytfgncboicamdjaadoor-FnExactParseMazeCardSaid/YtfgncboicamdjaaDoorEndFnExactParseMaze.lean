/- The law FnExactParseMaze of the given program is true for all its inputs, under the row's own condition that the listed package-level variables hold what the program lays there. -/
import Derived.Test.YtfgncboicamdjaaDoorLawFnExactParseMaze
import Derived.Test.YtfgncboicamdjaaDoorPvLawPMaze
namespace Go.Proofs.YtfgncboicamdjaaDoor
theorem fnExactParseMaze_holds : Rows.FnExactParseMazeCardSaid :=
  fnExactParseMaze.over fun x hw => Go.Pv.lawParseMaze x.1
#print axioms fnExactParseMaze_holds
end Go.Proofs.YtfgncboicamdjaaDoor
