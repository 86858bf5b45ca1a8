/- The law FnMazeForms of the given program is true for all its inputs; no condition. -/
import Derived.Test.YtfgncboicamdjaaLawFnMazeForms
import Derived.Test.YtfgncboicamdjaaPvLawsForms
namespace Go.Proofs.Ytfgncboicamdjaa
theorem fnMazeForms_holds : Rows.FnMazeFormsSaid :=
  fnMazeForms.over fun x hw => Go.Pv.lawMazeForms x.1 hw.1.2
#print axioms fnMazeForms_holds
end Go.Proofs.Ytfgncboicamdjaa
