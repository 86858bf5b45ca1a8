/- The law FnStrings of the given program is true for all its inputs, under the row's own condition that the listed package-level variables hold what the program lays there. -/
import Derived.Test.YtfgncboicamdjaaDoorLawFnStrings
import Derived.Test.YtfgncboicamdjaaDoorPvLawsStr2
namespace Go.Proofs.YtfgncboicamdjaaDoor
theorem fnStrings_holds : Rows.FnStringsCardSaid :=
  fnStrings.over fun x hw => Go.Pv.lawStrings x.1 hw.1.2
#print axioms fnStrings_holds
end Go.Proofs.YtfgncboicamdjaaDoor
