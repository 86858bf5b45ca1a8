/- The law FnExactSplitString of the given program is true for all its inputs, under the row's own condition that the listed package-level variables hold what the program lays there. -/
import Derived.Test.YteenokkklgnhhaaDoorLawFnExactSplitString
import Derived.Test.YteenokkklgnhhaaDoorPvSplit
namespace Go.Proofs.YteenokkklgnhhaaDoor
theorem fnExactSplitString_holds : Rows.FnExactSplitStringCardSaid :=
  fnExactSplitString.over fun x hw => Go.Pv.lawSplitString x.1 x.2.1
#print axioms fnExactSplitString_holds
end Go.Proofs.YteenokkklgnhhaaDoor
