/- The law FnSplitJoin of the given program is true for all its inputs, under the row's own condition that the listed package-level variables hold what the program lays there. -/
import Derived.Test.YteenokkklgnhhaaDoorLawFnSplitJoin
import Derived.Test.YteenokkklgnhhaaDoorPvSplit
namespace Go.Proofs.YteenokkklgnhhaaDoor
theorem fnSplitJoin_holds : Rows.FnSplitJoinCardSaid :=
  fnSplitJoin.over fun x hw => Go.Pv.lawSplitJoin x.1 hw.1.2
#print axioms fnSplitJoin_holds
end Go.Proofs.YteenokkklgnhhaaDoor
