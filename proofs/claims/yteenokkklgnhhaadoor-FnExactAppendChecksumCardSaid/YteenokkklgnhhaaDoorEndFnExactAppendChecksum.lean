/- The law FnExactAppendChecksum of the given program is true for all its inputs, under the row's own condition that the listed package-level variables hold what the program lays there. -/
import Derived.Test.YteenokkklgnhhaaDoorLawFnExactAppendChecksum
import Derived.Test.YteenokkklgnhhaaDoorPvStr
namespace Go.Proofs.YteenokkklgnhhaaDoor
theorem fnExactAppendChecksum_holds : Rows.FnExactAppendChecksumCardSaid :=
  fnExactAppendChecksum.over fun x hw => Go.Pv.lawAppendChecksum x.1
#print axioms fnExactAppendChecksum_holds
end Go.Proofs.YteenokkklgnhhaaDoor
