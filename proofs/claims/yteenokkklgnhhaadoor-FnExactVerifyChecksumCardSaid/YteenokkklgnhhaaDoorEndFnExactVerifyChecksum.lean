/- The law FnExactVerifyChecksum of the given program is true for all its inputs, under the row's own condition that the listed package-level variables hold what the program lays there. -/
import Derived.Test.YteenokkklgnhhaaDoorLawFnExactVerifyChecksum
import Derived.Test.YteenokkklgnhhaaDoorPvStr
namespace Go.Proofs.YteenokkklgnhhaaDoor
theorem fnExactVerifyChecksum_holds : Rows.FnExactVerifyChecksumCardSaid :=
  fnExactVerifyChecksum.over fun x hw => Go.Pv.lawVerifyChecksum x.1
#print axioms fnExactVerifyChecksum_holds
end Go.Proofs.YteenokkklgnhhaaDoor
