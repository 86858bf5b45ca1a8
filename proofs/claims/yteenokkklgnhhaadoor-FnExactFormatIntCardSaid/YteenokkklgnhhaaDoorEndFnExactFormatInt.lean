/- The law FnExactFormatInt of the given program is true for all its inputs, under the row's own condition that the listed package-level variables hold what the program lays there. -/
import Derived.Test.YteenokkklgnhhaaDoorLawFnExactFormatInt
import Derived.Test.YteenokkklgnhhaaDoorPvStr
namespace Go.Proofs.YteenokkklgnhhaaDoor
theorem fnExactFormatInt_holds : Rows.FnExactFormatIntCardSaid :=
  fnExactFormatInt.over fun x hw => Go.Pv.lawFormatInt x.1
#print axioms fnExactFormatInt_holds
end Go.Proofs.YteenokkklgnhhaaDoor
