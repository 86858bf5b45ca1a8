/- The law FnExactParseInt of the given program is true for all its inputs, under the row's own condition that the listed package-level variables hold what the program lays there. -/
import Derived.Test.YteenokkklgnhhaaDoorLawFnExactParseInt
import Derived.Test.YteenokkklgnhhaaDoorPvParse
namespace Go.Proofs.YteenokkklgnhhaaDoor
theorem fnExactParseInt_holds : Rows.FnExactParseIntCardSaid :=
  fnExactParseInt.over fun x hw => Go.Pv.lawParseInt x.1
#print axioms fnExactParseInt_holds
end Go.Proofs.YteenokkklgnhhaaDoor
