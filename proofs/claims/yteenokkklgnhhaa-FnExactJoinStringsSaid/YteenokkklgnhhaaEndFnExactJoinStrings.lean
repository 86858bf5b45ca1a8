/- The law FnExactJoinStrings of the given program is true for all its inputs; no condition. -/
import Derived.Test.YteenokkklgnhhaaLawFnExactJoinStrings
import Derived.Test.YteenokkklgnhhaaPvJoin
namespace Go.Proofs.Yteenokkklgnhhaa
theorem fnExactJoinStrings_holds : Rows.FnExactJoinStringsSaid :=
  fnExactJoinStrings.over fun x hw => Go.Pv.lawJoinStrings x.1 x.2.1 hw.1.1 hw.1.2
#print axioms fnExactJoinStrings_holds
end Go.Proofs.Yteenokkklgnhhaa
