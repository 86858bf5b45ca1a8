/- The law FnKeyWalks of the given program is true for all its inputs; no condition. -/
import Derived.Test.YtoppnaekfjjaaaaGreatLawFnKeyWalks
import Derived.Test.YtoppnaekfjjaaaaGreatPvLawsWalks
namespace Go.Proofs.YtoppnaekfjjaaaaGreat
theorem fnKeyWalks_holds : Rows.FnKeyWalksSaid :=
  fnKeyWalks.over fun x hw => Go.Pv.lawKeyWalks x.1 hw.1.2
#print axioms fnKeyWalks_holds
end Go.Proofs.YtoppnaekfjjaaaaGreat
