/- The law FnWithout of the given program is true for all its inputs; no condition. -/
import Derived.Test.YtoppnaekfjjaaaaLawFnWithout
import Derived.Test.YtoppnaekfjjaaaaPvLawsW
namespace Go.Proofs.Ytoppnaekfjjaaaa
theorem fnWithout_holds : Rows.FnWithoutSaid :=
  fnWithout.over fun x hw => Go.Pv.lawWithout x.1 hw.1.2
#print axioms fnWithout_holds
end Go.Proofs.Ytoppnaekfjjaaaa
