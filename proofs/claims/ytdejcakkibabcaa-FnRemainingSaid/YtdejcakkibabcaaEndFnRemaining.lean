/- The law FnRemaining of the given program is true for all its inputs; no condition. -/
import Derived.Test.YtdejcakkibabcaaLawFnRemaining
import Derived.Test.YtdejcakkibabcaaPvLawsRem
namespace Go.Proofs.Ytdejcakkibabcaa
theorem fnRemaining_holds : Rows.FnRemainingSaid :=
  fnRemaining.over fun x hw => Go.Pv.lawRemaining x.1 hw.1.2
#print axioms fnRemaining_holds
end Go.Proofs.Ytdejcakkibabcaa
