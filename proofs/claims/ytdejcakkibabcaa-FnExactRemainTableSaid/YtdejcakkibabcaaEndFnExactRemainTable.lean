/- The law FnExactRemainTable of the given program is true for all its inputs; no condition. -/
import Derived.Test.YtdejcakkibabcaaLawFnExactRemainTable
import Derived.Test.YtdejcakkibabcaaPvLawRemT
namespace Go.Proofs.Ytdejcakkibabcaa
theorem fnExactRemainTable_holds : Rows.FnExactRemainTableSaid :=
  fnExactRemainTable.over fun x hw => Go.Pv.lawRemainTable x.1.1 x.1.2.1 x.1.2.2.1 hw.1.2.1.1 hw.1.2.2.1.1
#print axioms fnExactRemainTable_holds
end Go.Proofs.Ytdejcakkibabcaa
