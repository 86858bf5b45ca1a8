/- The law FnExactConstants of the given program is true: its printed pure form returns true; no condition. -/
import Derived.Test.YteefopeihehoeaaPFnExactConstantsx1
namespace Go.Proofs.Yteefopeihehoeaa.Pure
open Go.RowKit Go.Proofs.Yteefopeihehoeaa.PFnExactConstants Go.Proofs.YteefopeihehoeaaW.PrintWords Go.Proofs.YteefopeihehoeaaW.PrintLast

/-- YOURS: laws_FnExactConstants.f  = some true
What it reaches (each with k first where it has rounds; `.mono`: more rounds tell the same; `.l0`, ..: its loops, with `.mono_l`): laws_FnExactConstants.f -/
theorem FnExactConstants : laws_FnExactConstants.Pure := by
  rfl

end Go.Proofs.Yteefopeihehoeaa.Pure
