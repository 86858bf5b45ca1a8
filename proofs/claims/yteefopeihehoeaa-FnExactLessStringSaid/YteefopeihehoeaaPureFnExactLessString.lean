/- The pure form of the law FnExactLessString returns true for all two byte strings. -/
import Derived.Test.YteefopeihehoeaaPFnExactLessStringx1
namespace Go.Proofs.Yteefopeihehoeaa.Pure
open Go.RowKit Go.Proofs.Yteefopeihehoeaa.PFnExactLessString Go.Proofs.YteefopeihehoeaaW.PrintWords Go.Proofs.YteefopeihehoeaaW.PrintLast

/-- YOURS: ∀ (a0 : ByteArray) (a1 : ByteArray), a0.size ≤ 140737488351232 → a1.size ≤ 140737488351232 → laws_FnExactLessString.f a0 a1 = some true
What it reaches (each with k first where it has rounds; `.mono`: more rounds tell the same; `.l0`, ..: its loops, with `.mono_l`): spec_LessString.f, impl_LessString.f, laws_FnExactLessString.f -/
theorem FnExactLessString : laws_FnExactLessString.Pure := by
  intro a0 a1 _ _
  simp [laws_FnExactLessString.f, spec_LessString.f, impl_LessString.f]

end Go.Proofs.Yteefopeihehoeaa.Pure
