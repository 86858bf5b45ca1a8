/- The pure form of the law FnExactColoursOf returns true for every word of colours. -/
import Derived.Test.YteefopeihehoeaaPFnExactColoursOfx2
namespace Go.Proofs.Yteefopeihehoeaa.Pure
open Go.RowKit Go.Proofs.Yteefopeihehoeaa.PFnExactColoursOf Go.Proofs.YteefopeihehoeaaW.PrintWords Go.Proofs.YteefopeihehoeaaW.PrintLast

theorem few : ∀ n : Nat, n < 64 → laws_FnExactColoursOf.f 20 (n : Int) = some true := by
  decide +kernel
/-- YOURS: ∀ (a0 : Int), (Lit.int .i64 a0).wf = true → ∃ k, laws_FnExactColoursOf.f k a0 = some true
What it reaches (each with k first where it has rounds; `.mono`: more rounds tell the same; `.l0`, ..: its loops, with `.mono_l`): laws_eqIntS.f, spec_l1In.f, spec_l2Set.f, spec_l2Colours.f, spec_ColoursOf.f, impl_within.f, impl_isSet.f, impl_members.f, impl_ColoursOf.f, laws_markIntS.f, laws_heldIntS.f, laws_FnExactColoursOf.f -/
theorem FnExactColoursOf : laws_FnExactColoursOf.Pure := by
  intro a0 _
  refine ⟨20, ?_⟩
  by_cases h : 0 ≤ a0 ∧ a0 ≤ 63
  · obtain ⟨n, rfl⟩ : ∃ n : Nat, a0 = n := ⟨a0.toNat, by omega⟩
    exact few n (by omega)
  · have hs : spec_l2Set.f a0 = some false := by
      unfold spec_l2Set.f spec_l1In.f
      by_cases c : a0 ≥ 0
      · rw [if_pos c, Option.bind_some, decide_eq_false (by omega)]
      · rw [if_neg c, Option.bind_some]
    have hi : impl_isSet.f a0 = some false := by
      unfold impl_isSet.f impl_within.f
      by_cases c : 0 ≤ a0
      · rw [if_pos c, Option.bind_some, decide_eq_false (by omega)]
      · rw [if_neg c, Option.bind_some]
    have hS : ∀ k, spec_ColoursOf.f k a0 = some ([], false) := fun k => by unfold spec_ColoursOf.f; rw [hs]; rfl
    have hI : ∀ k, impl_ColoursOf.f k a0 = some ([], false) := fun k => by unfold impl_ColoursOf.f; rw [hi]; rfl
    have e0 : laws_eqIntS.f 20 ([] : List Int) [] = some true := by decide
    have e1 : laws_eqIntS.f 19 ([] : List Int) [] = some true := by decide
    have e2 : laws_markIntS.f 19 ([] : List Int) 1 = some (1, []) := by decide
    have e3 : laws_heldIntS.f 19 ([] : List Int) 1 = some 1 := by decide
    have e4 : laws_heldIntS.f 18 ([] : List Int) 1 = some 1 := by decide
    unfold laws_FnExactColoursOf.f
    rw [hS, Option.bind_some, hI, Option.bind_some, e0, Option.bind_some, if_pos rfl]
    simp [laws_FnExactColoursOf.j0, laws_FnExactColoursOf.j1, e1, e2, e3, e4, hI]

end Go.Proofs.Yteefopeihehoeaa.Pure
