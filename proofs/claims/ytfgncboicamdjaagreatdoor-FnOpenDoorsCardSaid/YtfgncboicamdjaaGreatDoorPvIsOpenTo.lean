/- The plain law of FnExactIsOpenTo. -/
import Derived.Test.YtfgncboicamdjaaGreatDoorPvNode
set_option linter.unusedVariables false
set_option linter.unusedSimpArgs false
set_option autoImplicit false
namespace Go.Pv
open Go Go.Fx Go.Pf

open Classical in
theorem isOpenTo_same {n : Nat} (hn : 40 ≤ n) (N : Int) (ds : List (Int × Int × Int)) (ks : List Int) (x y s : Int) : ∃ r, spec_IsOpenTo.F n N ds ks x y s = some r ∧ impl_IsOpenTo.F n N ds ks x y s = some r := by
  unfold spec_IsOpenTo.F impl_IsOpenTo.F
  rw [isNode_eq hn (by simp; omega) (by simp)]
  simp only [l2Node_eq hn, Option.bind_some, l2Set_eq, isSet_eq, List.all_cons, List.all_nil, Bool.and_true]
  by_cases h : VM N ds ks
  · have hv : decide (VM N ds ks) = true := by simp [h]
    rw [hv, l2Open_eq (by have := h.dl; omega) (by have := h.dl; omega), steps_eq hn h]
    simp only [Bool.true_and, Option.bind_some]
    cases hx : inB x 0 (N - 1) with
    | false => exact ⟨(false, false), rfl, rfl⟩
    | true =>
      cases hy : inB y 0 (N - 1) with
      | false => exact ⟨(false, false), rfl, rfl⟩
      | true =>
        cases hs : setB s with
        | false => exact ⟨(false, false), rfl, rfl⟩
        | true =>
          simp only [inB, Bool.and_eq_true, decide_eq_true_eq] at hy
          refine ⟨(openB ds x y s, true), rfl, ?_⟩
          have := h.n2
          have hy0 : ¬ y < 0 := by omega
          simp only [Bool.and_self, Bool.not_true, Bool.false_eq_true, if_false, if_neg hy0, steps_bit1 h x s y hy.1 (by omega)]
  · have hv : decide (VM N ds ks) = false := by simp [h]
    rw [hv]
    exact ⟨(false, false), rfl, rfl⟩

end Go.Pv
