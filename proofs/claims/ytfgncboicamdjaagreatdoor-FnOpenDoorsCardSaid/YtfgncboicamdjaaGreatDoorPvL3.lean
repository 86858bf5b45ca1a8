/- Plain laws: what both sides answer about reaching and rounds. -/
import Derived.Test.YtfgncboicamdjaaGreatDoorPvRounds
set_option linter.unusedVariables false
set_option linter.unusedSimpArgs false
set_option autoImplicit false
namespace Go.Pv
open Go Go.Fx Go.Pf

section
variable {n : Nat} {N : Int} {ds : List (Int × Int × Int)} {ks : List Int}
open Classical in
theorem ReachWith_same (hn : 100 ≤ n) (x s : Int) : ∃ q : List Int × Bool, q.1.length ≤ 1048576 ∧ spec_ReachWith.F n N ds ks x s = some q ∧ impl_ReachWith.F n N ds ks x s = some q := by
  unfold spec_ReachWith.F impl_ReachWith.F
  rw [isNode_eq (by omega) (by simp; omega) (by simp), l2Node_eq (by omega)]
  simp only [Option.bind_some, List.all_cons, List.all_nil, Bool.and_true, l2Set_eq, isSet_eq]
  by_cases h : VM N ds ks
  · have hv : decide (VM N ds ks) = true := by simp [h]
    rw [hv, Bool.true_and]
    cases hx : inB x 0 (N - 1) with
    | false => exact ⟨([], false), by simp, rfl, rfl⟩
    | true =>
      simp only [inB, Bool.and_eq_true, decide_eq_true_eq] at hx
      have hx' : 0 ≤ x ∧ x < N := by omega
      cases hs : setB s with
      | false => exact ⟨([], false), by simp, rfl, rfl⟩
      | true =>
        rw [reachS_eq (by omega) h hx', reach_eq (by omega) h hx', Option.bind_some, Option.bind_some, members_eq (by omega) (reachN_lt _ _ _), Option.bind_some]
        have := memL_length (reachN ds s x)
        exact ⟨(memL (reachN ds s x), true), by simp only; omega, rfl, rfl⟩
  · have hv : decide (VM N ds ks) = false := by simp [h]
    rw [hv]
    exact ⟨([], false), by simp, rfl, rfl⟩

/-! ### Rounds in which nodes are entered -/
def enterF (o : List Int) (l : List Int) (r : Int) : List Int := l.foldl (fun o x => if o.getD x.toNat 0 = 0 then o.set x.toNat (r + 1) else o) o
theorem enterF_length (r : Int) : ∀ (l o : List Int), (enterF o l r).length = o.length
  | [], o => rfl
  | x :: l, o => by
    show (enterF (if o.getD x.toNat 0 = 0 then o.set x.toNat (r + 1) else o) l r).length = _
    rw [enterF_length r l]
    split <;> simp
end
end Go.Pv
