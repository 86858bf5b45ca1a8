/- Plain laws: doors at a node, other keys, a colour less, mazes that are joined. -/
import Derived.Test.YtfgncboicamdjaaPvNode
import Derived.Test.YtfgncboicamdjaaPvHeld
set_option linter.unusedVariables false
set_option linter.unusedSimpArgs false
set_option autoImplicit false
namespace Go.Pv
open Go Go.Fx Go.Pf

section
variable {n : Nat} {N : Int} {ds : List (Int × Int × Int)} {ks : List Int}
theorem l2Own_eq (hd : ds.length ≤ 1048576) (hk : ks.length ≤ 1048576) : spec_l2Own.F n N ds ks = some (N, ds, ks) := by
  unfold spec_l2Own.F spec_l1Own.F
  rw [if_pos (by simp; omega), if_pos (by simp; omega)]
  rfl
theorem own_eq (hd : ds.length ≤ 1048576) (hk : ks.length ≤ 1048576) : impl_own.F n N ds ks = some (N, ds, ks) := by
  unfold impl_own.F slices_Clone_3_int_3_int.F slices_Clone_int_int.F
  rw [if_pos (by simp; omega), if_pos (by simp; omega)]
  rfl
open Classical in
theorem PutKeys_same (hn : 100 ≤ n) (hd : ds.length ≤ 1048576) (hk : ks.length ≤ 1048576) (x s : Int) : ∃ q : RM, (q.2.1.length ≤ 1048576 ∧ q.2.2.1.length ≤ 1048576) ∧ spec_PutKeys.F n N ds ks x s = some q ∧ impl_PutKeys.F n N ds ks x s = some q := by
  unfold spec_PutKeys.F impl_PutKeys.F impl_put.F
  rw [isNode_eq (by omega) (by simp; omega) (by simp), l2Node_eq (by omega), l2Own_eq hd hk, own_eq hd hk]
  simp only [Option.bind_some, List.all_cons, List.all_nil, Bool.and_true, l2Set_eq, isSet_eq]
  by_cases h : VM N ds ks
  · have hv : decide (VM N ds ks) = true := by simp [h]
    rw [hv, Bool.true_and]
    cases hx : inB x 0 (N - 1) with
    | false => exact ⟨(0, [], [], false), by simp, rfl, rfl⟩
    | true =>
      simp only [inB, Bool.and_eq_true, decide_eq_true_eq] at hx
      cases hs : setB s with
      | false => exact ⟨(0, [], [], false), by simp, rfl, rfl⟩
      | true =>
        have hkl := h.kl
        have c : 0 ≤ x ∧ x < (ks.length : Int) := ⟨hx.1, by omega⟩
        simp only [if_pos c]
        exact ⟨(N, ds, ks.set x.toNat s, true), by simp; omega, rfl, rfl⟩
  · have hv : decide (VM N ds ks) = false := by simp [h]
    rw [hv]
    exact ⟨(0, [], [], false), by simp, rfl, rfl⟩
end
end Go.Pv
