/- Plain laws: the tables of steps are the same. -/
import Derived.Test.YtfgncboicamdjaaGreatDoorPvDist
set_option linter.unusedVariables false
set_option linter.unusedSimpArgs false
set_option autoImplicit false
namespace Go.Pv
open Go Go.Fx Go.Pf
section
variable {n : Nat} {N : Int} {ds : List (Int × Int × Int)} {ks : List Int}

/-! ### Both tables at first -/
def fillG (m c : Nat) : List Int := List.replicate c (-1) ++ List.replicate (m - c) 0
theorem fillG_set {m c : Nat} (h : c < m) : (fillG m c).set c (-1) = fillG m (c + 1) := by
  unfold fillG
  rw [List.set_append_right _ _ (by simp)]
  simp only [List.length_replicate, Nat.sub_self]
  have e : m - c = (m - (c + 1)) + 1 := by omega
  rw [e, List.replicate_succ, List.set_cons_zero]
  have e2 : List.replicate (c + 1) (-1 : Int) = List.replicate c (-1) ++ [-1] := by
    rw [List.replicate_succ']
  rw [e2]
  simp
theorem fillG_length {m c : Nat} (h : c ≤ m) : (fillG m c).length = m := by unfold fillG; simp; omega
theorem cneg_rep (m : Nat) : cneg (List.replicate m (-1)) = m := by
  simp [cneg, List.countP_replicate]
end
end Go.Pv
