/- Plain laws: the first shortest way, as the reference and the program walk it. -/
import Derived.Test.YtdejcakkibabcaaPvWayT
set_option linter.unusedVariables false
set_option linter.unusedSimpArgs false
set_option autoImplicit false
namespace Go.Pv
open Go Go.Fx Go.Pf

section
variable {n : Nat} {N : Int} {ds : List (Int × Int × Int)} {ks : List Int}
theorem memL_big (S : Nat) : (memL S).length ≤ 12 := memL_length S
/-- A walk on from a state to the goal. -/
def KW (N : Int) (ds : List (Int × Int × Int)) (ks : List Int) : Int → Nat → List Int → Prop
  | x, _, [] => x = N - 1
  | x, s, z :: w => z ∈ memL (stepsN ds x (s : Int)) ∧ KW N ds ks z (setK ks s z) w
/-- What the first way is. -/
def WayQ (N : Int) (ds : List (Int × Int × Int)) (ks : List Int) (q : List Int × Bool) : Prop :=
  ∃ s : Nat, ks.getD 0 0 = (s : Int) ∧ s < 64 ∧ ∃ v : Int, IsRem N ds ks 0 s v ∧ ((v < 0 ∧ q = ([], false)) ∨ (0 ≤ v ∧ v ≤ 768 ∧ q.2 = true ∧ ∃ w, q.1 = 0 :: w ∧ (w.length : Int) = v ∧ KW N ds ks 0 s w))
end
end Go.Pv
