/- The reflective executor, part 22: a function's callees. -/
import Derived.Test.YtoppnaekfjjaaaaFw21
set_option autoImplicit false
namespace Go.Fx
open Go
def pick : List (Nat × PFn) → Nat → PFn
  | [], _ => noFn
  | (g, F) :: r, h => match Nat.beq h g with
    | true => F
    | false => pick r h
theorem pick_ok {P : Program} : ∀ {l : List (Nat × PFn)}, (∀ p ∈ l, p.2.Ok P p.1) → ∀ g, (pick l g).Ok P g
  | [], _, g => noFn_ok g
  | (k, F) :: r, h, g => by
    simp only [pick]
    split
    · rename_i hb
      have := Nat.eq_of_beq_eq_true hb
      subst this
      exact h (g, F) (by simp)
    · exact pick_ok (fun p hp => h p (by simp [hp])) g
end Go.Fx
