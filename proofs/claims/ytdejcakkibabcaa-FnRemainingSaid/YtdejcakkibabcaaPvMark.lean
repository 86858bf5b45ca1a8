/- Plain laws: the marks that the laws lay into arguments and results. -/
import Derived.Test.YtdejcakkibabcaaPvBase
set_option linter.unusedVariables false
set_option linter.unusedSimpArgs false
set_option autoImplicit false
namespace Go.Pv
open Go Go.Fx Go.Pf

def markL : Int → Nat → List Int
  | _, 0 => []
  | a, k + 1 => a :: markL (a + 1) k
theorem markL_length : ∀ (a : Int) (k : Nat), (markL a k).length = k
  | _, 0 => rfl
  | a, k + 1 => by simp [markL, markL_length]
theorem set_take {α : Type} (xs : List α) (i : Nat) (v : α) (h : i < xs.length) : (xs.set i v).take (i + 1) = xs.take i ++ [v] := by
  have h2 : i < (xs.set i v).length := by simpa using h
  rw [List.take_succ_eq_append_getElem h2, List.take_set_of_le (Nat.le_refl i)]
  simp
/-! ### Rows of doors -/
def mark3L : Int → Nat → List (Int × Int × Int)
  | _, 0 => []
  | a, k + 1 => (a, a + 1, a + 2) :: mark3L (a + 3) k
theorem mark3L_length : ∀ (a : Int) (k : Nat), (mark3L a k).length = k
  | _, 0 => rfl
  | a, k + 1 => by simp [mark3L, mark3L_length]
theorem set_getD {α : Type} (xs : List α) (i : Nat) (v d : α) (h : i < xs.length) : (xs.set i v).getD i d = v := by
  simp [List.getD_eq_getElem?_getD, h]
/-! ### At the laws' own bounds -/
theorem beqB_self (b : Bool) : (!(b == b)) = false := by cases b <;> rfl
theorem neqI_self (a : Int) : (!decide (a = a)) = false := by simp
theorem ndec_neg {a : Int} (h : 0 ≤ a) : decide (a < 0) = false := by simpa using h
end Go.Pv
