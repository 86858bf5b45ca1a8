/- The plain laws of FnExactIsKeyWalk and FnExactTakenOn. -/
import Derived.Test.YtdejcakkibabcaaPvSteps
import Derived.Test.YtdejcakkibabcaaPvMark
set_option linter.unusedVariables false
set_option linter.unusedSimpArgs false
set_option autoImplicit false
namespace Go.Pv
open Go Go.Fx Go.Pf

theorem or64 {a b : Int} (h1 : 0 ≤ a) (h2 : a ≤ 63) (h3 : 0 ≤ b) (h4 : b ≤ 63) : 0 ≤ bitOr .i64 a b ∧ bitOr .i64 a b ≤ 63 := by
  have p : (2 : Nat) ^ 6 = 64 := by decide
  have p63 : (2 : Nat) ^ 63 = 9223372036854775808 := by decide
  have e1 : a = ((a.toNat : Nat) : Int) := by omega
  have e2 : b = ((b.toNat : Nat) : Int) := by omega
  rw [e1, e2, bitOr_nat (by omega) (by omega)]
  have := Nat.or_lt_two_pow (x := a.toNat) (y := b.toNat) (n := 6) (by omega) (by omega)
  omega
end Go.Pv
