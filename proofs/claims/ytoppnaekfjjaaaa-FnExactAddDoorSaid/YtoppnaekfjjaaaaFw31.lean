/- The reflective executor, part 31: the order of rows of three numbers. -/
import Derived.Test.YtoppnaekfjjaaaaFw30
set_option linter.unusedVariables false
set_option linter.unusedSimpArgs false
set_option autoImplicit false
namespace Go.Fx
open Go

theorem cmpZ_cases (x y : Int) : (x < y ∧ cmpZ x y = -1) ∨ (x = y ∧ cmpZ x y = 0) ∨ (y < x ∧ cmpZ x y = 1) := by
  unfold cmpZ
  by_cases h1 : x < y
  · exact .inl ⟨h1, by rw [if_pos h1]⟩
  · by_cases h2 : x > y
    · exact .inr (.inr ⟨h2, by rw [if_neg h1, if_pos h2]⟩)
    · exact .inr (.inl ⟨by omega, by rw [if_neg h1, if_neg h2]⟩)
theorem ltD (p q : Int × Int × Int) : Go.Proofs.ltOf cfD p q = decide (p.1 < q.1 ∨ (p.1 = q.1 ∧ (p.2.1 < q.2.1 ∨ (p.2.1 = q.2.1 ∧ p.2.2 < q.2.2)))) := by
  unfold Go.Proofs.ltOf cfD
  rw [decide_eq_decide]
  rcases cmpZ_cases p.1 q.1 with ⟨h1, e1⟩ | ⟨h1, e1⟩ | ⟨h1, e1⟩
  · rw [e1, if_pos (by decide)]; omega
  · rw [e1, if_neg (by decide)]
    rcases cmpZ_cases p.2.1 q.2.1 with ⟨h2, e2⟩ | ⟨h2, e2⟩ | ⟨h2, e2⟩
    · rw [e2, if_pos (by decide)]; omega
    · rw [e2, if_neg (by decide)]
      rcases cmpZ_cases p.2.2 q.2.2 with ⟨h3, e3⟩ | ⟨h3, e3⟩ | ⟨h3, e3⟩ <;> rw [e3] <;> omega
    · rw [e2, if_pos (by decide)]; omega
  · rw [e1, if_pos (by decide)]; omega
theorem swoD : Sort.SWO (Go.Proofs.ltOf cfD) where
  irrefl x := by rw [ltD]; simp
  trans x y z h1 h2 := by
    rw [ltD, decide_eq_true_eq] at *
    omega
  ntrans x y z h1 h2 := by
    rw [ltD, decide_eq_false_iff_not] at *
    omega
theorem triD (x y : Int × Int × Int) (h1 : Go.Proofs.ltOf cfD x y = false) (h2 : Go.Proofs.ltOf cfD y x = false) : x = y := by
  rw [ltD, decide_eq_false_iff_not] at *
  obtain ⟨a, b, c⟩ := x
  obtain ⟨a', b', c'⟩ := y
  simp only [Prod.mk.injEq] at *
  omega
end Go.Fx
