/- The reflective executor, part 27: small facts for the printed texts. -/
import Derived.Test.YtkledlpiilcagaaFw26
set_option linter.unusedVariables false
set_option autoImplicit false
namespace Go.Fx
open Go
theorem int1_loc (k : IntKind) (look look' : Nat → Option AO) (vs : List SV) (xs : denL [.one (.int k)]) (es' : List Ent) (h : extL look [.one (.int k)] vs [] = some (xs, es')) : extL look' [.one (.int k)] vs [] = some (xs, es') := by
  cases vs with
  | nil => exact h
  | cons v vs =>
    cases vs with
    | nil => cases v <;> exact h
    | cons v2 vs => cases v <;> exact h
theorem int1_ext (k : IntKind) (look : Nat → Option AO) (vs : List SV) (es : List Ent) (xs : denL [.one (.int k)]) (h : extL look [.one (.int k)] vs [] = some (xs, [])) : extL look [.one (.int k)] vs es = some (xs, es) := by
  cases vs with
  | nil => simp [extL] at h
  | cons v vs =>
    cases vs with
    | cons v2 vs =>
      simp only [extL] at h
      split at h <;> simp at h
    | nil =>
      cases v <;> simp only [extL, extK, extB] at h ⊢ <;> try (simp at h; done)
      rename_i k' n
      by_cases hk : k = k'
      · simp only [if_pos hk] at h ⊢
        simp only [Option.some.injEq, Prod.mk.injEq, and_true] at h ⊢
        exact h
      · simp [if_neg hk] at h
theorem nil_loc (look look' : Nat → Option AO) (vs : List SV) (xs : denL []) (es' : List Ent) (h : extL look [] vs [] = some (xs, es')) : extL look' [] vs [] = some (xs, es') := by
  cases vs with
  | nil => exact h
  | cons v vs => exact h
theorem nil_ext (look : Nat → Option AO) (vs : List SV) (es : List Ent) (xs : denL []) (h : extL look [] vs [] = some (xs, [])) : extL look [] vs es = some (xs, es) := by
  cases vs with
  | nil => rfl
  | cons v vs => simp [extL] at h
end Go.Fx
