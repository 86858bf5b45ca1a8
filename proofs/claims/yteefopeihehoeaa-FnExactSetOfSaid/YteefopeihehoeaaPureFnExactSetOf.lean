/- The pure form of the law FnExactSetOf returns true for all rows of colours that a machine can hold. -/
import Derived.Test.YteefopeihehoeaaPFnExactSetOfx1
namespace Go.Proofs.Yteefopeihehoeaa.Pure
open Go.RowKit Go.Proofs.Yteefopeihehoeaa.PFnExactSetOf Go.Proofs.YteefopeihehoeaaW.PrintWords Go.Proofs.YteefopeihehoeaaW.PrintLast

theorem wrap_small (x : Int) (h0 : 0 ≤ x) (h1 : x ≤ 4611686018427387904) : wrap64 x = x := by
  unfold wrap64
  omega
/-- The copy loop puts the row's entries one by one. -/
theorem copy_loop (xs : List Int) (hx : (xs.length : Int) ≤ 1048576) : ∀ (k : Nat) (i : Nat) (ys : List Int), xs.length - i < k → ys.length = xs.length → (∀ j, j < i → ys.getD j 0 = xs.getD j 0) →
    laws_toIntS.l0 k xs ys i = some xs
  | 0, i, ys, h, _, _ => by omega
  | k + 1, i, ys, h, hl, hy => by
    unfold laws_toIntS.l0
    by_cases c : (i : Int) < (xs.length : Int)
    · rw [if_pos c, if_pos (by omega), if_pos (by omega), wrap_small _ (by omega) (by omega)]
      have e : ((i : Int) + 1) = ((i + 1 : Nat) : Int) := by omega
      rw [e]
      refine copy_loop xs hx k (i + 1) _ (by omega) (by simp [hl]) fun j hj => ?_
      have hi : i < xs.length := by omega
      by_cases q : j = i
      · subst q
        simp [rd, List.getD_eq_getElem?_getD, hl, hi]
      · have q2 : ¬ i = j := fun z => q z.symm
        have := hy j (by omega)
        simp only [List.getD_eq_getElem?_getD] at this ⊢
        simp [q2, this]
    · rw [if_neg c]
      congr 1
      apply List.ext_getElem hl
      intro j h1 h2
      have := hy j (by omega)
      simpa [List.getD_eq_getElem?_getD, h1, h2] using this
theorem copied_at (k : Nat) (l0 : List Int) (hx : (l0.length : Int) ≤ 1048576) (hk : l0.length < k) : laws_toIntS.f k l0 = some l0 := by
  unfold laws_toIntS.f
  rw [if_pos (by omega), if_pos (by omega)]
  exact copy_loop l0 hx _ 0 _ (by omega) (by simp) (fun j hj => by omega)
theorem copied (l0 : List Int) (hx : (l0.length : Int) ≤ 1048576) : laws_toIntS.f (l0.length + 2) l0 = some l0 := copied_at _ l0 hx (by omega)
theorem copied1 (l0 : List Int) (hx : (l0.length : Int) ≤ 1048576) : laws_toIntS.f (l0.length + 1) l0 = some l0 := copied_at _ l0 hx (by omega)
theorem same_loop (xs : List Int) (hx : (xs.length : Int) ≤ 1048576) : ∀ (k : Nat) (i : Int), 0 ≤ i ∧ i ≤ xs.length ∧ (xs.length : Int) - i + 1 ≤ k → laws_eqIntS.l0 k xs xs i = some true
  | 0, i, h => by omega
  | k + 1, i, ⟨h0, h1, h2⟩ => by
    unfold laws_eqIntS.l0
    by_cases c : i < (xs.length : Int)
    · rw [if_pos c, if_pos h0, if_pos c, if_pos rfl, wrap_small _ (by omega) (by omega)]
      exact same_loop xs hx k (i + 1) ⟨by omega, by omega, by omega⟩
    · rw [if_neg c]
theorem same (l0 : List Int) (hx : (l0.length : Int) ≤ 1048576) : laws_eqIntS.f (l0.length + 1) l0 l0 = some true := by
  unfold laws_eqIntS.f
  rw [if_pos rfl]
  exact same_loop l0 hx _ 0 ⟨by omega, by omega, by omega⟩
/-- Both sets, from the same place with the same colours so far, tell the same. -/
theorem sets (xs : List Int) (hx : (xs.length : Int) ≤ 1048576) : ∀ (k : Nat) (i : Int), 0 ≤ i ∧ i ≤ xs.length ∧ (xs.length : Int) - i + 1 ≤ k → ∀ v : Int,
    ∃ r, spec_SetOf.l0 k xs v i = some r ∧ impl_SetOf.l0 k v xs xs.length i = some r
  | 0, i, h, v => by omega
  | k + 1, i, ⟨h0, h1, h2⟩, v => by
    unfold spec_SetOf.l0 impl_SetOf.l0
    by_cases c : i < (xs.length : Int)
    · rw [if_pos c, if_pos c, if_pos h0, if_pos h0, if_pos c]
      unfold spec_l1In.f impl_within.f
      by_cases d : 0 ≤ rd xs i
      · rw [if_pos d, if_pos d, Option.bind_some, Option.bind_some]
        by_cases e : rd xs i ≤ 5
        · rw [if_pos (by simpa using e), if_pos (by simpa using e), if_pos d, wrap_small (i + 1) (by omega) (by omega)]
          exact sets xs hx k (i + 1) ⟨by omega, by omega, by omega⟩ _
        · rw [if_neg (by simpa using e), if_neg (by simpa using e)]
          exact ⟨_, rfl, rfl⟩
      · rw [if_neg d, if_neg d, Option.bind_some, Option.bind_some, if_neg (by simp), if_neg (by simp)]
        exact ⟨_, rfl, rfl⟩
    · rw [if_neg c, if_neg c]
      exact ⟨_, rfl, rfl⟩
/-- YOURS: ∀ (l0 : List Int), l0.length ≤ maxLen → l0.length * 8 ≤ 140737488351232 → (∀ x ∈ l0, (Lit.int .i64 x).wf = true) → ∃ k, laws_FnExactSetOf.f k l0 = some true
What it reaches (each with k first where it has rounds; `.mono`: more rounds tell the same; `.l0`, ..: its loops, with `.mono_l`): spec_l1In.f, spec_SetOf.f, laws_toIntS.f, impl_within.f, impl_SetOf.f, laws_eqIntS.f, laws_FnExactSetOf.f -/
theorem FnExactSetOf : laws_FnExactSetOf.Pure := by
  intro l0 _ _ _
  refine ⟨l0.length + 2, ?_⟩
  unfold laws_FnExactSetOf.f
  split
  · rfl
  · rename_i h
    have hl : (l0.length : Int) ≤ 1048576 := by omega
    rw [copied l0 hl, Option.bind_some]
    obtain ⟨r, hs, hi⟩ := sets l0 hl (l0.length + 2) 0 (by omega) 0
    have hs' : spec_SetOf.f (l0.length + 2) l0 = some r := hs
    have hi' : impl_SetOf.f (l0.length + 2) l0 = some r := hi
    rw [hs', Option.bind_some, Option.bind_some, hi', Option.bind_some, if_pos rfl, bne_self_eq_false]
    simp only [laws_FnExactSetOf.j0]
    rw [if_neg (by simp), copied1 l0 hl, Option.bind_some, same l0 hl, Option.bind_some, if_pos rfl]

end Go.Proofs.Yteefopeihehoeaa.Pure
