/- Plain laws about the pure functions that stand for the given Go functions: copies, comparisons, sizes of mazes. -/
import Derived.Test.YtdejcakkibabcaaPure
set_option linter.unusedVariables false
set_option linter.unusedSimpArgs false
set_option autoImplicit false
namespace Go.Pv
open Go Go.Fx Go.Pf

abbrev RM := Int × List (Int × Int × Int) × List Int × Bool
theorem w64 {x : Int} (h1 : -9223372036854775808 ≤ x) (h2 : x < 9223372036854775808) : IntKind.wrap .i64 x = x := by
  rw [IntKind.wrap_i64]
  omega
theorem w64s {x : Int} (h1 : 0 ≤ x) (h2 : x ≤ 4611686018427387904) : IntKind.wrap .i64 x = x := w64 (by omega) (by omega)
theorem i64_range {x : Int} (h : (Lit.int .i64 x).wf = true) : -9223372036854775808 ≤ x ∧ x < 9223372036854775808 := by
  simp only [Lit.wf, Bool.and_eq_true, decide_eq_true_eq] at h
  have h1 : IntKind.min .i64 = -9223372036854775808 := by decide
  have h2 : IntKind.max .i64 = 9223372036854775807 := by decide
  omega

theorem toIntS_l0 {n : Nat} {K : List Int → Option (List Int)} {xs : List Int} (hx : xs.length ≤ 4398046511104) : ∀ (j i : Nat) (ys : List Int), xs.length - i < j → ys.length = xs.length → (∀ m, m < i → ys.getD m 0 = xs.getD m 0) →
    laws_toIntS.l0 n K j xs ys i = K xs
  | 0, i, ys, h, _, _ => by omega
  | j + 1, i, ys, h, hl, hy => by
    unfold laws_toIntS.l0
    by_cases c : (i : Int) < (xs.length : Int)
    · rw [if_pos (by simpa using c), if_pos ⟨by omega, c⟩, if_pos ⟨by omega, by omega⟩, w64s (by omega) (by omega)]
      have e : ((i : Int) + 1) = ((i + 1 : Nat) : Int) := by omega
      rw [e]
      refine toIntS_l0 hx j (i + 1) _ (by omega) (by simp [hl]) fun m hm => ?_
      have hi : i < xs.length := by omega
      by_cases q : m = i
      · subst q
        simp [List.getD_eq_getElem?_getD, hl, hi]
      · have q2 : ¬ i = m := fun z => q z.symm
        have := hy m (by omega)
        simp only [List.getD_eq_getElem?_getD] at this ⊢
        simp [q2, this]
    · rw [if_neg (by simpa using c)]
      congr 1
      apply List.ext_getElem hl
      intro m h1 h2
      have := hy m (by omega)
      simpa [List.getD_eq_getElem?_getD, h1, h2] using this
theorem toIntS_eq {n : Nat} {xs : List Int} (hx : xs.length ≤ 4398046511104) (hn : xs.length < n) : laws_toIntS.F n xs = some xs := by
  unfold laws_toIntS.F
  rw [if_pos ⟨by omega, by omega, by omega⟩]
  exact toIntS_l0 hx n 0 _ (by omega) (by simp) (fun m hm => by omega)

theorem toIntA3S_l0 {n : Nat} {K : List (Int × Int × Int) → Option (List (Int × Int × Int))} {xs : List (Int × Int × Int)} (hx : xs.length ≤ 4398046511104) : ∀ (j i : Nat) (ys : List (Int × Int × Int)), xs.length - i < j → ys.length = xs.length → (∀ m, m < i → ys.getD m (0, 0, 0) = xs.getD m (0, 0, 0)) →
    laws_toIntA3S.l0 n K j xs ys i = K xs
  | 0, i, ys, h, _, _ => by omega
  | j + 1, i, ys, h, hl, hy => by
    unfold laws_toIntA3S.l0
    by_cases c : (i : Int) < (xs.length : Int)
    · rw [if_pos (by simpa using c), if_pos ⟨by omega, c⟩]
      simp only [laws_toIntA3.F, Option.bind_some]
      rw [if_pos ⟨by omega, by omega⟩, w64s (by omega) (by omega)]
      have e : ((i : Int) + 1) = ((i + 1 : Nat) : Int) := by omega
      rw [e]
      refine toIntA3S_l0 hx j (i + 1) _ (by omega) (by simp [hl]) fun m hm => ?_
      have hi : i < xs.length := by omega
      by_cases q : m = i
      · subst q
        simp [List.getD_eq_getElem?_getD, hl, hi]
      · have q2 : ¬ i = m := fun z => q z.symm
        have := hy m (by omega)
        simp only [List.getD_eq_getElem?_getD] at this ⊢
        simp [q2, this]
    · rw [if_neg (by simpa using c)]
      congr 1
      apply List.ext_getElem hl
      intro m h1 h2
      have := hy m (by omega)
      simpa [List.getD_eq_getElem?_getD, h1, h2] using this
theorem toIntA3S_eq {n : Nat} {xs : List (Int × Int × Int)} (hx : xs.length ≤ 4398046511104) (hn : xs.length < n) : laws_toIntA3S.F n xs = some xs := by
  unfold laws_toIntA3S.F
  rw [if_pos ⟨by omega, by omega, by omega⟩]
  exact toIntA3S_l0 hx n 0 _ (by omega) (by simp) (fun m hm => by omega)

theorem toMaze_eq {n : Nat} {a : Int} {xs : List (Int × Int × Int)} {ys : List Int} (hx : xs.length ≤ 4398046511104) (hy : ys.length ≤ 4398046511104) (hn : xs.length < n) (hm : ys.length < n) :
    laws_toMaze.F n a xs ys = some (a, xs, ys) := by
  simp [laws_toMaze.F, toIntA3S_eq hx hn, toIntS_eq hy hm]

theorem eqIntS_l0 {n : Nat} {K : Unit → Option Bool} {xs : List Int} (hx : xs.length ≤ 4398046511104) : ∀ (j i : Nat), xs.length - i < j → laws_eqIntS.l0 n K j xs xs i = K ()
  | 0, i, h => by omega
  | j + 1, i, h => by
    unfold laws_eqIntS.l0
    by_cases c : (i : Int) < (xs.length : Int)
    · rw [if_pos (by simpa using c), if_pos ⟨by omega, c⟩, if_pos ⟨by omega, c⟩, if_neg (by simp), w64s (by omega) (by omega)]
      have e : ((i : Int) + 1) = ((i + 1 : Nat) : Int) := by omega
      rw [e]
      exact eqIntS_l0 hx j (i + 1) (by omega)
    · rw [if_neg (by simpa using c)]
theorem eqIntS_self {n : Nat} {xs : List Int} (hx : xs.length ≤ 4398046511104) (hn : xs.length < n) : laws_eqIntS.F n xs xs = some true := by
  unfold laws_eqIntS.F
  rw [if_neg (by simp)]
  exact eqIntS_l0 hx n 0 (by omega)
theorem eqIntA3S_l0 {n : Nat} {K : Unit → Option Bool} {xs : List (Int × Int × Int)} (hx : xs.length ≤ 4398046511104) : ∀ (j i : Nat), xs.length - i < j → laws_eqIntA3S.l0 n K j xs xs i = K ()
  | 0, i, h => by omega
  | j + 1, i, h => by
    unfold laws_eqIntA3S.l0
    by_cases c : (i : Int) < (xs.length : Int)
    · rw [if_pos (by simpa using c), if_pos ⟨by omega, c⟩, if_pos ⟨by omega, c⟩]
      simp only [laws_eqIntA3.F, decide_true, Bool.not_true, Bool.false_eq_true, if_false, Option.bind_some]
      rw [w64s (by omega) (by omega)]
      have e : ((i : Int) + 1) = ((i + 1 : Nat) : Int) := by omega
      rw [e]
      exact eqIntA3S_l0 hx j (i + 1) (by omega)
    · rw [if_neg (by simpa using c)]
theorem eqIntA3S_self {n : Nat} {xs : List (Int × Int × Int)} (hx : xs.length ≤ 4398046511104) (hn : xs.length < n) : laws_eqIntA3S.F n xs xs = some true := by
  unfold laws_eqIntA3S.F
  rw [if_neg (by simp)]
  exact eqIntA3S_l0 hx n 0 (by omega)
theorem eqMaze_self {n : Nat} {a : Int} {xs : List (Int × Int × Int)} {ys : List Int} (hx : xs.length ≤ 4398046511104) (hy : ys.length ≤ 4398046511104) (hn : xs.length < n) (hm : ys.length < n) :
    laws_eqMaze.F n a xs ys a xs ys = some true := by
  simp [laws_eqMaze.F, eqIntA3S_self hx hn, eqIntS_self hy hm]

/-- The size law's guard. -/
theorem szMaze_some (n : Nat) (a : Int) (xs : List (Int × Int × Int)) (ys : List Int) (hx : xs.length ≤ maxLen) (hy : ys.length ≤ maxLen) :
    ∃ r, laws_szMaze.F n a xs ys 1048576 = some r ∧ (r < 0 ∨ xs.length + ys.length ≤ 1048576) := by
  have hm : maxLen ≤ 9223372036854775807 := by decide
  unfold laws_szMaze.F laws_szIntA3S.F
  rw [w64 (by omega) (by omega)]
  by_cases c : (1048576 : Int) - (xs.length : Int) < 0
  · rw [if_pos (by simpa using c)]
    exact ⟨-1, by simp, .inl (by omega)⟩
  · rw [if_neg (by simpa using c), Option.bind_some, if_neg (by simpa using c)]
    unfold laws_szIntS.F
    rw [w64 (by omega) (by omega)]
    by_cases d : (1048576 : Int) - (xs.length : Int) - (ys.length : Int) < 0
    · rw [if_pos (by simpa using d)]
      exact ⟨-1, by simp, .inl (by omega)⟩
    · rw [if_neg (by simpa using d), Option.bind_some, if_neg (by simpa using d)]
      exact ⟨_, rfl, .inr (by omega)⟩
theorem getD_drop {α : Type} {l : List α} {i : Nat} {d : α} (h : i < l.length) : l.drop i = l.getD i d :: l.drop (i + 1) := by
  rw [List.getD_eq_getElem?_getD, List.getElem?_eq_getElem h]
  exact List.drop_eq_getElem_cons h
theorem getD_mem {α : Type} {l : List α} {i : Nat} {d : α} (h : i < l.length) : l.getD i d ∈ l := by
  rw [List.getD_eq_getElem?_getD, List.getElem?_eq_getElem h]
  exact List.getElem_mem h
end Go.Pv
