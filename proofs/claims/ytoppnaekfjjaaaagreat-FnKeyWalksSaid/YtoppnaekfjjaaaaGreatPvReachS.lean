/- Plain laws: the reference's way to what is reached. -/
import Derived.Test.YtoppnaekfjjaaaaGreatPvReach
set_option linter.unusedVariables false
set_option linter.unusedSimpArgs false
set_option autoImplicit false
namespace Go.Pv
open Go Go.Fx Go.Pf

theorem l1Has_l0 {n : Nat} {K : Unit → Option Bool} {xs : List Int} {y : Int} (hx : xs.length ≤ 4398046511104) : ∀ (j i : Nat), xs.length - i < j →
    spec_l1Has.l0 n K j xs y i = if y ∈ xs.drop i then some true else K ()
  | 0, i, h => by omega
  | j + 1, i, h => by
    rw [spec_l1Has.l0]
    by_cases c : (i : Int) < (xs.length : Int)
    · have ci : i < xs.length := by omega
      have ei : (i : Int).toNat = i := by omega
      have k1 : decide ((i : Int) < (xs.length : Int)) = true := by simpa using c
      have k2 : 0 ≤ (i : Int) ∧ (i : Int) < (xs.length : Int) := ⟨by omega, c⟩
      have wi : IntKind.wrap .i64 ((i : Int) + 1) = ((i + 1 : Nat) : Int) := by rw [w64s (by omega) (by omega)]; omega
      have hs := getD_drop (d := (0 : Int)) ci
      rw [if_pos k1, if_pos k2, wi, ei, hs]
      rw [l1Has_l0 hx j (i + 1) (by omega)]
      by_cases e : xs.getD i 0 = y
      · rw [if_pos (by rw [decide_eq_true_eq]; exact e), if_pos (by rw [e]; simp)]
      · rw [if_neg (by rw [decide_eq_true_eq]; exact e)]
        by_cases e2 : y ∈ xs.drop (i + 1)
        · rw [if_pos e2, if_pos (by simp [e2])]
        · have e3 : ¬ y ∈ xs.getD i 0 :: xs.drop (i + 1) := by
            intro h3
            rcases List.mem_cons.1 h3 with h3 | h3
            · exact e h3.symm
            · exact e2 h3
          rw [if_neg e2, if_neg e3]
    · have k1 : ¬ decide ((i : Int) < (xs.length : Int)) = true := by simpa using c
      have : xs.drop i = [] := List.drop_eq_nil_of_le (by omega)
      rw [if_neg k1, this, if_neg (by simp)]
theorem l1Has_eq {n : Nat} {xs : List Int} (hx : xs.length ≤ 4398046511104) (hn : xs.length < n) (y : Int) : spec_l1Has.F n xs y = some (decide (y ∈ xs)) := by
  unfold spec_l1Has.F
  have := l1Has_l0 (n := n) (K := fun _ => some false) (y := y) hx n 0 (by omega)
  simp only [Int.natCast_zero, List.drop_zero] at this
  rw [this]
  by_cases e : y ∈ xs
  · simp [e]
  · simp [e]

theorem asc_insert {xs : List Int} {y : Int} {k : Nat} (hx : Asc xs) (hk : k ≤ xs.length) (h1 : ∀ m, m < k → xs.getD m 0 < y) (h2 : k < xs.length → y < xs.getD k 0) : Asc (xs.take k ++ [y] ++ xs.drop k) := by
  have a1 : ∀ x ∈ xs.take k, x < y := by
    intro x hx2
    obtain ⟨m, hm, rfl⟩ := List.getElem_of_mem hx2
    rw [List.getElem_take]
    have hm' : m < k := by simp at hm; omega
    have := h1 m hm'
    rw [List.getD_eq_getElem?_getD, List.getElem?_eq_getElem (by omega)] at this
    exact this
  have hsplit : xs.take k ++ xs.drop k = xs := List.take_append_drop k xs
  unfold Asc at *
  rw [← hsplit, List.pairwise_append] at hx
  obtain ⟨p1, p2, p3⟩ := hx
  have a2 : ∀ x ∈ xs.drop k, y < x := by
    intro x hx2
    by_cases hk2 : k < xs.length
    · have e := getD_drop (d := (0 : Int)) hk2
      rw [e] at hx2 p2
      rw [List.pairwise_cons] at p2
      rcases List.mem_cons.1 hx2 with rfl | hx2
      · exact h2 hk2
      · have := p2.1 x hx2
        have := h2 hk2
        omega
    · rw [List.drop_eq_nil_of_le (by omega)] at hx2
      cases hx2
  rw [List.append_assoc, List.pairwise_append]
  refine ⟨p1, ?_, ?_⟩
  · rw [List.singleton_append, List.pairwise_cons]
    exact ⟨a2, p2⟩
  · intro a ha b hb
    rw [List.singleton_append] at hb
    rcases List.mem_cons.1 hb with rfl | hb
    · exact a1 a ha
    · exact p3 a ha b hb
end Go.Pv
