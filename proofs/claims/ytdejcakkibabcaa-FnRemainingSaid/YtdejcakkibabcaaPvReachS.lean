/- Plain laws: the reference's way to what is reached. -/
import Derived.Test.YtdejcakkibabcaaPvReach
set_option linter.unusedVariables false
set_option linter.unusedSimpArgs false
set_option autoImplicit false
namespace Go.Pv
open Go Go.Fx Go.Pf

theorem asc_insert {xs : List Int} {y : Int} {k : Nat} (hx : Asc xs) (hk : k ≤ xs.length) (h1 : ∀ m, m < k → xs.getD m 0 < y) (h2 : k < xs.length → y < xs.getD k 0) : Asc (xs.take k ++ [y] ++ xs.drop k) := by
  have a1 : ∀ x ∈ xs.take k, x < y := by
    intro x hx2
    obtain ⟨m, hm, rfl⟩ := List.getElem_of_mem hx2
    rw [List.getElem_take]
    have hm' : m < k := by simp at hm; omega
    have := h1 m hm'
    rw [List.getD_eq_getElem?_getD, List.getElem?_eq_getElem (by omega)] at this
    exact this
  have hsplit : xs.take k ++ xs.drop k = xs := List.take_append_drop k xs
  unfold Asc at *
  rw [← hsplit, List.pairwise_append] at hx
  obtain ⟨p1, p2, p3⟩ := hx
  have a2 : ∀ x ∈ xs.drop k, y < x := by
    intro x hx2
    by_cases hk2 : k < xs.length
    · have e := getD_drop (d := (0 : Int)) hk2
      rw [e] at hx2 p2
      rw [List.pairwise_cons] at p2
      rcases List.mem_cons.1 hx2 with rfl | hx2
      · exact h2 hk2
      · have := p2.1 x hx2
        have := h2 hk2
        omega
    · rw [List.drop_eq_nil_of_le (by omega)] at hx2
      cases hx2
  rw [List.append_assoc, List.pairwise_append]
  refine ⟨p1, ?_, ?_⟩
  · rw [List.singleton_append, List.pairwise_cons]
    exact ⟨a2, p2⟩
  · intro a ha b hb
    rw [List.singleton_append] at hb
    rcases List.mem_cons.1 hb with rfl | hb
    · exact a1 a ha
    · exact p3 a ha b hb
end Go.Pv
