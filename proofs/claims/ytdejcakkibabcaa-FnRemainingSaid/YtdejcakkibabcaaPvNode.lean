/- Plain laws: nodes of a maze. -/
import Derived.Test.YtdejcakkibabcaaPvSteps
set_option linter.unusedVariables false
set_option linter.unusedSimpArgs false
set_option autoImplicit false
namespace Go.Pv
open Go Go.Fx Go.Pf

def inB (x lo hi : Int) : Bool := decide (lo ≤ x) && decide (x ≤ hi)
theorem nodes_l0 {n : Nat} {K : Unit → Option Int} {N : Int} {ds : List (Int × Int × Int)} {ks xs : List Int} (hx : xs.length ≤ 4398046511104) (h1 : 1 ≤ N) (h2 : N ≤ 12) : ∀ (j i : Nat), xs.length - i < j →
    ∃ m : Int, 0 ≤ m ∧ slices_IndexFunc_int_int_cisNode_1.l0 n K j xs N ds ks xs.length i = if ((xs.drop i).all fun x => inB x 0 (N - 1)) = true then K () else some m
  | 0, i, h => by omega
  | j + 1, i, h => by
    rw [slices_IndexFunc_int_int_cisNode_1.l0]
    by_cases c : (i : Int) < (xs.length : Int)
    · have ci : i < xs.length := by omega
      have ei : (i : Int).toNat = i := by omega
      have k1 : decide ((i : Int) < (xs.length : Int)) = true := by simpa using c
      have k2 : 0 ≤ (i : Int) ∧ (i : Int) < (xs.length : Int) := ⟨by omega, c⟩
      have wi : IntKind.wrap .i64 ((i : Int) + 1) = ((i + 1 : Nat) : Int) := by rw [w64s (by omega) (by omega)]; omega
      have wN : IntKind.wrap .i64 (N - 1) = N - 1 := w64s (by omega) (by omega)
      simp only [if_pos k1, if_pos k2, wi, impl_isNode_1_c0.F, within_eq, Option.bind_some, ei, getD_drop (d := (0 : Int)) ci, List.all_cons, wN]
      have e : (decide (0 ≤ xs.getD i 0) && decide (xs.getD i 0 ≤ N - 1)) = inB (xs.getD i 0) 0 (N - 1) := rfl
      rw [e]
      cases inB (xs.getD i 0) 0 (N - 1) with
      | true =>
        simp only [Bool.not_true, Bool.false_eq_true, if_false, Bool.true_and]
        exact nodes_l0 hx h1 h2 j (i + 1) (by omega)
      | false => exact ⟨i, by omega, by simp⟩
    · have k1 : ¬ decide ((i : Int) < (xs.length : Int)) = true := by simpa using c
      have : xs.drop i = [] := List.drop_eq_nil_of_le (by omega)
      refine ⟨0, by omega, ?_⟩
      rw [if_neg k1, this]
      rfl
open Classical in
theorem isNode_eq {n : Nat} {N : Int} {ds : List (Int × Int × Int)} {ks xs : List Int} (hn : 40 ≤ n) (hx : xs.length < n) (hx2 : xs.length ≤ 4398046511104) :
    impl_isNode.F n N ds ks xs = some (decide (VM N ds ks) && xs.all fun x => inB x 0 (N - 1)) := by
  unfold impl_isNode.F
  rw [IsMaze_val hn, Option.bind_some]
  by_cases h : VM N ds ks
  · obtain ⟨m, hm, hl⟩ := nodes_l0 (n := n) (K := fun _ => some (-1)) (N := N) (ds := ds) (ks := ks) hx2 h.n1 h.n2 n 0 (by omega)
    simp only [Int.natCast_zero, List.drop_zero] at hl
    have hd : decide (VM N ds ks) = true := by simp [h]
    simp only [hd, if_true, slices_ContainsFunc_int_int_cisNode_1.F, slices_IndexFunc_int_int_cisNode_1.F, Bool.true_and]
    rw [hl]
    cases xs.all fun x => inB x 0 (N - 1) with
    | true => simp
    | false => simp [hm]
  · have hd : decide (VM N ds ks) = false := by simp [h]
    simp [hd]
open Classical in
theorem l2Node_eq {n : Nat} {N : Int} {ds : List (Int × Int × Int)} {ks : List Int} (hn : 40 ≤ n) (x : Int) : spec_l2Node.F n N ds ks x = some (decide (VM N ds ks) && inB x 0 (N - 1)) := by
  unfold spec_l2Node.F
  rw [l2Maze_val hn, Option.bind_some]
  by_cases h : VM N ds ks
  · have wN : IntKind.wrap .i64 (N - 1) = N - 1 := w64s (by have := h.n1; omega) (by have := h.n2; omega)
    simp [h, l1In_eq, wN, inB]
  · simp [h]
end Go.Pv
