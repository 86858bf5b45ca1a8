/- Plain laws: doors at a node, other keys, a colour less, mazes that are joined. -/
import Derived.Test.YtfgncboicamdjaaGreatDoorPvNode
import Derived.Test.YtfgncboicamdjaaGreatDoorPvHeld
set_option linter.unusedVariables false
set_option linter.unusedSimpArgs false
set_option autoImplicit false
namespace Go.Pv
open Go Go.Fx Go.Pf

section
variable {n : Nat} {N : Int} {ds : List (Int × Int × Int)} {ks : List Int}
abbrev RM := Int × List (Int × Int × Int) × List Int × Bool
theorem doorsAt_l0 {K : List Int → Option (List Int × Bool)} {x : Int} (hl : ds.length ≤ 30) : ∀ (j i : Nat) (o : List Int), ds.length - i < j → o.length ≤ i → i ≤ ds.length →
    ∃ o' : List Int, o'.length ≤ 30 ∧ spec_DoorsAt.l0 n K j x N ds ks o i = K o' ∧ impl_DoorsAt.l0 n K j x o ds ds.length i = K o'
  | 0, i, o, hj, _, _ => by omega
  | j + 1, i, o, hj, ho, hi => by
    rw [spec_DoorsAt.l0, impl_DoorsAt.l0]
    by_cases c : (i : Int) < (ds.length : Int)
    · have ci : i < ds.length := by omega
      have k1 : decide ((i : Int) < (ds.length : Int)) = true := by simpa using c
      have k2 : 0 ≤ (i : Int) ∧ (i : Int) < (ds.length : Int) := ⟨by omega, c⟩
      have wi : IntKind.wrap .i64 ((i : Int) + 1) = ((i + 1 : Nat) : Int) := by rw [w64s (by omega) (by omega)]; omega
      have k3 : o.length + ([(i : Int)] : List Int).length ≤ 4398046511104 := by simp; omega
      simp only [if_pos k1, if_pos k2, wi, if_pos k3]
      generalize ds.getD (i : Int).toNat (0, 0, 0) = d
      have g1 := doorsAt_l0 (K := K) (x := x) hl j (i + 1) (o ++ [(i : Int)]) (by omega) (by simp; omega) (by omega)
      have g2 := doorsAt_l0 (K := K) (x := x) hl j (i + 1) o (by omega) (by omega) (by omega)
      by_cases e1 : d.1 = x
      · simp only [e1, decide_true, if_true]
        exact g1
      · simp only [e1, decide_false, Bool.false_eq_true, if_false]
        by_cases e2 : d.2.1 = x
        · simp only [e2, decide_true, if_true]
          exact g1
        · simp only [e2, decide_false, Bool.false_eq_true, if_false]
          exact g2
    · have k1 : ¬ decide ((i : Int) < (ds.length : Int)) = true := by simpa using c
      simp only [if_neg k1]
      exact ⟨o, by omega, rfl, rfl⟩
open Classical in
theorem DoorsAt_same (hn : 100 ≤ n) (x : Int) : ∃ q : List Int × Bool, q.1.length ≤ 1048576 ∧ spec_DoorsAt.F n N ds ks x = some q ∧ impl_DoorsAt.F n N ds ks x = some q := by
  unfold spec_DoorsAt.F impl_DoorsAt.F
  rw [isNode_eq (by omega) (by simp; omega) (by simp), l2Node_eq (by omega)]
  simp only [Option.bind_some, List.all_cons, List.all_nil, Bool.and_true]
  cases hb : (decide (VM N ds ks) && inB x 0 (N - 1)) with
  | false => exact ⟨([], false), by simp, rfl, rfl⟩
  | true =>
    simp only [Bool.and_eq_true, decide_eq_true_eq] at hb
    obtain ⟨o, ho, h1, h2⟩ := doorsAt_l0 (n := n) (N := N) (ks := ks) (K := fun y2 => some (y2, true)) (x := x) hb.1.dl n 0 [] (by have := hb.1.dl; omega) (by simp) (by omega)
    simp only [Int.natCast_zero] at h1 h2
    exact ⟨(o, true), by simp only; omega, by simpa using h1, by simpa using h2⟩

end
end Go.Pv
