/- Plain laws: a maze without one of its doors. -/
import Derived.Test.YtfgncboicamdjaaPvBits
set_option linter.unusedVariables false
set_option linter.unusedSimpArgs false
set_option autoImplicit false
namespace Go.Pv
open Go Go.Fx Go.Pf

theorem del_eq {n k : Nat} {l : List (Int × Int × Int)} (hk : k < l.length) : slices_Delete_3_int_3_int.F n l (k : Int) ((k + 1 : Nat) : Int) = some (l.take k ++ l.drop (k + 1)) := by
  unfold slices_Delete_3_int_3_int.F
  have hA : (l.take k ++ l.drop (k + 1) ++ l.drop (k + (l.length - (k + 1)))).length = l.length := by simp; omega
  have hm : ((l.take k ++ l.drop (k + 1) ++ l.drop (k + (l.length - (k + 1)))).take (k + (l.length - (k + 1)))).length = k + (l.length - (k + 1)) := by
    rw [List.length_take, hA]
    omega
  have c1 : 0 ≤ (k : Int) ∧ (k : Int) ≤ ((k + 1 : Nat) : Int) ∧ ((k + 1 : Nat) : Int) ≤ (l.length : Int) ∧ (l.length : Int) ≤ (l.length : Int) := by omega
  have c2 : ¬ decide ((k : Int) = ((k + 1 : Nat) : Int)) = true := by rw [decide_eq_true_eq]; omega
  have c3 : 0 ≤ (k : Int) ∧ (k : Int) ≤ (l.length : Int) := by omega
  have c4 : 0 ≤ ((k + 1 : Nat) : Int) ∧ ((k + 1 : Nat) : Int) ≤ (l.length : Int) := by omega
  rw [if_pos c1, if_neg c2, if_pos c3, if_pos c4]
  simp only [Int.toNat_natCast, hm, hA]
  rw [if_pos (by omega), if_pos (by omega)]
  congr 1
  rw [List.append_assoc, List.take_append_of_le_length (by rw [List.length_take, hA]; omega), List.take_take, Nat.min_self, List.take_append_of_le_length (by simp only [List.length_append, List.length_take, List.length_drop]; omega), List.take_of_length_le (by simp only [List.length_append, List.length_take, List.length_drop]; omega)]
abbrev RM' := Int × List (Int × Int × Int) × List Int × Bool
open Classical in
theorem DropDoor_same {n : Nat} {N : Int} {ds : List (Int × Int × Int)} {ks : List Int} (hn : 100 ≤ n) (x : Int) : ∃ q : RM', (q.2.1.length ≤ 1048576 ∧ q.2.2.1.length ≤ 1048576) ∧ spec_DropDoor.F n N ds ks x = some q ∧ impl_DropDoor.F n N ds ks x = some q := by
  unfold spec_DropDoor.F impl_DropDoor.F
  rw [l2Maze_val (by omega), IsMaze_val (by omega), Option.bind_some, Option.bind_some]
  by_cases h : VM N ds ks
  · have hv : decide (VM N ds ks) = true := by simp [h]
    have hd := h.dl
    have hkl := h.kl
    have h2 := h.n2
    have w1 : IntKind.wrap .i64 ((ds.length : Int) - 1) = (ds.length : Int) - 1 := w64 (by omega) (by omega)
    simp only [hv, Bool.not_true, Bool.false_eq_true, if_false]
    rw [l1In_eq, within_eq, w1, Option.bind_some, Option.bind_some]
    by_cases c : 0 ≤ x ∧ x ≤ (ds.length : Int) - 1
    · have ex : x = ((x.toNat : Nat) : Int) := by omega
      have wx : IntKind.wrap .i64 (x + 1) = ((x.toNat + 1 : Nat) : Int) := by rw [w64s (by omega) (by omega)]; omega
      have e0 : spec_l2Own.F n N ds ks = some (N, ds, ks) := by
        unfold spec_l2Own.F spec_l1Own.F
        rw [if_pos (by simp; omega), if_pos (by simp; omega)]
        rfl
      have e1 : impl_own.F n N ds ks = some (N, ds, ks) := by
        unfold impl_own.F slices_Clone_3_int_3_int.F slices_Clone_int_int.F
        rw [if_pos (by simp; omega), if_pos (by simp; omega)]
        rfl
      rw [if_neg (by simp [c.1, c.2]), if_neg (by simp [c.1, c.2]), e0, Option.bind_some, if_pos (by omega), if_pos (by simp only [List.length_nil, List.length_take]; omega), wx, if_pos (by omega), Int.toNat_natCast, if_pos (by simp only [List.nil_append, List.length_take, List.length_drop]; omega)]
      unfold impl_dropped.F
      rw [e1, Option.bind_some, wx]
      have hdel := del_eq (n := n) (l := ds) (k := x.toNat) (by omega)
      rw [← ex] at hdel
      rw [hdel]
      simp only [Option.bind_some]
      refine ⟨(N, ds.take x.toNat ++ ds.drop (x.toNat + 1), ks, true), ⟨?_, by simp only; omega⟩, rfl, rfl⟩
      simp only [List.length_append, List.length_take, List.length_drop]
      omega
    · have hf : (!(decide (0 ≤ x) && decide (x ≤ (ds.length : Int) - 1))) = true := by
        by_cases h1 : 0 ≤ x
        · have : ¬ x ≤ (ds.length : Int) - 1 := fun h2 => c ⟨h1, h2⟩
          simp [this]
        · simp [h1]
      rw [if_pos hf, if_pos hf]
      exact ⟨(0, [], [], false), by simp, rfl, rfl⟩
  · have hv : decide (VM N ds ks) = false := by simp [h]
    rw [hv]
    exact ⟨(0, [], [], false), by simp, rfl, rfl⟩
end Go.Pv
