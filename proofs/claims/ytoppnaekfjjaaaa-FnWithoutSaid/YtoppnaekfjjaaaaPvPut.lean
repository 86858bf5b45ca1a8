/- Plain laws: doors at a node, other keys, a colour less, mazes that are joined. -/
import Derived.Test.YtoppnaekfjjaaaaPvNode
import Derived.Test.YtoppnaekfjjaaaaPvHeld
set_option linter.unusedVariables false
set_option linter.unusedSimpArgs false
set_option autoImplicit false
namespace Go.Pv
open Go Go.Fx Go.Pf

section
variable {n : Nat} {N : Int} {ds : List (Int × Int × Int)} {ks : List Int}
abbrev RM := Int × List (Int × Int × Int) × List Int × Bool
theorem l2Own_eq (hd : ds.length ≤ 1048576) (hk : ks.length ≤ 1048576) : spec_l2Own.F n N ds ks = some (N, ds, ks) := by
  unfold spec_l2Own.F spec_l1Own.F
  rw [if_pos (by simp; omega), if_pos (by simp; omega)]
  rfl
theorem own_eq (hd : ds.length ≤ 1048576) (hk : ks.length ≤ 1048576) : impl_own.F n N ds ks = some (N, ds, ks) := by
  unfold impl_own.F slices_Clone_3_int_3_int.F slices_Clone_int_int.F
  rw [if_pos (by simp; omega), if_pos (by simp; omega)]
  rfl
theorem withoutColour_l0 {K : Int → List (Int × Int × Int) → List Int → Int → List (Int × Int × Int) → List Int → Option (Int × List (Int × Int × Int) × List Int)} {c : Int} (hc : 0 ≤ c) (hkl : (ks.length : Int) = N) (hN : N ≤ 12) :
    ∀ (j i : Nat) (o : List Int), ks.length - i < j → o.length = ks.length → (∀ m, i ≤ m → o.getD m 0 = ks.getD m 0) →
      ∃ o' : List Int, o'.length = ks.length ∧ spec_l3Colour.l0 n K j c N ds ks 0 [] [] N ds o i = K 0 [] [] N ds o' ∧ impl_withoutColour.l0 n K j c 0 [] [] N ds o ks.length i = K 0 [] [] N ds o'
  | 0, i, o, hj, _, _ => by omega
  | j + 1, i, o, hj, ho, hm => by
    rw [spec_l3Colour.l0, impl_withoutColour.l0]
    by_cases c1 : (i : Int) < (ks.length : Int)
    · have ci : i < ks.length := by omega
      have ei : (i : Int).toNat = i := by omega
      have k0 : decide ((i : Int) < N) = true := by simp; omega
      have k1 : decide ((i : Int) < (ks.length : Int)) = true := by simpa using c1
      have k2 : 0 ≤ (i : Int) ∧ (i : Int) < (ks.length : Int) := ⟨by omega, c1⟩
      have k3 : 0 ≤ (i : Int) ∧ (i : Int) < (o.length : Int) := ⟨by omega, by omega⟩
      have wi : IntKind.wrap .i64 ((i : Int) + 1) = ((i + 1 : Nat) : Int) := by rw [w64s (by omega) (by omega)]; omega
      have nc : ¬ c < 0 := by omega
      simp only [if_pos k0, if_pos k1, if_pos k2, if_pos k3, if_neg nc, wi, ei, hm i (Nat.le_refl _)]
      refine withoutColour_l0 hc hkl hN j (i + 1) _ (by omega) (by simpa using ho) fun m hm2 => ?_
      have : i ≠ m := by omega
      rw [List.getD_eq_getElem?_getD, List.getElem?_set_ne this, ← List.getD_eq_getElem?_getD]
      exact hm m (by omega)
    · have k0 : ¬ decide ((i : Int) < N) = true := by simp; omega
      have k1 : ¬ decide ((i : Int) < (ks.length : Int)) = true := by simpa using c1
      rw [if_neg k0, if_neg k1]
      exact ⟨o, ho, rfl, rfl⟩
open Classical in
theorem WithoutColour_same (hn : 100 ≤ n) (hd : ds.length ≤ 1048576) (hk : ks.length ≤ 1048576) (c : Int) : ∃ q : RM, (q.2.1.length ≤ 1048576 ∧ q.2.2.1.length ≤ 1048576) ∧ spec_WithoutColour.F n N ds ks c = some q ∧ impl_WithoutColour.F n N ds ks c = some q := by
  unfold spec_WithoutColour.F impl_WithoutColour.F spec_l3Colour.F impl_withoutColour.F
  rw [l2Maze_val (by omega), IsMaze_val (by omega), l2Own_eq hd hk, own_eq hd hk]
  simp only [Option.bind_some, l1In_eq, within_eq]
  by_cases h : VM N ds ks
  · have hv : (!decide (VM N ds ks)) = false := by simp [h]
    simp only [hv, Bool.false_eq_true, if_false]
    by_cases hc : 0 ≤ c ∧ c ≤ 5
    · simp only [nin_false hc, Bool.false_eq_true, if_false]
      obtain ⟨o, ho, h1, h2⟩ := withoutColour_l0 (n := n) (ds := ds) (K := fun y2 y3 y4 y5 y6 y7 => some (y5, y6, y7)) hc.1 h.kl h.n2 n 0 ks (by have := h.kl; have := h.n2; omega) rfl (fun _ _ => rfl)
      simp only [Int.natCast_zero] at h1 h2
      rw [h1, h2]
      exact ⟨(N, ds, o, true), by simp; omega, rfl, rfl⟩
    · simp only [nin_true hc, if_true]
      exact ⟨(0, [], [], false), by simp, rfl, rfl⟩
  · have hv : (!decide (VM N ds ks)) = true := by simp [h]
    simp only [hv, if_true]
    exact ⟨(0, [], [], false), by simp, rfl, rfl⟩
end
end Go.Pv
