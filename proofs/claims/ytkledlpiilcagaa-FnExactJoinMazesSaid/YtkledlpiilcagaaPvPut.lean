/- Plain laws: doors at a node, other keys, a colour less, mazes that are joined. -/
import Derived.Test.YtkledlpiilcagaaPvNode
import Derived.Test.YtkledlpiilcagaaPvHeld
set_option linter.unusedVariables false
set_option linter.unusedSimpArgs false
set_option autoImplicit false
namespace Go.Pv
open Go Go.Fx Go.Pf

section
variable {n : Nat} {N : Int} {ds : List (Int × Int × Int)} {ks : List Int}
abbrev RM := Int × List (Int × Int × Int) × List Int × Bool
theorem l2Own_eq (hd : ds.length ≤ 1048576) (hk : ks.length ≤ 1048576) : spec_l2Own.F n N ds ks = some (N, ds, ks) := by
  unfold spec_l2Own.F spec_l1Own.F
  rw [if_pos (by simp; omega), if_pos (by simp; omega)]
  rfl
theorem own_eq (hd : ds.length ≤ 1048576) (hk : ks.length ≤ 1048576) : impl_own.F n N ds ks = some (N, ds, ks) := by
  unfold impl_own.F slices_Clone_3_int_3_int.F slices_Clone_int_int.F
  rw [if_pos (by simp; omega), if_pos (by simp; omega)]
  rfl
open Classical in
theorem PutKeys_same (hn : 100 ≤ n) (hd : ds.length ≤ 1048576) (hk : ks.length ≤ 1048576) (x s : Int) : ∃ q : RM, (q.2.1.length ≤ 1048576 ∧ q.2.2.1.length ≤ 1048576) ∧ spec_PutKeys.F n N ds ks x s = some q ∧ impl_PutKeys.F n N ds ks x s = some q := by
  unfold spec_PutKeys.F impl_PutKeys.F impl_put.F
  rw [isNode_eq (by omega) (by simp; omega) (by simp), l2Node_eq (by omega), l2Own_eq hd hk, own_eq hd hk]
  simp only [Option.bind_some, List.all_cons, List.all_nil, Bool.and_true, l2Set_eq, isSet_eq]
  by_cases h : VM N ds ks
  · have hv : decide (VM N ds ks) = true := by simp [h]
    rw [hv, Bool.true_and]
    cases hx : inB x 0 (N - 1) with
    | false => exact ⟨(0, [], [], false), by simp, rfl, rfl⟩
    | true =>
      simp only [inB, Bool.and_eq_true, decide_eq_true_eq] at hx
      cases hs : setB s with
      | false => exact ⟨(0, [], [], false), by simp, rfl, rfl⟩
      | true =>
        have hkl := h.kl
        have c : 0 ≤ x ∧ x < (ks.length : Int) := ⟨hx.1, by omega⟩
        simp only [if_pos c]
        exact ⟨(N, ds, ks.set x.toNat s, true), by simp; omega, rfl, rfl⟩
  · have hv : decide (VM N ds ks) = false := by simp [h]
    rw [hv]
    exact ⟨(0, [], [], false), by simp, rfl, rfl⟩
theorem WithoutKeys_same (hn : 100 ≤ n) (hd : ds.length ≤ 1048576) (hk : ks.length ≤ 1048576) (x : Int) : ∃ q : RM, (q.2.1.length ≤ 1048576 ∧ q.2.2.1.length ≤ 1048576) ∧ spec_WithoutKeys.F n N ds ks x = some q ∧ impl_WithoutKeys.F n N ds ks x = some q := by
  obtain ⟨q, hq, h1, h2⟩ := PutKeys_same (N := N) (ds := ds) (ks := ks) hn hd hk x 0
  have e : spec_WithoutKeys.F n N ds ks x = spec_PutKeys.F n N ds ks x 0 := by
    unfold spec_WithoutKeys.F spec_PutKeys.F spec_l3Keys.F
    simp only [l2Set_eq, Option.bind_some, setB]
    cases spec_l2Node.F n N ds ks x with
    | none => rfl
    | some b =>
      cases b with
      | false => rfl
      | true =>
        rw [l2Own_eq hd hk]
        simp only [Option.bind_some]
        by_cases c : 0 ≤ x ∧ x < (ks.length : Int)
        · simp [c]
        · simp [c]
  refine ⟨q, hq, by rw [e]; exact h1, ?_⟩
  unfold impl_WithoutKeys.F
  rw [h2]
  rfl

theorem doorsAt_l0 {K : List Int → Option (List Int × Bool)} {x : Int} (hl : ds.length ≤ 30) : ∀ (j i : Nat) (o : List Int), ds.length - i < j → o.length ≤ i → i ≤ ds.length →
    ∃ o' : List Int, o'.length ≤ 30 ∧ spec_DoorsAt.l0 n K j x N ds ks o i = K o' ∧ impl_DoorsAt.l0 n K j x o ds ds.length i = K o'
  | 0, i, o, hj, _, _ => by omega
  | j + 1, i, o, hj, ho, hi => by
    rw [spec_DoorsAt.l0, impl_DoorsAt.l0]
    by_cases c : (i : Int) < (ds.length : Int)
    · have ci : i < ds.length := by omega
      have k1 : decide ((i : Int) < (ds.length : Int)) = true := by simpa using c
      have k2 : 0 ≤ (i : Int) ∧ (i : Int) < (ds.length : Int) := ⟨by omega, c⟩
      have wi : IntKind.wrap .i64 ((i : Int) + 1) = ((i + 1 : Nat) : Int) := by rw [w64s (by omega) (by omega)]; omega
      have k3 : o.length + ([(i : Int)] : List Int).length ≤ 4398046511104 := by simp; omega
      simp only [if_pos k1, if_pos k2, wi, if_pos k3]
      generalize ds.getD (i : Int).toNat (0, 0, 0) = d
      have g1 := doorsAt_l0 (K := K) (x := x) hl j (i + 1) (o ++ [(i : Int)]) (by omega) (by simp; omega) (by omega)
      have g2 := doorsAt_l0 (K := K) (x := x) hl j (i + 1) o (by omega) (by omega) (by omega)
      by_cases e1 : d.1 = x
      · simp only [e1, decide_true, if_true]
        exact g1
      · simp only [e1, decide_false, Bool.false_eq_true, if_false]
        by_cases e2 : d.2.1 = x
        · simp only [e2, decide_true, if_true]
          exact g1
        · simp only [e2, decide_false, Bool.false_eq_true, if_false]
          exact g2
    · have k1 : ¬ decide ((i : Int) < (ds.length : Int)) = true := by simpa using c
      simp only [if_neg k1]
      exact ⟨o, by omega, rfl, rfl⟩
open Classical in
theorem DoorsAt_same (hn : 100 ≤ n) (x : Int) : ∃ q : List Int × Bool, q.1.length ≤ 1048576 ∧ spec_DoorsAt.F n N ds ks x = some q ∧ impl_DoorsAt.F n N ds ks x = some q := by
  unfold spec_DoorsAt.F impl_DoorsAt.F
  rw [isNode_eq (by omega) (by simp; omega) (by simp), l2Node_eq (by omega)]
  simp only [Option.bind_some, List.all_cons, List.all_nil, Bool.and_true]
  cases hb : (decide (VM N ds ks) && inB x 0 (N - 1)) with
  | false => exact ⟨([], false), by simp, rfl, rfl⟩
  | true =>
    simp only [Bool.and_eq_true, decide_eq_true_eq] at hb
    obtain ⟨o, ho, h1, h2⟩ := doorsAt_l0 (n := n) (N := N) (ks := ks) (K := fun y2 => some (y2, true)) (x := x) hb.1.dl n 0 [] (by have := hb.1.dl; omega) (by simp) (by omega)
    simp only [Int.natCast_zero] at h1 h2
    exact ⟨(o, true), by simp only; omega, by simpa using h1, by simpa using h2⟩

theorem withoutColour_l0 {K : Int → List (Int × Int × Int) → List Int → Int → List (Int × Int × Int) → List Int → Option (Int × List (Int × Int × Int) × List Int)} {c : Int} (hc : 0 ≤ c) (hkl : (ks.length : Int) = N) (hN : N ≤ 12) :
    ∀ (j i : Nat) (o : List Int), ks.length - i < j → o.length = ks.length → (∀ m, i ≤ m → o.getD m 0 = ks.getD m 0) →
      ∃ o' : List Int, o'.length = ks.length ∧ spec_l3Colour.l0 n K j c N ds ks 0 [] [] N ds o i = K 0 [] [] N ds o' ∧ impl_withoutColour.l0 n K j c 0 [] [] N ds o ks.length i = K 0 [] [] N ds o'
  | 0, i, o, hj, _, _ => by omega
  | j + 1, i, o, hj, ho, hm => by
    rw [spec_l3Colour.l0, impl_withoutColour.l0]
    by_cases c1 : (i : Int) < (ks.length : Int)
    · have ci : i < ks.length := by omega
      have ei : (i : Int).toNat = i := by omega
      have k0 : decide ((i : Int) < N) = true := by simp; omega
      have k1 : decide ((i : Int) < (ks.length : Int)) = true := by simpa using c1
      have k2 : 0 ≤ (i : Int) ∧ (i : Int) < (ks.length : Int) := ⟨by omega, c1⟩
      have k3 : 0 ≤ (i : Int) ∧ (i : Int) < (o.length : Int) := ⟨by omega, by omega⟩
      have wi : IntKind.wrap .i64 ((i : Int) + 1) = ((i + 1 : Nat) : Int) := by rw [w64s (by omega) (by omega)]; omega
      have nc : ¬ c < 0 := by omega
      simp only [if_pos k0, if_pos k1, if_pos k2, if_pos k3, if_neg nc, wi, ei, hm i (Nat.le_refl _)]
      refine withoutColour_l0 hc hkl hN j (i + 1) _ (by omega) (by simpa using ho) fun m hm2 => ?_
      have : i ≠ m := by omega
      rw [List.getD_eq_getElem?_getD, List.getElem?_set_ne this, ← List.getD_eq_getElem?_getD]
      exact hm m (by omega)
    · have k0 : ¬ decide ((i : Int) < N) = true := by simp; omega
      have k1 : ¬ decide ((i : Int) < (ks.length : Int)) = true := by simpa using c1
      rw [if_neg k0, if_neg k1]
      exact ⟨o, ho, rfl, rfl⟩
open Classical in
theorem WithoutColour_same (hn : 100 ≤ n) (hd : ds.length ≤ 1048576) (hk : ks.length ≤ 1048576) (c : Int) : ∃ q : RM, (q.2.1.length ≤ 1048576 ∧ q.2.2.1.length ≤ 1048576) ∧ spec_WithoutColour.F n N ds ks c = some q ∧ impl_WithoutColour.F n N ds ks c = some q := by
  unfold spec_WithoutColour.F impl_WithoutColour.F spec_l3Colour.F impl_withoutColour.F
  rw [l2Maze_val (by omega), IsMaze_val (by omega), l2Own_eq hd hk, own_eq hd hk]
  simp only [Option.bind_some, l1In_eq, within_eq]
  by_cases h : VM N ds ks
  · have hv : (!decide (VM N ds ks)) = false := by simp [h]
    simp only [hv, Bool.false_eq_true, if_false]
    by_cases hc : 0 ≤ c ∧ c ≤ 5
    · simp only [nin_false hc, Bool.false_eq_true, if_false]
      obtain ⟨o, ho, h1, h2⟩ := withoutColour_l0 (n := n) (ds := ds) (K := fun y2 y3 y4 y5 y6 y7 => some (y5, y6, y7)) hc.1 h.kl h.n2 n 0 ks (by have := h.kl; have := h.n2; omega) rfl (fun _ _ => rfl)
      simp only [Int.natCast_zero] at h1 h2
      rw [h1, h2]
      exact ⟨(N, ds, o, true), by simp; omega, rfl, rfl⟩
    · simp only [nin_true hc, if_true]
      exact ⟨(0, [], [], false), by simp, rfl, rfl⟩
  · have hv : (!decide (VM N ds ks)) = true := by simp [h]
    simp only [hv, if_true]
    exact ⟨(0, [], [], false), by simp, rfl, rfl⟩
end
end Go.Pv
