/- The plain laws of FnExactIsKeyWalk and FnExactTakenOn. -/
import Derived.Test.YtkledlpiilcagaaPvNode
import Derived.Test.YtkledlpiilcagaaPvMark
set_option linter.unusedVariables false
set_option linter.unusedSimpArgs false
set_option autoImplicit false
namespace Go.Pv
open Go Go.Fx Go.Pf

/-- Both loops over a walk go on or stop together. -/
theorem taken_loop {n : Nat} (hn : 40 ≤ n) {N : Int} {ds : List (Int × Int × Int)} {ks : List Int} (h : VM N ds ks) {ws : List Int} (hw : ws.length ≤ 1048576) (h0 : ws.getD 0 0 = 0) {K K' : List Int → Option (List Int × Bool)} :
    ∀ (j i : Nat) (out : List Int) (hv : Int), ws.length - i < j → out.length = i → i ≤ ws.length →
      ∃ res : Option (List Int), (∀ l, res = some l → l.length = ws.length) ∧ spec_l2Taken.l0 n K j ws N ds ks out hv i = (match res with | some l => K l | none => some ([], false)) ∧
        impl_taken.l0 n K' j ws N ds ks out hv ws.length i = (match res with | some l => K' l | none => some ([], false))
  | 0, i, out, hv, hj, _, _ => by omega
  | j + 1, i, out, hv, hj, hout, hi => by
    rw [spec_l2Taken.l0, impl_taken.l0]
    by_cases c : (i : Int) < (ws.length : Int)
    · have ci : i < ws.length := by omega
      have ei : (i : Int).toNat = i := by omega
      have k1 : decide ((i : Int) < (ws.length : Int)) = true := by simpa using c
      have k2 : 0 ≤ (i : Int) ∧ (i : Int) < (ws.length : Int) := ⟨by omega, c⟩
      have wi : IntKind.wrap .i64 ((i : Int) + 1) = ((i + 1 : Nat) : Int) := by rw [w64s (by omega) (by omega)]; omega
      have n1 := h.n1
      have n2 := h.n2
      have wN : IntKind.wrap .i64 (N - 1) = N - 1 := w64s (by omega) (by omega)
      simp only [if_pos k1, if_pos k2, l1In_eq, within_eq, Option.bind_some, wN, wi, ei]
      by_cases c1 : 0 ≤ ws.getD i 0 ∧ ws.getD i 0 ≤ N - 1
      · have b1 := nin_false c1
        have hkl := h.kl
        have k3 : 0 ≤ ws.getD i 0 ∧ ws.getD i 0 < (ks.length : Int) := ⟨c1.1, by omega⟩
        have k4 : ∀ v : Int, out.length + ([v] : List Int).length ≤ 4398046511104 := fun v => by simp; omega
        have go := fun v => taken_loop hn h hw h0 (K := K) (K' := K') j (i + 1) (out ++ [v]) v (by omega) (by simp [hout]) (by omega)
        have hneg : ¬ ws.getD i 0 < 0 := by omega
        simp only [b1, Bool.false_eq_true, if_false, if_pos k3, if_pos (k4 _), if_neg hneg]
        by_cases c2 : i = 0
        · subst c2
          have g0 : decide (((0 : Nat) : Int) = 0) = true := by simp
          have g1 : ¬ decide (((0 : Nat) : Int) > 0) = true := by simp
          have g2 : (!decide (ws.getD 0 0 = 0)) = false := by rw [h0]; rfl
          have g3 : (0 : Int) ≤ 0 ∧ (0 : Int) < (ws.length : Int) := ⟨by omega, by omega⟩
          simp only [g0, if_true, if_neg g1, if_pos g3, g2, Bool.false_eq_true, if_false]
          exact go _
        · have g0 : ¬ decide ((i : Int) = 0) = true := by simpa using c2
          have g1 : decide ((i : Int) > 0) = true := by simp; omega
          have g4 : IntKind.wrap .i64 ((i : Int) - 1) = (i : Int) - 1 := w64s (by omega) (by omega)
          have g5 : 0 ≤ (i : Int) - 1 ∧ (i : Int) - 1 < (ws.length : Int) := ⟨by omega, by omega⟩
          simp only [if_neg g0, if_pos g1, g4, if_pos g5]
          rw [l2Open_eq (by have := h.dl; omega) (by have := h.dl; omega), steps_eq hn h, Option.bind_some, Option.bind_some, steps_bit0 h _ _ _ c1.1 (by omega)]
          cases openB ds (ws.getD ((i : Int) - 1).toNat 0) (ws.getD i 0) hv with
          | true =>
            simp only [Bool.not_true, Bool.false_eq_true, if_false]
            exact go _
          | false =>
            simp only [Bool.not_false, if_true]
            exact ⟨none, by simp, rfl, rfl⟩
      · have b1 := nin_true c1
        simp only [b1, if_true]
        exact ⟨none, by simp, rfl, rfl⟩
    · have k1 : ¬ decide ((i : Int) < (ws.length : Int)) = true := by simpa using c
      simp only [if_neg k1]
      exact ⟨some out, by intro l hl; cases hl; omega, rfl, rfl⟩

theorem taken_same {n : Nat} (hn : 40 ≤ n) {N : Int} {ds : List (Int × Int × Int)} {ks : List Int} (h : VM N ds ks) {ws : List Int} (hw : ws.length ≤ 1048576) (hwn : ws.length < n) :
    ∃ r : List Int × Bool, r.1.length ≤ 1048576 ∧ spec_l2Taken.F n N ds ks ws = some r ∧ impl_taken.F n N ds ks ws = some r := by
  unfold spec_l2Taken.F impl_taken.F
  by_cases c : ws.length = 0
  · have : ws = [] := List.length_eq_zero_iff.1 c
    subst this
    obtain ⟨m, rfl⟩ : ∃ m, n = m + 1 := ⟨n - 1, by omega⟩
    refine ⟨([], false), by simp, ?_, ?_⟩
    · rw [spec_l2Taken.l0]
      simp
    · simp
  · have c' : ¬ decide ((ws.length : Int) = 0) = true := by rw [decide_eq_true_eq]; omega
    have c2 : (0 : Int) ≤ 0 ∧ (0 : Int) < (ws.length : Int) := ⟨by omega, by omega⟩
    simp only [if_neg c', if_pos c2]
    by_cases h0 : ws.getD 0 0 = 0
    · have g : (!decide (ws.getD 0 0 = 0)) = false := by rw [h0]; rfl
      simp only [g, Bool.false_eq_true, if_false]
      obtain ⟨res, hlen, h1, h2⟩ := taken_loop hn h hw h0 (K := fun y => some (y, decide ((y.length : Int) > 0))) (K' := fun y3 => some (y3, true)) n 0 [] 0 (by omega) rfl (by omega)
      simp only [Int.natCast_zero] at h1 h2
      cases res with
      | none => exact ⟨_, by simp, h1, h2⟩
      | some l =>
        have hl := hlen l rfl
        have : decide ((l.length : Int) > 0) = true := by simp; omega
        refine ⟨(l, true), by simp only; omega, ?_, h2⟩
        rw [h1]
        simp only [this]
    · have g : (!decide (ws.getD 0 0 = 0)) = true := by rw [decide_eq_false h0]; rfl
      simp only [g, if_true]
      refine ⟨([], false), by simp, ?_, rfl⟩
      obtain ⟨m, rfl⟩ : ∃ m, n = m + 1 := ⟨n - 1, by omega⟩
      rw [spec_l2Taken.l0]
      have k1 : decide ((0 : Int) < (ws.length : Int)) = true := by simp; omega
      have z : (0 : Int).toNat = 0 := rfl
      simp only [if_pos k1, if_pos c2, l1In_eq, Option.bind_some, z]
      split
      · rfl
      · simp only [decide_true, if_true, g]

open Classical in
theorem lawIsKeyWalk (N : Int) (ds : List (Int × Int × Int)) (ks ws : List Int) (hd : ds.length ≤ maxLen) (hk : ks.length ≤ maxLen) (hw : ws.length ≤ maxLen) : ∃ n, laws_FnExactIsKeyWalk.F n N ds ks ws = some true := by
  refine ⟨2000000, ?_⟩
  unfold laws_FnExactIsKeyWalk.F
  by_cases cw : (ws.length : Int) > 1048576
  · rw [if_pos (by simpa using cw)]
  rw [if_neg (by simpa using cw)]
  obtain ⟨r, hr, hrr⟩ := szMaze_some 2000000 N ds ks hd hk
  rw [hr, Option.bind_some]
  by_cases c : r < 0
  · rw [if_pos (by simpa using c)]
  rw [if_neg (by simpa using c)]
  have hl : ds.length + ks.length ≤ 1048576 := hrr.resolve_left c
  have d1 : ds.length ≤ 1048576 := by omega
  have d2 : ks.length ≤ 1048576 := by omega
  have d3 : ws.length ≤ 1048576 := by omega
  have same : ∃ q, spec_IsKeyWalk.F 2000000 N ds ks ws = some q ∧ impl_IsKeyWalk.F 2000000 N ds ks ws = some q := by
    unfold spec_IsKeyWalk.F impl_IsKeyWalk.F
    rw [l2Maze_val (by omega), IsMaze_val (by omega), Option.bind_some, Option.bind_some]
    by_cases h : VM N ds ks
    · obtain ⟨q, _, h1, h2⟩ := taken_same (n := 2000000) (by omega) h d3 (by omega)
      rw [h1, h2]
      simp [h]
    · simp [h]
  obtain ⟨q, h1, h2⟩ := same
  simp only [toMaze_L d1 d2, toIntS_L d3, Option.bind_some, h1, h2, eqMaze_L d1 d2, eqIntS_L d3, beqB_self, Bool.not_true, Bool.false_eq_true, if_false]

open Classical in
theorem lawTakenOn (N : Int) (ds : List (Int × Int × Int)) (ks ws : List Int) (hd : ds.length ≤ maxLen) (hk : ks.length ≤ maxLen) (hw : ws.length ≤ maxLen) : ∃ n, laws_FnExactTakenOn.F n N ds ks ws = some true := by
  refine ⟨2000000, ?_⟩
  unfold laws_FnExactTakenOn.F
  by_cases cw : (ws.length : Int) > 1048576
  · rw [if_pos (by simpa using cw)]
  rw [if_neg (by simpa using cw)]
  obtain ⟨r, hr, hrr⟩ := szMaze_some 2000000 N ds ks hd hk
  rw [hr, Option.bind_some]
  by_cases c : r < 0
  · rw [if_pos (by simpa using c)]
  rw [if_neg (by simpa using c)]
  have hl : ds.length + ks.length ≤ 1048576 := hrr.resolve_left c
  have d1 : ds.length ≤ 1048576 := by omega
  have d2 : ks.length ≤ 1048576 := by omega
  have d3 : ws.length ≤ 1048576 := by omega
  have same : ∃ q : List Int × Bool, q.1.length ≤ 1048576 ∧ spec_TakenOn.F 2000000 N ds ks ws = some q ∧ impl_TakenOn.F 2000000 N ds ks ws = some q := by
    unfold spec_TakenOn.F impl_TakenOn.F
    rw [l2Maze_val (by omega), IsMaze_val (by omega), Option.bind_some, Option.bind_some]
    by_cases h : VM N ds ks
    · obtain ⟨q, hq, h1, h2⟩ := taken_same (n := 2000000) (by omega) h d3 (by omega)
      rw [h1, h2]
      exact ⟨q, hq, by simp [h], by simp [h]⟩
    · exact ⟨([], false), by simp, by simp [h], by simp [h]⟩
  obtain ⟨q, hq, h1, h2⟩ := same
  have m1 := markMaze_eq (n := 2000000) (N := N) (a := 1) d1 d2 (by omega) (by omega) (by omega)
  have m2 := markIntS_eq (n := 2000000) (xs := ws) (a := 1 + 3 * (ds.length : Int) + (ks.length : Int)) d3 (by omega) (by omega) (by omega)
  have m3 := markIntS_eq (n := 2000000) (xs := q.1) (a := 1) hq (by omega) (by omega) (by omega)
  have m4 := heldIntS_eq (n := 2000000) (a := 1) (k := q.1.length) hq (by omega) (by omega) (by omega)
  have z1 := ndec_neg (a := 1 + 3 * (ds.length : Int) + (ks.length : Int) + (ws.length : Int)) (by omega)
  have z2 := ndec_neg (a := 1 + (q.1.length : Int)) (by omega)
  simp only [toMaze_L d1 d2, toIntS_L d3, Option.bind_some, h1, h2, eqMaze_L d1 d2, eqIntS_L d3, eqIntS_L hq, beqB_self, neqI_self, decide_true, Bool.not_true, Bool.false_eq_true, if_false, m1, m2, m3, m4, z1, z2]
end Go.Pv
