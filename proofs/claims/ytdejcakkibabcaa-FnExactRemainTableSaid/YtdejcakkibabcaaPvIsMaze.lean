/- The plain law of FnExactIsMaze: both tellings of what a maze is agree at every maze. -/
import Derived.Test.YtdejcakkibabcaaPvBase
set_option linter.unusedVariables false
set_option linter.unusedSimpArgs false
set_option autoImplicit false
namespace Go.Pv
open Go Go.Fx Go.Pf

theorem l1In_eq (n : Nat) (x lo hi : Int) : spec_l1In.F n x lo hi = some (decide (lo ≤ x) && decide (x ≤ hi)) := by
  unfold spec_l1In.F
  by_cases h : x ≥ lo
  · have h' : lo ≤ x := h
    simp [h, h']
  · have h' : ¬ lo ≤ x := h
    simp [h']
theorem within_eq (n : Nat) (x lo hi : Int) : impl_within.F n x lo hi = some (decide (lo ≤ x) && decide (x ≤ hi)) := by
  unfold impl_within.F
  by_cases h : lo ≤ x <;> simp [h]
def setB (x : Int) : Bool := decide (0 ≤ x) && decide (x ≤ 63)
theorem l2Set_eq (n : Nat) (x : Int) : spec_l2Set.F n x = some (setB x) := by
  unfold spec_l2Set.F
  rw [l1In_eq]
  rfl
theorem isSet_eq (n : Nat) (x : Int) : impl_isSet.F n x = some (setB x) := by
  unfold impl_isSet.F
  rw [within_eq]
  rfl

def lex3 (p q : Int × Int × Int) : Bool := decide (p.1 < q.1) || (decide (p.1 = q.1) && (decide (p.2.1 < q.2.1) || (decide (p.2.1 = q.2.1) && decide (p.2.2 < q.2.2))))
theorem l2Before_eq (n : Nat) (p q : Int × Int × Int) : spec_l2Before.F n p.1 p.2.1 p.2.2 q.1 q.2.1 q.2.2 = some (lex3 p q) := by
  obtain ⟨a, b, c⟩ := p
  obtain ⟨d, e, f⟩ := q
  unfold spec_l2Before.F lex3
  by_cases h1 : a = d
  · subst h1
    by_cases h2 : b = e
    · subst h2
      by_cases h3 : c = f
      · subst h3; simp
      · simp [h3]
    · simp [h2]
  · simp [h1]
def cmpI (x y : Int) : Int := if x < y then -1 else if x > y then 1 else 0
theorem compare_eq (n : Nat) (x y : Int) : cmp_Compare_int.F n x y = some (cmpI x y) := by
  unfold cmp_Compare_int.F cmp_isNaN_int.F cmpI
  by_cases h1 : x < y
  · simp [h1]
  · by_cases h2 : y < x <;> simp [h1, h2]
theorem or3_eq {n : Nat} (hn : 4 ≤ n) (a b c : Int) : cmp_Or_int.F n [a, b, c] = some (if a ≠ 0 then a else if b ≠ 0 then b else c) := by
  obtain ⟨m, rfl⟩ : ∃ m, n = m + 4 := ⟨n - 4, by omega⟩
  have e1 : IntKind.wrap .i64 ((0 : Int) + 1) = 1 := by decide
  have e2 : IntKind.wrap .i64 ((1 : Int) + 1) = 2 := by decide
  have e3 : IntKind.wrap .i64 ((2 : Int) + 1) = 3 := by decide
  have s0 : ∀ (K : Int → Option Int) (k : Nat), cmp_Or_int.l0 (m + 4) K (k + 1) 0 [a, b, c] 3 0 = if a ≠ 0 then some a else cmp_Or_int.l0 (m + 4) K k 0 [a, b, c] 3 1 := by
    intro K k
    rw [cmp_Or_int.l0]
    have e : IntKind.wrap .i64 (1 : Int) = 1 := by decide
    simp [e]
  have s1 : ∀ (K : Int → Option Int) (k : Nat), cmp_Or_int.l0 (m + 4) K (k + 1) 0 [a, b, c] 3 1 = if b ≠ 0 then some b else cmp_Or_int.l0 (m + 4) K k 0 [a, b, c] 3 2 := by
    intro K k
    rw [cmp_Or_int.l0]
    have e : IntKind.wrap .i64 (2 : Int) = 2 := by decide
    simp [e]
  have s2 : ∀ (K : Int → Option Int) (k : Nat), cmp_Or_int.l0 (m + 4) K (k + 1) 0 [a, b, c] 3 2 = if c ≠ 0 then some c else cmp_Or_int.l0 (m + 4) K k 0 [a, b, c] 3 3 := by
    intro K k
    rw [cmp_Or_int.l0]
    have e : IntKind.wrap .i64 (3 : Int) = 3 := by decide
    simp [e]
  have s3 : ∀ (K : Int → Option Int) (k : Nat), cmp_Or_int.l0 (m + 4) K (k + 1) 0 [a, b, c] 3 3 = K 0 := by
    intro K k
    rw [cmp_Or_int.l0]
    simp
  have h := s0 (fun y1 => some y1) (m + 3)
  have h1 := s1 (fun y1 => some y1) (m + 2)
  have h2 := s2 (fun y1 => some y1) (m + 1)
  have h3 := s3 (fun y1 => some y1) m
  have hF : cmp_Or_int.F (m + 4) [a, b, c] = cmp_Or_int.l0 (m + 4) (fun y1 => some y1) (m + 3 + 1) 0 [a, b, c] 3 0 := by
    unfold cmp_Or_int.F
    rfl
  rw [hF, h, h1, h2, h3]
  by_cases ha : a = 0
  · by_cases hb : b = 0
    · by_cases hc : c = 0 <;> simp [ha, hb, hc]
    · simp [ha, hb]
  · simp [ha]
theorem compareDoors_eq {n : Nat} (hn : 4 ≤ n) (p q : Int × Int × Int) : ∃ r, impl_compareDoors.F n p.1 p.2.1 p.2.2 q.1 q.2.1 q.2.2 = some r ∧ (decide (r ≥ 0) = !lex3 p q) := by
  obtain ⟨a, b, c⟩ := p
  obtain ⟨d, e, f⟩ := q
  refine ⟨_, by simp only [impl_compareDoors.F, compare_eq, Option.bind_some, or3_eq hn]; rfl, ?_⟩
  simp only [lex3, cmpI]
  by_cases h1 : a < d
  · simp [h1]
  · by_cases h2 : a > d
    · have : ¬ a = d := by omega
      simp [h1, h2, this]
    · have h3 : a = d := by omega
      subst h3
      by_cases h4 : b < e
      · simp [h4]
      · by_cases h5 : b > e
        · have : ¬ b = e := by omega
          simp [h4, h5, this]
        · have h6 : b = e := by omega
          subst h6
          by_cases h7 : c < f
          · simp [h7]
          · by_cases h8 : c > f
            · simp [h7, h8]
            · simp [h7, h8]

/-- Both loops over the doors go on or stop together. -/
theorem doors_loop {n : Nat} (hn : 4 ≤ n) {N : Int} (h1 : 1 ≤ N) (h2 : N ≤ 12) {ds : List (Int × Int × Int)} (hd : ds.length ≤ 30) {ks : List Int} {K K' : Int → List (Int × Int × Int) → List Int → Option Bool} :
    ∀ (j i : Nat), ds.length - i < j → ∃ b : Bool, spec_l2Maze.l0 n K j N ds ks i = (if b = true then K N ds ks else some false) ∧ impl_IsMaze.l0 n K' j N ds ks ds.length i = (if b = true then K' N ds ks else some false)
  | 0, i, h => by omega
  | j + 1, i, h => by
    rw [spec_l2Maze.l0, impl_IsMaze.l0]
    by_cases c : (i : Int) < (ds.length : Int)
    · have k1 : decide ((i : Int) < (ds.length : Int)) = true := by simpa using c
      have k2 : 0 ≤ (i : Int) ∧ (i : Int) < (ds.length : Int) := ⟨by omega, c⟩
      have wi : IntKind.wrap .i64 ((i : Int) + 1) = ((i + 1 : Nat) : Int) := by rw [w64s (by omega) (by omega)]; omega
      have wN : IntKind.wrap .i64 (N - 1) = N - 1 := w64s (by omega) (by omega)
      simp only [if_pos k1, if_pos k2, l1In_eq, Option.bind_some, l2Set_eq, isSet_eq, wi, wN]
      have ih := doors_loop hn h1 h2 hd (ks := ks) (K := K) (K' := K') j (i + 1) (by omega)
      generalize ds.getD (i : Int).toNat (0, 0, 0) = p
      by_cases c1 : 0 ≤ p.1 ∧ p.1 ≤ N - 1
      · have wp : IntKind.wrap .i64 (p.1 + 1) = p.1 + 1 := w64s (by omega) (by omega)
        have d1 : decide (0 ≤ p.1) = true := by simpa using c1.1
        have d2 : decide (p.1 ≤ N - 1) = true := by simpa using c1.2
        have d3 : decide (p.1 < 0) = false := by simpa using c1.1
        simp only [wp, d1, d2, d3, Bool.and_self, Bool.not_true, Bool.false_eq_true, if_false]
        by_cases c2 : p.1 + 1 ≤ p.2.1 ∧ p.2.1 ≤ N - 1
        · have f1 : decide (p.1 + 1 ≤ p.2.1) = true := by simpa using c2.1
          have f2 : decide (p.2.1 ≤ N - 1) = true := by simpa using c2.2
          have f3 : decide (p.1 ≥ p.2.1) = false := by simp; omega
          have f4 : decide (p.2.1 ≥ N) = false := by simp; omega
          simp only [f1, f2, f3, f4, Bool.and_self, Bool.not_true, Bool.false_eq_true, if_false]
          cases c3 : setB p.2.2 with
          | false => exact ⟨false, by simp, by simp⟩
          | true =>
            simp only [Bool.not_true, Bool.false_eq_true, if_false]
            by_cases c4 : (i : Int) > 0
            · have g1 : decide ((i : Int) > 0) = true := by simpa using c4
              have g2 : IntKind.wrap .i64 ((i : Int) - 1) = (i : Int) - 1 := w64s (by omega) (by omega)
              have g3 : 0 ≤ (i : Int) - 1 ∧ (i : Int) - 1 < (ds.length : Int) := ⟨by omega, by omega⟩
              simp only [if_pos g1, g2, if_pos g3]
              generalize ds.getD ((i : Int) - 1).toNat (0, 0, 0) = q
              obtain ⟨r, hr1, hr2⟩ := compareDoors_eq hn q p
              simp only [l2Before_eq, hr1, Option.bind_some, hr2]
              cases c5 : lex3 q p with
              | true =>
                simp only [Bool.not_true, Bool.false_eq_true, if_false]
                exact ih
              | false => exact ⟨false, by simp, by simp⟩
            · have g1 : ¬ decide ((i : Int) > 0) = true := by simpa using c4
              simp only [if_neg g1]
              exact ih
        · refine ⟨false, ?_, ?_⟩
          · have f : (!(decide (p.1 + 1 ≤ p.2.1) && decide (p.2.1 ≤ N - 1))) = true := by simp; omega
            simp [f]
          · by_cases c6 : p.1 ≥ p.2.1
            · simp [c6]
            · have f4 : p.2.1 ≥ N := by omega
              simp [c6, f4]
      · refine ⟨false, ?_, ?_⟩
        · have f : (!(decide (0 ≤ p.1) && decide (p.1 ≤ N - 1))) = true := by simp; omega
          simp [f]
        · by_cases c7 : p.1 < 0
          · simp [c7]
          · by_cases c8 : p.1 ≥ p.2.1
            · simp [c7, c8]
            · have f4 : p.2.1 ≥ N := by omega
              simp [c7, c8, f4]
    · have k1 : ¬ decide ((i : Int) < (ds.length : Int)) = true := by simpa using c
      simp only [if_neg k1]
      exact ⟨true, rfl, rfl⟩

theorem keys_loop {n : Nat} {N : Int} {ds : List (Int × Int × Int)} {ks : List Int} (hk : (ks.length : Int) = N) (hN : N ≤ 12) {K : Unit → Option Bool} {K' : Unit → Option Int} :
    ∀ (j i : Nat), ks.length - i < j → ∃ b : Bool, spec_l2Maze.l2 n K j N ds ks i = (if b = true then K () else some false) ∧ ∃ m : Int, 0 ≤ m ∧ slices_IndexFunc_int_int_cIsMaze_1.l0 n K' j ks ks.length i = (if b = true then K' () else some m)
  | 0, i, h => by omega
  | j + 1, i, h => by
    rw [spec_l2Maze.l2, slices_IndexFunc_int_int_cIsMaze_1.l0]
    by_cases c : (i : Int) < (ks.length : Int)
    · have k1 : decide ((i : Int) < (ks.length : Int)) = true := by simpa using c
      have k1' : decide ((i : Int) < N) = true := by simp; omega
      have k2 : 0 ≤ (i : Int) ∧ (i : Int) < (ks.length : Int) := ⟨by omega, c⟩
      have wi : IntKind.wrap .i64 ((i : Int) + 1) = ((i + 1 : Nat) : Int) := by rw [w64s (by omega) (by omega)]; omega
      simp only [if_pos k1, if_pos k1', if_pos k2, wi, l2Set_eq, impl_IsMaze_1.F, isSet_eq, Option.bind_some]
      cases c3 : setB (ks.getD (i : Int).toNat 0) with
      | true =>
        simp only [Bool.not_true, Bool.false_eq_true, if_false]
        exact keys_loop hk hN j (i + 1) (by omega)
      | false => exact ⟨false, by simp, i, by omega, by simp⟩
    · have k1 : ¬ decide ((i : Int) < (ks.length : Int)) = true := by simpa using c
      have k1' : ¬ decide ((i : Int) < N) = true := by simp; omega
      simp only [if_neg k1, if_neg k1']
      exact ⟨true, rfl, 0, by omega, rfl⟩

/-- Both tell the same at every maze. -/
theorem isMaze_same {n : Nat} (hn : 40 ≤ n) (N : Int) (ds : List (Int × Int × Int)) (ks : List Int) : ∃ b : Bool, spec_l2Maze.F n N ds ks = some b ∧ impl_IsMaze.F n N ds ks = some b := by
  unfold spec_l2Maze.F impl_IsMaze.F
  simp only [l1In_eq, within_eq, Option.bind_some]
  cases hw : (decide (1 ≤ N) && decide (N ≤ 12)) with
  | false => exact ⟨false, by simp, by simp⟩
  | true =>
    have c1 : 1 ≤ N ∧ N ≤ 12 := by simpa using hw
    simp only [Bool.not_true, Bool.false_eq_true, if_false]
    cases hl : decide ((ds.length : Int) > 30) with
    | true => exact ⟨false, by simp, by simp⟩
    | false =>
      have c2 : ¬ (ds.length : Int) > 30 := by simpa using hl
      simp only [Bool.false_eq_true, if_false]
      cases hk : decide ((ks.length : Int) = N) with
      | false => exact ⟨false, by simp, by simp⟩
      | true =>
        have c3 : (ks.length : Int) = N := by simpa using hk
        simp only [Bool.not_true, Bool.false_eq_true, if_false]
        obtain ⟨b, h1, h2⟩ := doors_loop (n := n) (by omega) c1.1 c1.2 (ds := ds) (by omega) (ks := ks) (K := fun y6 y7 y8 => spec_l2Maze.l2 n (fun _ => some true) n y6 y7 y8 0)
          (K' := fun y4 y5 y6 => (slices_ContainsFunc_int_int_cIsMaze_1.F n y6).bind fun r7 => some (!r7)) n 0 (by omega)
        simp only [Int.natCast_zero] at h1 h2
        rw [h1, h2]
        cases b with
        | false => exact ⟨false, rfl, rfl⟩
        | true =>
          obtain ⟨b, k1, m, hm, k2⟩ := keys_loop (n := n) (ds := ds) c3 c1.2 (K := fun _ => some true) (K' := fun _ => some (-1)) n 0 (by omega)
          simp only [Int.natCast_zero] at k1 k2
          simp only [if_true, slices_ContainsFunc_int_int_cIsMaze_1.F, slices_IndexFunc_int_int_cIsMaze_1.F]
          rw [k1, k2]
          cases b with
          | false => exact ⟨false, rfl, by simp [hm]⟩
          | true => exact ⟨true, rfl, by simp⟩

end Go.Pv
