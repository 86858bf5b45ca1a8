/- The plain law of mazes without doors, keys or a colour. -/
import Derived.Test.YtoppnaekfjjaaaaPvLess
import Derived.Test.YtoppnaekfjjaaaaPvSame
set_option linter.unusedVariables false
set_option linter.unusedSimpArgs false
set_option autoImplicit false
namespace Go.Pv
open Go Go.Fx Go.Pf

section
variable {n : Nat} {N : Int} {ds : List (Int × Int × Int)} {ks : List Int}
theorem drawNode_ok (hn : 100 ≤ n) {cd : List Int} (hb : Bytes cd) : ∃ (N : Int) (ds : List (Int × Int × Int)) (ks : List Int) (x : Int), spec_DrawWithoutNode.F n cd = some (N, ds, ks, x) ∧ ds.length ≤ 40 ∧ ks.length ≤ 40 := by
  unfold spec_DrawWithoutNode.F
  obtain ⟨a1, s1, ⟨N, ds, ks⟩, h1, h2, h3, h4⟩ := maze_ok (s := 0) hn hb (Int.le_refl 0) (by omega)
  obtain ⟨a2, s2, x, h5, h6, h7, _⟩ := nodeOf_ok (n := n) (s := s1) hb (a := a1) (by omega) (by omega) N ds ks
  rw [h1, Option.bind_some]
  simp only [h5, Option.bind_some]
  exact ⟨N, ds, ks, x, rfl, h4.1, h4.2⟩
theorem drawColour_ok (hn : 100 ≤ n) {cd : List Int} (hb : Bytes cd) : ∃ (N : Int) (ds : List (Int × Int × Int)) (ks : List Int) (x : Int), spec_DrawWithoutColour.F n cd = some (N, ds, ks, x) ∧ ds.length ≤ 40 ∧ ks.length ≤ 40 := by
  unfold spec_DrawWithoutColour.F
  obtain ⟨a1, s1, ⟨N, ds, ks⟩, h1, h2, h3, h4⟩ := maze_ok (s := 0) hn hb (Int.le_refl 0) (by omega)
  obtain ⟨a2, s2, v2, h5, h6, h7, h8⟩ := pick_ok (n := n) (s := s1) hb (a := a1) (by omega) (by omega) 24
  rw [h1, Option.bind_some]
  simp only [h5, Option.bind_some]
  have hv := h8.2.1 (by omega)
  have ht : 0 ≤ Int.tdiv v2 11 ∧ Int.tdiv v2 11 ≤ 2 := by
    rw [Int.tdiv_eq_ediv_of_nonneg h8.1]
    omega
  rw [w64s ht.1 (by omega), w64s (by omega) (by omega)]
  have g : 0 ≤ 6 + Int.tdiv v2 11 ∧ 6 + Int.tdiv v2 11 ≤ (([(0 : Int), (1 : Int), (2 : Int), (3 : Int), (4 : Int), (5 : Int), (6 : Int), (-1 : Int)] : List Int).length : Int) := by
    simp only [List.length_cons, List.length_nil]
    omega
  rw [if_pos g]
  have hne : ([(0 : Int), (1 : Int), (2 : Int), (3 : Int), (4 : Int), (5 : Int), (6 : Int), (-1 : Int)] : List Int).take ((6 + Int.tdiv v2 11).toNat) ≠ [] := by
    intro e
    have := congrArg List.length e
    simp only [List.length_take, List.length_cons, List.length_nil] at this
    omega
  obtain ⟨a3, s3, v3, h9, h10, h11, h12⟩ := among_ok (n := n) (s := s2) hb (a := a2) (by omega) (by omega) hne
  rw [h9, Option.bind_some]
  exact ⟨N, ds, ks, v3, rfl, h4.1, h4.2⟩

theorem memL_len (S : Nat) : (memL S).length ≤ 1048576 := Nat.le_trans (memL_length S) (by omega)
/-- The first part: what was won before a colour was lost. -/
theorem without_c18 (hn : 1048578 ≤ n) {x : Int} (hd : ds.length ≤ 40) (hk : ks.length ≤ 40) {q1 q2 : RM} (h1 : impl_WithoutNode.F n N ds ks x = some q1) (h2 : impl_WithoutKeys.F n N ds ks x = some q2) :
    laws_FnWithout.c18 n N ds ks x q1.1 q1.2.1 q1.2.2.1 q1.2.2.2 q2.1 q2.2.1 q2.2.2.1 = some true := by
  rw [WithoutNode_impl hn (by omega) (by omega)] at h1
  rw [WithoutKeys_impl hn (by omega) (by omega)] at h2
  unfold laws_FnWithout.c18
  split at h1
  · rename_i c
    rw [if_pos c] at h2
    simp only [Bool.and_eq_true, decide_eq_true_eq, inB] at c
    obtain ⟨h, hx⟩ := c
    simp only [Option.some.injEq] at h1 h2
    subst h1 h2
    have L1 := less_filter h (fun d => !nodeP x d)
    have L2 := less_put h x.toNat
    have g1 := gain_val (n := n) (s := 0) (by omega) L1.le (by decide)
    have g2 := gain_val (n := n) (s := 0) (by omega) L2.le (by decide)
    have g3 := gain_val (n := n) (s := 0) (by omega) h (by decide)
    simp only [Int.natCast_zero] at g1 g2 g3
    simp only [Bool.not_true, Bool.false_eq_true, if_false, g1, g2, g3, Option.bind_some]
    obtain ⟨a1, a2, a3, a4⟩ := gain_less L1
    obtain ⟨b1, b2, b3, b4⟩ := gain_less L2
    have e1 := sets_and a2 a3 a1
    have e2 := sets_and b2 b3 b1
    have hdn := doors_none (n := n) (by omega) L1.le hx (fun d hd => by
      have := (List.mem_filter.1 hd).2
      simp only [nodeP, Bool.not_eq_true', Bool.or_eq_false_iff, decide_eq_false_iff_not] at this
      exact this)
    have hkl := h.kl
    have k1 : 0 ≤ x ∧ x < ((ks.set x.toNat 0).length : Int) := by
      rw [List.length_set]; omega
    have k2 : (ks.set x.toNat 0).getD x.toNat 0 = 0 := by rw [getD_set0, if_pos rfl]
    unfold laws_FnWithout.c23
    simp only [hdn, Option.bind_some, if_true, e1, e2, vWithin_true hn (memL_len _) (memL_len _) a4, vWithin_true hn (memL_len _) (memL_len _) b4, if_pos k1, k2, List.length_nil, Int.natCast_zero, decide_true]
  · rename_i c
    simp only [Option.some.injEq] at h1
    subst h1
    simp
open Classical in
theorem lawWithout (cd : List Int) (hb : ∀ x ∈ cd, (Lit.int .u8 x).wf = true) : ∃ n, laws_FnWithout.F n cd = some true := by
  refine ⟨2000000, ?_⟩
  have hb' := bytes_of hb
  unfold laws_FnWithout.F laws_vBig.F
  rw [Option.bind_some]
  by_cases c : (cd.length : Int) > 65536
  · rw [if_pos (by simpa using c)]
  rw [if_neg (by simpa using c)]
  obtain ⟨N, ds, ks, x, h0, hd, hk⟩ := drawNode_ok (n := 2000000) (by omega) hb'
  obtain ⟨q1, _, h1, h2⟩ := WithoutNode_same (n := 2000000) (N := N) (ds := ds) (ks := ks) (by omega) (by omega) (by omega) x
  obtain ⟨q2, hq2, h3, h4⟩ : ∃ q : RM, (q.2.1.length ≤ 1048576 ∧ q.2.2.1.length ≤ 1048576) ∧ spec_WithoutKeys.F 2000000 N ds ks x = some q ∧ impl_WithoutKeys.F 2000000 N ds ks x = some q := by
    rw [WithoutKeys_spec (by omega) (by omega) (by omega), WithoutKeys_impl (by omega) (by omega) (by omega)]
    refine ⟨_, ?_, rfl, rfl⟩
    split
    · exact ⟨by show ds.length ≤ 1048576; omega, by show (ks.set _ _).length ≤ 1048576; rw [List.length_set]; omega⟩
    · exact ⟨by simp, by simp⟩
  obtain ⟨r, hr, hrb⟩ := vCut_ok (n := 2000000) hb' (by omega) (x := 1) (by omega)
  obtain ⟨M, es, js, y, h5, hd2, hk2⟩ := drawColour_ok (n := 2000000) (by omega) hrb
  obtain ⟨q3, hq3, h6, h7⟩ := WithoutColour_same (n := 2000000) (N := M) (ds := es) (ks := js) (by omega) (by omega) (by omega) y
  have hq1 : q1.2.1.length ≤ 1048576 ∧ q1.2.2.1.length ≤ 1048576 := by
    obtain ⟨q, hq, e1, e2⟩ := WithoutNode_same (n := 2000000) (N := N) (ds := ds) (ks := ks) (by omega) (by omega) (by omega) x
    rw [h1] at e1
    cases e1
    exact hq
  have hok : q1.2.2.2 = q2.2.2.2 := by
    rw [WithoutNode_impl (by omega) (by omega) (by omega)] at h2
    rw [WithoutKeys_impl (by omega) (by omega) (by omega)] at h4
    split at h2
    · rename_i c2
      rw [if_pos c2] at h4
      cases h2; cases h4; rfl
    · rename_i c2
      rw [if_neg c2] at h4
      cases h2; cases h4; rfl
  have last := without_c18 (n := 2000000) (by omega) hd hk h2 h4
  simp only [h0, Option.bind_some, h1, h2]
  unfold laws_FnWithout.c6
  simp only [h3, h4, hr, h5, h7, Option.bind_some]
  unfold laws_FnWithout.c10
  have v1 := vMaze_self (n := 2000000) (N := q1.1) (by omega) hq1.1 hq1.2
  have v2 := vMaze_self (n := 2000000) (N := q2.1) (by omega) hq2.1 hq2.2
  have v3 := vMaze_self (n := 2000000) (N := q3.1) (by omega) hq3.1 hq3.2
  simp only [h6, Option.bind_some, beqB_self, Bool.false_eq_true, if_false, v1, v2, v3, Bool.not_true, hok]
  rw [hok] at last
  unfold laws_FnWithout.c13
  rcases WithoutColour_impl (n := 2000000) (N := M) (ds := es) (ks := js) (by omega) (by omega) (by omega) y with ⟨o, g0, g1, g2, g3, g4, g5⟩ | g5
  · rw [h7] at g5
    simp only [Option.some.injEq] at g5
    subst g5
    obtain ⟨L, hlack⟩ := less_col g0 g1 g2 g3 g4
    have e1 := gain_val (n := 2000000) (s := 0) (by omega) L.le (by decide)
    have e2 := gain_val (n := 2000000) (s := 0) (by omega) g0 (by decide)
    simp only [Int.natCast_zero] at e1 e2
    obtain ⟨a1, a2, a3, a4⟩ := gain_less L
    have e3 := sets_and a2 a3 a1
    have p6 : (2 : Nat) ^ 6 = 64 := by decide
    have p63 : (2 : Nat) ^ 63 = 9223372036854775808 := by decide
    have e4 : decide (bitAnd .i64 (shR .i64 ((lastN es o 0 : Nat) : Int) y) 1 = 1) = false := by
      have ey : y = ((y.toNat : Nat) : Int) := by omega
      rw [ey, bit_one (by omega) (by omega)]
      exact lastN_lacks L.le hlack _ 0 (Nat.le_refl _) (by decide) (by simp)
    have e5 : impl_IsMaze.F 2000000 M es o = some true := by
      rw [IsMaze_val (by omega)]
      congr 1
      exact decide_eq_true L.le
    simp only [if_true, e1, e2, Option.bind_some, Bool.not_true, Bool.false_eq_true, if_false, e3, decide_true, if_neg (show ¬ y < 0 by omega), e4, vWithin_true (n := 2000000) (by omega) (memL_len _) (memL_len _) a4, e5]
    exact last
  · rw [h7] at g5
    simp only [Option.some.injEq] at g5
    subst g5
    simp only [Bool.false_eq_true, if_false]
    exact last
end
end Go.Pv
