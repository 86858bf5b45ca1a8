/- The plain laws of a node less, least needs and joined mazes, printed in part by a program of mine (lawpv.py). -/
import Derived.Test.YtkledlpiilcagaaPvWithout
set_option linter.unusedVariables false
set_option linter.unusedSimpArgs false
set_option autoImplicit false
namespace Go.Pv
open Go Go.Fx Go.Pf

theorem lawWithoutNode (N : Int) (ds : List (Int × Int × Int)) (ks : List Int) (x : Int) (hd : ds.length ≤ maxLen) (hk : ks.length ≤ maxLen) : ∃ n, laws_FnExactWithoutNode.F n N ds ks x = some true := by
  refine ⟨2000000, ?_⟩
  unfold laws_FnExactWithoutNode.F
  obtain ⟨r, hr, hrr⟩ := szMaze_some 2000000 N ds ks hd hk
  rw [hr, Option.bind_some]
  by_cases c : r < 0
  · rw [if_pos (by simpa using c)]
  rw [if_neg (by simpa using c)]
  have hl : ds.length + ks.length ≤ 1048576 := hrr.resolve_left c
  have d1 : ds.length ≤ 1048576 := by omega
  have d2 : ks.length ≤ 1048576 := by omega
  have same : ∃ q : Int × List (Int × Int × Int) × List Int × Bool, (q.2.1.length ≤ 1048576 ∧ q.2.2.1.length ≤ 1048576) ∧ spec_WithoutNode.F 2000000 N ds ks x = some q ∧ impl_WithoutNode.F 2000000 N ds ks x = some q := WithoutNode_same (n := 2000000) (N := N) (ds := ds) (ks := ks) (by omega) d1 d2 x
  obtain ⟨q, ⟨hq, hq2⟩, h1, h2⟩ := same
  have m1 := markMaze_eq (n := 2000000) (N := N) (a := 1) d1 d2 (by omega) (by omega) (by omega)
  have z1 := ndec_neg (a := 1 + 3 * (ds.length : Int) + (ks.length : Int)) (by omega)
  have m3 := markMaze_eq (n := 2000000) (N := q.1) (a := 1) hq hq2 (by omega) (by omega) (by omega)
  have m4 := heldMaze_eq (n := 2000000) (N := q.1) (a := 1) (k := q.2.1.length) (k2 := q.2.2.1.length) hq hq2 (by omega) (by omega) (by omega)
  have z2 := ndec_neg (a := 1 + 3 * (q.2.1.length : Int) + (q.2.2.1.length : Int)) (by omega)
  simp only [toMaze_L d1 d2, Option.bind_some, h1, h2, eqMaze_L d1 d2, m1, z1, eqMaze_L hq hq2, m3, m4, z2, beqB_self, neqI_self, decide_true, Bool.not_true, Bool.false_eq_true, if_false]

theorem lawLeastNeeds (N : Int) (ds : List (Int × Int × Int)) (ks : List Int) (x : Int) (y : Int) (hd : ds.length ≤ maxLen) (hk : ks.length ≤ maxLen) : ∃ n, laws_FnExactLeastNeeds.F n N ds ks x y = some true := by
  refine ⟨2000000, ?_⟩
  unfold laws_FnExactLeastNeeds.F
  obtain ⟨r, hr, hrr⟩ := szMaze_some 2000000 N ds ks hd hk
  rw [hr, Option.bind_some]
  by_cases c : r < 0
  · rw [if_pos (by simpa using c)]
  rw [if_neg (by simpa using c)]
  have hl : ds.length + ks.length ≤ 1048576 := hrr.resolve_left c
  have d1 : ds.length ≤ 1048576 := by omega
  have d2 : ks.length ≤ 1048576 := by omega
  have same : ∃ q : List Int × Bool, q.1.length ≤ 1048576 ∧ spec_LeastNeeds.F 2000000 N ds ks x y = some q ∧ impl_LeastNeeds.F 2000000 N ds ks x y = some q := LeastNeeds_same (n := 2000000) (N := N) (ds := ds) (ks := ks) (by omega) x y
  obtain ⟨q, hq, h1, h2⟩ := same
  have m1 := markMaze_eq (n := 2000000) (N := N) (a := 1) d1 d2 (by omega) (by omega) (by omega)
  have z1 := ndec_neg (a := 1 + 3 * (ds.length : Int) + (ks.length : Int)) (by omega)
  have m3 := markIntS_eq (n := 2000000) (xs := q.1) (a := 1) hq (by omega) (by omega) (by omega)
  have m4 := heldIntS_eq (n := 2000000) (a := 1) (k := q.1.length) hq (by omega) (by omega) (by omega)
  have z2 := ndec_neg (a := 1 + (q.1.length : Int)) (by omega)
  simp only [toMaze_L d1 d2, Option.bind_some, h1, h2, eqMaze_L d1 d2, m1, z1, eqIntS_L hq, m3, m4, z2, beqB_self, neqI_self, decide_true, Bool.not_true, Bool.false_eq_true, if_false]

theorem lawJoinMazes (N : Int) (ds : List (Int × Int × Int)) (ks : List Int) (M : Int) (es : List (Int × Int × Int)) (js : List Int) (hd : ds.length ≤ maxLen) (hk : ks.length ≤ maxLen) (he : es.length ≤ maxLen) (hj : js.length ≤ maxLen) : ∃ n, laws_FnExactJoinMazes.F n N ds ks M es js = some true := by
  refine ⟨2000000, ?_⟩
  unfold laws_FnExactJoinMazes.F
  obtain ⟨r, hr, hrr⟩ := szMaze_left 2000000 N 1048576 ds ks hd hk (by omega) (by omega)
  rw [hr, Option.bind_some]
  by_cases c : r < 0
  · rw [if_pos (by simpa using c)]
  rw [if_neg (by simpa using c)]
  obtain ⟨hr1, hr2⟩ := hrr.resolve_left c
  obtain ⟨r', hr', hrr'⟩ := szMaze_left 2000000 M r es js he hj (by omega) (by omega)
  rw [hr', Option.bind_some]
  by_cases c' : r' < 0
  · rw [if_pos (by simpa using c')]
  rw [if_neg (by simpa using c')]
  obtain ⟨hr3, hr4⟩ := hrr'.resolve_left c'
  have d1 : ds.length ≤ 1048576 := by omega
  have d2 : ks.length ≤ 1048576 := by omega
  have d3 : es.length ≤ 1048576 := by omega
  have d4 : js.length ≤ 1048576 := by omega
  obtain ⟨q, ⟨hq, hq2⟩, h1, h2⟩ := JoinMazes_same (n := 2000000) (N := N) (ds := ds) (ks := ks) (M := M) (es := es) (js := js) (by omega)
  have m1 := markMaze_eq (n := 2000000) (N := N) (a := 1) d1 d2 (by omega) (by omega) (by omega)
  by_cases big : 1 + 3 * (ds.length : Int) + (ks.length : Int) ≤ 4194304
  · have m2 := markMaze_eqB (n := 2000000) (N := M) (a := 1 + 3 * (ds.length : Int) + (ks.length : Int)) d3 d4 (by omega) (by omega) (by omega)
    have z1 := ndec_neg (a := 1 + 3 * (ds.length : Int) + (ks.length : Int) + 3 * (es.length : Int) + (js.length : Int)) (by omega)
    have m3 := markMaze_eq (n := 2000000) (N := q.1) (a := 1) hq hq2 (by omega) (by omega) (by omega)
    have m4 := heldMaze_eq (n := 2000000) (N := q.1) (a := 1) (k := q.2.1.length) (k2 := q.2.2.1.length) hq hq2 (by omega) (by omega) (by omega)
    have z2 := ndec_neg (a := 1 + 3 * (q.2.1.length : Int) + (q.2.2.1.length : Int)) (by omega)
    simp only [toMaze_L d1 d2, toMaze_L d3 d4, Option.bind_some, h1, h2, eqMaze_L d1 d2, eqMaze_L d3 d4, m1, m2, z1, eqMaze_L hq hq2, m3, m4, z2, beqB_self, neqI_self, decide_true, Bool.not_true, Bool.false_eq_true, if_false]
  · omega
end Go.Pv
