/- The plain laws of reaching and rounds, printed in part by a program of mine (lawpv.py). -/
import Derived.Test.YtnnonephkmikmaaPvL3
set_option linter.unusedVariables false
set_option linter.unusedSimpArgs false
set_option autoImplicit false
namespace Go.Pv
open Go Go.Fx Go.Pf

theorem lawReachWith (N : Int) (ds : List (Int × Int × Int)) (ks : List Int) (x : Int) (s : Int) (hd : ds.length ≤ maxLen) (hk : ks.length ≤ maxLen) : ∃ n, laws_FnExactReachWith.F n N ds ks x s = some true := by
  refine ⟨2000000, ?_⟩
  unfold laws_FnExactReachWith.F
  obtain ⟨r, hr, hrr⟩ := szMaze_some 2000000 N ds ks hd hk
  rw [hr, Option.bind_some]
  by_cases c : r < 0
  · rw [if_pos (by simpa using c)]
  rw [if_neg (by simpa using c)]
  have hl : ds.length + ks.length ≤ 1048576 := hrr.resolve_left c
  have d1 : ds.length ≤ 1048576 := by omega
  have d2 : ks.length ≤ 1048576 := by omega
  have same : ∃ q : List Int × Bool, q.1.length ≤ 1048576 ∧ spec_ReachWith.F 2000000 N ds ks x s = some q ∧ impl_ReachWith.F 2000000 N ds ks x s = some q := ReachWith_same (n := 2000000) (N := N) (ds := ds) (ks := ks) (by omega) x s
  obtain ⟨q, hq, h1, h2⟩ := same
  have m1 := markMaze_eq (n := 2000000) (N := N) (a := 1) d1 d2 (by omega) (by omega) (by omega)
  have z1 := ndec_neg (a := 1 + 3 * (ds.length : Int) + (ks.length : Int)) (by omega)
  have m3 := markIntS_eq (n := 2000000) (xs := q.1) (a := 1) hq (by omega) (by omega) (by omega)
  have m4 := heldIntS_eq (n := 2000000) (a := 1) (k := q.1.length) hq (by omega) (by omega) (by omega)
  have z2 := ndec_neg (a := 1 + (q.1.length : Int)) (by omega)
  simp only [toMaze_L d1 d2, Option.bind_some, h1, h2, eqMaze_L d1 d2, m1, z1, eqIntS_L hq, m3, m4, z2, beqB_self, neqI_self, decide_true, Bool.not_true, Bool.false_eq_true, if_false]

theorem lawCanWin (N : Int) (ds : List (Int × Int × Int)) (ks : List Int) (s : Int) (hd : ds.length ≤ maxLen) (hk : ks.length ≤ maxLen) : ∃ n, laws_FnExactCanWin.F n N ds ks s = some true := by
  refine ⟨2000000, ?_⟩
  unfold laws_FnExactCanWin.F
  obtain ⟨r, hr, hrr⟩ := szMaze_some 2000000 N ds ks hd hk
  rw [hr, Option.bind_some]
  by_cases c : r < 0
  · rw [if_pos (by simpa using c)]
  rw [if_neg (by simpa using c)]
  have hl : ds.length + ks.length ≤ 1048576 := hrr.resolve_left c
  have d1 : ds.length ≤ 1048576 := by omega
  have d2 : ks.length ≤ 1048576 := by omega
  have same : ∃ q, spec_CanWin.F 2000000 N ds ks s = some q ∧ impl_CanWin.F 2000000 N ds ks s = some q := by
    obtain ⟨q, hq⟩ := CanWin_some (n := 2000000) (N := N) (ds := ds) (ks := ks) (by omega) s
    exact ⟨q, by rw [CanWin_same (by omega)]; exact hq, hq⟩
  obtain ⟨q, h1, h2⟩ := same
  simp only [toMaze_L d1 d2, Option.bind_some, h1, h2, eqMaze_L d1 d2, beqB_self, neqI_self, decide_true, Bool.not_true, Bool.false_eq_true, if_false]

theorem lawHelpfulColours (N : Int) (ds : List (Int × Int × Int)) (ks : List Int) (s : Int) (hd : ds.length ≤ maxLen) (hk : ks.length ≤ maxLen) : ∃ n, laws_FnExactHelpfulColours.F n N ds ks s = some true := by
  refine ⟨2000000, ?_⟩
  unfold laws_FnExactHelpfulColours.F
  obtain ⟨r, hr, hrr⟩ := szMaze_some 2000000 N ds ks hd hk
  rw [hr, Option.bind_some]
  by_cases c : r < 0
  · rw [if_pos (by simpa using c)]
  rw [if_neg (by simpa using c)]
  have hl : ds.length + ks.length ≤ 1048576 := hrr.resolve_left c
  have d1 : ds.length ≤ 1048576 := by omega
  have d2 : ks.length ≤ 1048576 := by omega
  have same : ∃ q, spec_HelpfulColours.F 2000000 N ds ks s = some q ∧ impl_HelpfulColours.F 2000000 N ds ks s = some q := by
    obtain ⟨q, hq⟩ := HelpfulColours_some (n := 2000000) (N := N) (ds := ds) (ks := ks) (by omega) s
    exact ⟨q, by rw [HelpfulColours_same (by omega)]; exact hq, hq⟩
  obtain ⟨q, h1, h2⟩ := same
  simp only [toMaze_L d1 d2, Option.bind_some, h1, h2, eqMaze_L d1 d2, beqB_self, neqI_self, decide_true, Bool.not_true, Bool.false_eq_true, if_false]

theorem lawWinRound (N : Int) (ds : List (Int × Int × Int)) (ks : List Int) (s : Int) (hd : ds.length ≤ maxLen) (hk : ks.length ≤ maxLen) : ∃ n, laws_FnExactWinRound.F n N ds ks s = some true := by
  refine ⟨2000000, ?_⟩
  unfold laws_FnExactWinRound.F
  obtain ⟨r, hr, hrr⟩ := szMaze_some 2000000 N ds ks hd hk
  rw [hr, Option.bind_some]
  by_cases c : r < 0
  · rw [if_pos (by simpa using c)]
  rw [if_neg (by simpa using c)]
  have hl : ds.length + ks.length ≤ 1048576 := hrr.resolve_left c
  have d1 : ds.length ≤ 1048576 := by omega
  have d2 : ks.length ≤ 1048576 := by omega
  have same : ∃ q, spec_WinRound.F 2000000 N ds ks s = some q ∧ impl_WinRound.F 2000000 N ds ks s = some q := by
    obtain ⟨q, hq⟩ := WinRound_some (n := 2000000) (N := N) (ds := ds) (ks := ks) (by omega) s
    exact ⟨q, by rw [WinRound_same (by omega)]; exact hq, hq⟩
  obtain ⟨q, h1, h2⟩ := same
  simp only [toMaze_L d1 d2, Option.bind_some, h1, h2, eqMaze_L d1 d2, beqB_self, neqI_self, decide_true, Bool.not_true, Bool.false_eq_true, if_false]

theorem lawRoundsOf (N : Int) (ds : List (Int × Int × Int)) (ks : List Int) (s : Int) (hd : ds.length ≤ maxLen) (hk : ks.length ≤ maxLen) : ∃ n, laws_FnExactRoundsOf.F n N ds ks s = some true := by
  refine ⟨2000000, ?_⟩
  unfold laws_FnExactRoundsOf.F
  obtain ⟨r, hr, hrr⟩ := szMaze_some 2000000 N ds ks hd hk
  rw [hr, Option.bind_some]
  by_cases c : r < 0
  · rw [if_pos (by simpa using c)]
  rw [if_neg (by simpa using c)]
  have hl : ds.length + ks.length ≤ 1048576 := hrr.resolve_left c
  have d1 : ds.length ≤ 1048576 := by omega
  have d2 : ks.length ≤ 1048576 := by omega
  have same : ∃ q : List Int × Bool, q.1.length ≤ 1048576 ∧ spec_RoundsOf.F 2000000 N ds ks s = some q ∧ impl_RoundsOf.F 2000000 N ds ks s = some q := by
    obtain ⟨q, hq, hl2⟩ := RoundsOf_some (n := 2000000) (N := N) (ds := ds) (ks := ks) (by omega) s
    exact ⟨q, hl2, by rw [RoundsOf_same (by omega)]; exact hq, hq⟩
  obtain ⟨q, hq, h1, h2⟩ := same
  have m1 := markMaze_eq (n := 2000000) (N := N) (a := 1) d1 d2 (by omega) (by omega) (by omega)
  have z1 := ndec_neg (a := 1 + 3 * (ds.length : Int) + (ks.length : Int)) (by omega)
  have m3 := markIntS_eq (n := 2000000) (xs := q.1) (a := 1) hq (by omega) (by omega) (by omega)
  have m4 := heldIntS_eq (n := 2000000) (a := 1) (k := q.1.length) hq (by omega) (by omega) (by omega)
  have z2 := ndec_neg (a := 1 + (q.1.length : Int)) (by omega)
  simp only [toMaze_L d1 d2, Option.bind_some, h1, h2, eqMaze_L d1 d2, m1, z1, eqIntS_L hq, m3, m4, z2, beqB_self, neqI_self, decide_true, Bool.not_true, Bool.false_eq_true, if_false]

theorem lawGainAtLast (N : Int) (ds : List (Int × Int × Int)) (ks : List Int) (s : Int) (hd : ds.length ≤ maxLen) (hk : ks.length ≤ maxLen) : ∃ n, laws_FnExactGainAtLast.F n N ds ks s = some true := by
  refine ⟨2000000, ?_⟩
  unfold laws_FnExactGainAtLast.F
  obtain ⟨r, hr, hrr⟩ := szMaze_some 2000000 N ds ks hd hk
  rw [hr, Option.bind_some]
  by_cases c : r < 0
  · rw [if_pos (by simpa using c)]
  rw [if_neg (by simpa using c)]
  have hl : ds.length + ks.length ≤ 1048576 := hrr.resolve_left c
  have d1 : ds.length ≤ 1048576 := by omega
  have d2 : ks.length ≤ 1048576 := by omega
  have same : ∃ q : Int × List Int × Bool, q.2.1.length ≤ 1048576 ∧ spec_GainAtLast.F 2000000 N ds ks s = some q ∧ impl_GainAtLast.F 2000000 N ds ks s = some q := by
    obtain ⟨q, hq, hl2⟩ := GainAtLast_some (n := 2000000) (N := N) (ds := ds) (ks := ks) (by omega) s
    exact ⟨q, hl2, by rw [GainAtLast_same (by omega)]; exact hq, hq⟩
  obtain ⟨q, hq, h1, h2⟩ := same
  have m1 := markMaze_eq (n := 2000000) (N := N) (a := 1) d1 d2 (by omega) (by omega) (by omega)
  have z1 := ndec_neg (a := 1 + 3 * (ds.length : Int) + (ks.length : Int)) (by omega)
  have m3 := markIntS_eq (n := 2000000) (xs := q.2.1) (a := 1) hq (by omega) (by omega) (by omega)
  have m4 := heldIntS_eq (n := 2000000) (a := 1) (k := q.2.1.length) hq (by omega) (by omega) (by omega)
  have z2 := ndec_neg (a := 1 + (q.2.1.length : Int)) (by omega)
  simp only [toMaze_L d1 d2, Option.bind_some, h1, h2, eqMaze_L d1 d2, m1, z1, eqIntS_L hq, m3, m4, z2, beqB_self, neqI_self, decide_true, Bool.not_true, Bool.false_eq_true, if_false]

theorem lawNodeRounds (N : Int) (ds : List (Int × Int × Int)) (ks : List Int) (s : Int) (hd : ds.length ≤ maxLen) (hk : ks.length ≤ maxLen) : ∃ n, laws_FnExactNodeRounds.F n N ds ks s = some true := by
  refine ⟨2000000, ?_⟩
  unfold laws_FnExactNodeRounds.F
  obtain ⟨r, hr, hrr⟩ := szMaze_some 2000000 N ds ks hd hk
  rw [hr, Option.bind_some]
  by_cases c : r < 0
  · rw [if_pos (by simpa using c)]
  rw [if_neg (by simpa using c)]
  have hl : ds.length + ks.length ≤ 1048576 := hrr.resolve_left c
  have d1 : ds.length ≤ 1048576 := by omega
  have d2 : ks.length ≤ 1048576 := by omega
  have same : ∃ q : List Int × Bool, q.1.length ≤ 1048576 ∧ spec_NodeRounds.F 2000000 N ds ks s = some q ∧ impl_NodeRounds.F 2000000 N ds ks s = some q := by
    obtain ⟨q, hq, hl2⟩ := NodeRounds_some (n := 2000000) (N := N) (ds := ds) (ks := ks) (by omega) s
    exact ⟨q, hl2, by rw [NodeRounds_same (by omega)]; exact hq, hq⟩
  obtain ⟨q, hq, h1, h2⟩ := same
  have m1 := markMaze_eq (n := 2000000) (N := N) (a := 1) d1 d2 (by omega) (by omega) (by omega)
  have z1 := ndec_neg (a := 1 + 3 * (ds.length : Int) + (ks.length : Int)) (by omega)
  have m3 := markIntS_eq (n := 2000000) (xs := q.1) (a := 1) hq (by omega) (by omega) (by omega)
  have m4 := heldIntS_eq (n := 2000000) (a := 1) (k := q.1.length) hq (by omega) (by omega) (by omega)
  have z2 := ndec_neg (a := 1 + (q.1.length : Int)) (by omega)
  simp only [toMaze_L d1 d2, Option.bind_some, h1, h2, eqMaze_L d1 d2, m1, z1, eqIntS_L hq, m3, m4, z2, beqB_self, neqI_self, decide_true, Bool.not_true, Bool.false_eq_true, if_false]
end Go.Pv
