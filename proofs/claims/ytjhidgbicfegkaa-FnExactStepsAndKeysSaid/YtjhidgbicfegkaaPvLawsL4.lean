/- The plain laws of fewest steps, printed in part by a program of mine (lawpv.py). -/
import Derived.Test.YtjhidgbicfegkaaPvL4B
import Derived.Test.YtjhidgbicfegkaaPvMark
set_option linter.unusedVariables false
set_option linter.unusedSimpArgs false
set_option autoImplicit false
namespace Go.Pv
open Go Go.Fx Go.Pf

theorem lawStatesOf (N : Int) (ds : List (Int × Int × Int)) (ks : List Int) (hd : ds.length ≤ maxLen) (hk : ks.length ≤ maxLen) : ∃ n, laws_FnExactStatesOf.F n N ds ks = some true := by
  refine ⟨2000000, ?_⟩
  unfold laws_FnExactStatesOf.F
  obtain ⟨r, hr, hrr⟩ := szMaze_some 2000000 N ds ks hd hk
  rw [hr, Option.bind_some]
  by_cases c : r < 0
  · rw [if_pos (by simpa using c)]
  rw [if_neg (by simpa using c)]
  have hl : ds.length + ks.length ≤ 1048576 := hrr.resolve_left c
  have d1 : ds.length ≤ 1048576 := by omega
  have d2 : ks.length ≤ 1048576 := by omega
  have same : ∃ q, spec_StatesOf.F 2000000 N ds ks = some q ∧ impl_StatesOf.F 2000000 N ds ks = some q := by
    obtain ⟨q, _, h1, h2⟩ := StatesOf_same (n := 2000000) (N := N) (ds := ds) (ks := ks) (by omega)
    exact ⟨q, h1, h2⟩
  obtain ⟨q, h1, h2⟩ := same
  simp only [toMaze_L d1 d2, Option.bind_some, h1, h2, eqMaze_L d1 d2, beqB_self, neqI_self, decide_true, Bool.not_true, Bool.false_eq_true, if_false]

theorem lawFewestSteps (N : Int) (ds : List (Int × Int × Int)) (ks : List Int) (hd : ds.length ≤ maxLen) (hk : ks.length ≤ maxLen) : ∃ n, laws_FnExactFewestSteps.F n N ds ks = some true := by
  refine ⟨2000000, ?_⟩
  unfold laws_FnExactFewestSteps.F
  obtain ⟨r, hr, hrr⟩ := szMaze_some 2000000 N ds ks hd hk
  rw [hr, Option.bind_some]
  by_cases c : r < 0
  · rw [if_pos (by simpa using c)]
  rw [if_neg (by simpa using c)]
  have hl : ds.length + ks.length ≤ 1048576 := hrr.resolve_left c
  have d1 : ds.length ≤ 1048576 := by omega
  have d2 : ks.length ≤ 1048576 := by omega
  have same : ∃ q, spec_FewestSteps.F 2000000 N ds ks = some q ∧ impl_FewestSteps.F 2000000 N ds ks = some q := by
    obtain ⟨q, _, h1, h2⟩ := FewestSteps_same (n := 2000000) (N := N) (ds := ds) (ks := ks) (by omega)
    exact ⟨q, h1, h2⟩
  obtain ⟨q, h1, h2⟩ := same
  simp only [toMaze_L d1 d2, Option.bind_some, h1, h2, eqMaze_L d1 d2, beqB_self, neqI_self, decide_true, Bool.not_true, Bool.false_eq_true, if_false]

theorem lawFewestKeys (N : Int) (ds : List (Int × Int × Int)) (ks : List Int) (hd : ds.length ≤ maxLen) (hk : ks.length ≤ maxLen) : ∃ n, laws_FnExactFewestKeys.F n N ds ks = some true := by
  refine ⟨2000000, ?_⟩
  unfold laws_FnExactFewestKeys.F
  obtain ⟨r, hr, hrr⟩ := szMaze_some 2000000 N ds ks hd hk
  rw [hr, Option.bind_some]
  by_cases c : r < 0
  · rw [if_pos (by simpa using c)]
  rw [if_neg (by simpa using c)]
  have hl : ds.length + ks.length ≤ 1048576 := hrr.resolve_left c
  have d1 : ds.length ≤ 1048576 := by omega
  have d2 : ks.length ≤ 1048576 := by omega
  have same : ∃ q, spec_FewestKeys.F 2000000 N ds ks = some q ∧ impl_FewestKeys.F 2000000 N ds ks = some q := by
    obtain ⟨q, _, h1, h2⟩ := FewestKeys_same (n := 2000000) (N := N) (ds := ds) (ks := ks) (by omega)
    exact ⟨q, h1, h2⟩
  obtain ⟨q, h1, h2⟩ := same
  simp only [toMaze_L d1 d2, Option.bind_some, h1, h2, eqMaze_L d1 d2, beqB_self, neqI_self, decide_true, Bool.not_true, Bool.false_eq_true, if_false]

theorem lawDetourOf (N : Int) (ds : List (Int × Int × Int)) (ks : List Int) (hd : ds.length ≤ maxLen) (hk : ks.length ≤ maxLen) : ∃ n, laws_FnExactDetourOf.F n N ds ks = some true := by
  refine ⟨2000000, ?_⟩
  unfold laws_FnExactDetourOf.F
  obtain ⟨r, hr, hrr⟩ := szMaze_some 2000000 N ds ks hd hk
  rw [hr, Option.bind_some]
  by_cases c : r < 0
  · rw [if_pos (by simpa using c)]
  rw [if_neg (by simpa using c)]
  have hl : ds.length + ks.length ≤ 1048576 := hrr.resolve_left c
  have d1 : ds.length ≤ 1048576 := by omega
  have d2 : ks.length ≤ 1048576 := by omega
  have same : ∃ q, spec_DetourOf.F 2000000 N ds ks = some q ∧ impl_DetourOf.F 2000000 N ds ks = some q := DetourOf_same (n := 2000000) (N := N) (ds := ds) (ks := ks) (by omega)
  obtain ⟨q, h1, h2⟩ := same
  simp only [toMaze_L d1 d2, Option.bind_some, h1, h2, eqMaze_L d1 d2, beqB_self, neqI_self, decide_true, Bool.not_true, Bool.false_eq_true, if_false]

theorem lawFewestWith (N : Int) (ds : List (Int × Int × Int)) (ks : List Int) (s : Int) (hd : ds.length ≤ maxLen) (hk : ks.length ≤ maxLen) : ∃ n, laws_FnExactFewestWith.F n N ds ks s = some true := by
  refine ⟨2000000, ?_⟩
  unfold laws_FnExactFewestWith.F
  obtain ⟨r, hr, hrr⟩ := szMaze_some 2000000 N ds ks hd hk
  rw [hr, Option.bind_some]
  by_cases c : r < 0
  · rw [if_pos (by simpa using c)]
  rw [if_neg (by simpa using c)]
  have hl : ds.length + ks.length ≤ 1048576 := hrr.resolve_left c
  have d1 : ds.length ≤ 1048576 := by omega
  have d2 : ks.length ≤ 1048576 := by omega
  have same : ∃ q, spec_FewestWith.F 2000000 N ds ks s = some q ∧ impl_FewestWith.F 2000000 N ds ks s = some q := FewestWith_same (n := 2000000) (N := N) (ds := ds) (ks := ks) (by omega) s
  obtain ⟨q, h1, h2⟩ := same
  simp only [toMaze_L d1 d2, Option.bind_some, h1, h2, eqMaze_L d1 d2, beqB_self, neqI_self, decide_true, Bool.not_true, Bool.false_eq_true, if_false]

theorem lawWayBack (N : Int) (ds : List (Int × Int × Int)) (ks : List Int) (ws : List Int) (hd : ds.length ≤ maxLen) (hk : ks.length ≤ maxLen) (hws : ws.length ≤ maxLen) : ∃ n, laws_FnExactWayBack.F n N ds ks ws = some true := by
  refine ⟨2000000, ?_⟩
  unfold laws_FnExactWayBack.F
  by_cases cws : (ws.length : Int) > 1048576
  · rw [if_pos (by simpa using cws)]
  rw [if_neg (by simpa using cws)]
  obtain ⟨r, hr, hrr⟩ := szMaze_some 2000000 N ds ks hd hk
  rw [hr, Option.bind_some]
  by_cases c : r < 0
  · rw [if_pos (by simpa using c)]
  rw [if_neg (by simpa using c)]
  have hl : ds.length + ks.length ≤ 1048576 := hrr.resolve_left c
  have d1 : ds.length ≤ 1048576 := by omega
  have d2 : ks.length ≤ 1048576 := by omega
  have dws : ws.length ≤ 1048576 := by omega
  have same : ∃ q, spec_WayBack.F 2000000 N ds ks ws = some q ∧ impl_WayBack.F 2000000 N ds ks ws = some q := WayBack_same (n := 2000000) (N := N) (ds := ds) (ks := ks) (by omega) dws
  obtain ⟨q, h1, h2⟩ := same
  simp only [toMaze_L d1 d2, toIntS_L dws, Option.bind_some, h1, h2, eqMaze_L d1 d2, eqIntS_L dws, beqB_self, neqI_self, decide_true, Bool.not_true, Bool.false_eq_true, if_false]

theorem lawStepsTable (N : Int) (ds : List (Int × Int × Int)) (ks : List Int) (hd : ds.length ≤ maxLen) (hk : ks.length ≤ maxLen) : ∃ n, laws_FnExactStepsTable.F n N ds ks = some true := by
  refine ⟨2000000, ?_⟩
  unfold laws_FnExactStepsTable.F
  obtain ⟨r, hr, hrr⟩ := szMaze_some 2000000 N ds ks hd hk
  rw [hr, Option.bind_some]
  by_cases c : r < 0
  · rw [if_pos (by simpa using c)]
  rw [if_neg (by simpa using c)]
  have hl : ds.length + ks.length ≤ 1048576 := hrr.resolve_left c
  have d1 : ds.length ≤ 1048576 := by omega
  have d2 : ks.length ≤ 1048576 := by omega
  have same : ∃ q : List Int × Bool, q.1.length ≤ 1048576 ∧ spec_StepsTable.F 2000000 N ds ks = some q ∧ impl_StepsTable.F 2000000 N ds ks = some q := StepsTable_same (n := 2000000) (N := N) (ds := ds) (ks := ks) (by omega)
  obtain ⟨q, hq, h1, h2⟩ := same
  have m1 := markMaze_eq (n := 2000000) (N := N) (a := 1) d1 d2 (by omega) (by omega) (by omega)
  have z1 := ndec_neg (a := 1 + 3 * (ds.length : Int) + (ks.length : Int)) (by omega)
  have m3 := markIntS_eq (n := 2000000) (xs := q.1) (a := 1) hq (by omega) (by omega) (by omega)
  have m4 := heldIntS_eq (n := 2000000) (a := 1) (k := q.1.length) hq (by omega) (by omega) (by omega)
  have z2 := ndec_neg (a := 1 + (q.1.length : Int)) (by omega)
  simp only [toMaze_L d1 d2, Option.bind_some, h1, h2, eqMaze_L d1 d2, m1, z1, eqIntS_L hq, m3, m4, z2, beqB_self, neqI_self, decide_true, Bool.not_true, Bool.false_eq_true, if_false]

theorem lawStepsAndKeys (N : Int) (ds : List (Int × Int × Int)) (ks : List Int) (hd : ds.length ≤ maxLen) (hk : ks.length ≤ maxLen) : ∃ n, laws_FnExactStepsAndKeys.F n N ds ks = some true := by
  refine ⟨2000000, ?_⟩
  unfold laws_FnExactStepsAndKeys.F
  obtain ⟨r, hr, hrr⟩ := szMaze_some 2000000 N ds ks hd hk
  rw [hr, Option.bind_some]
  by_cases c : r < 0
  · rw [if_pos (by simpa using c)]
  rw [if_neg (by simpa using c)]
  have hl : ds.length + ks.length ≤ 1048576 := hrr.resolve_left c
  have d1 : ds.length ≤ 1048576 := by omega
  have d2 : ks.length ≤ 1048576 := by omega
  have same : ∃ q : List Int × Bool, q.1.length ≤ 1048576 ∧ spec_StepsAndKeys.F 2000000 N ds ks = some q ∧ impl_StepsAndKeys.F 2000000 N ds ks = some q := StepsAndKeys_same (n := 2000000) (N := N) (ds := ds) (ks := ks) (by omega)
  obtain ⟨q, hq, h1, h2⟩ := same
  have m1 := markMaze_eq (n := 2000000) (N := N) (a := 1) d1 d2 (by omega) (by omega) (by omega)
  have z1 := ndec_neg (a := 1 + 3 * (ds.length : Int) + (ks.length : Int)) (by omega)
  have m3 := markIntS_eq (n := 2000000) (xs := q.1) (a := 1) hq (by omega) (by omega) (by omega)
  have m4 := heldIntS_eq (n := 2000000) (a := 1) (k := q.1.length) hq (by omega) (by omega) (by omega)
  have z2 := ndec_neg (a := 1 + (q.1.length : Int)) (by omega)
  simp only [toMaze_L d1 d2, Option.bind_some, h1, h2, eqMaze_L d1 d2, m1, z1, eqIntS_L hq, m3, m4, z2, beqB_self, neqI_self, decide_true, Bool.not_true, Bool.false_eq_true, if_false]
end Go.Pv
