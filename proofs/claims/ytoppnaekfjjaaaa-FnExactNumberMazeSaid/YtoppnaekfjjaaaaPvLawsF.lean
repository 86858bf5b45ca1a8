/- The plain laws of mirrored, renumbered and repainted mazes, printed in part by a program of mine (lawpv.py). -/
import Derived.Test.YtoppnaekfjjaaaaPvPaint
import Derived.Test.YtoppnaekfjjaaaaPvHeld
set_option linter.unusedVariables false
set_option linter.unusedSimpArgs false
set_option autoImplicit false
namespace Go.Pv
open Go Go.Fx Go.Pf

theorem lawMirrorMaze (N : Int) (ds : List (Int × Int × Int)) (ks : List Int) (hd : ds.length ≤ maxLen) (hk : ks.length ≤ maxLen) : ∃ n, laws_FnExactMirrorMaze.F n N ds ks = some true := by
  refine ⟨2000000, ?_⟩
  unfold laws_FnExactMirrorMaze.F
  obtain ⟨r, hr, hrr⟩ := szMaze_some 2000000 N ds ks hd hk
  rw [hr, Option.bind_some]
  by_cases c : r < 0
  · rw [if_pos (by simpa using c)]
  rw [if_neg (by simpa using c)]
  have hl : ds.length + ks.length ≤ 1048576 := hrr.resolve_left c
  have d1 : ds.length ≤ 1048576 := by omega
  have d2 : ks.length ≤ 1048576 := by omega
  have same : ∃ q : Int × List (Int × Int × Int) × List Int × Bool, (q.2.1.length ≤ 1048576 ∧ q.2.2.1.length ≤ 1048576) ∧ spec_MirrorMaze.F 2000000 N ds ks = some q ∧ impl_MirrorMaze.F 2000000 N ds ks = some q := MirrorMaze_same (n := 2000000) (N := N) (ds := ds) (ks := ks) (by omega)
  obtain ⟨q, ⟨hq, hq2⟩, h1, h2⟩ := same
  have m1 := markMaze_eq (n := 2000000) (N := N) (a := 1) d1 d2 (by omega) (by omega) (by omega)
  have z1 := ndec_neg (a := 1 + 3 * (ds.length : Int) + (ks.length : Int)) (by omega)
  have m3 := markMaze_eq (n := 2000000) (N := q.1) (a := 1) hq hq2 (by omega) (by omega) (by omega)
  have m4 := heldMaze_eq (n := 2000000) (N := q.1) (a := 1) (k := q.2.1.length) (k2 := q.2.2.1.length) hq hq2 (by omega) (by omega) (by omega)
  have z2 := ndec_neg (a := 1 + 3 * (q.2.1.length : Int) + (q.2.2.1.length : Int)) (by omega)
  simp only [toMaze_L d1 d2, Option.bind_some, h1, h2, eqMaze_L d1 d2, m1, z1, eqMaze_L hq hq2, m3, m4, z2, beqB_self, neqI_self, decide_true, Bool.not_true, Bool.false_eq_true, if_false]

theorem lawNumberMaze (N : Int) (ds : List (Int × Int × Int)) (ks : List Int) (ws : List Int) (hd : ds.length ≤ maxLen) (hk : ks.length ≤ maxLen) (hws : ws.length ≤ maxLen) : ∃ n, laws_FnExactNumberMaze.F n N ds ks ws = some true := by
  refine ⟨2000000, ?_⟩
  unfold laws_FnExactNumberMaze.F
  by_cases cws : (ws.length : Int) > 1048576
  · rw [if_pos (by simpa using cws)]
  rw [if_neg (by simpa using cws)]
  obtain ⟨r, hr, hrr⟩ := szMaze_some 2000000 N ds ks hd hk
  rw [hr, Option.bind_some]
  by_cases c : r < 0
  · rw [if_pos (by simpa using c)]
  rw [if_neg (by simpa using c)]
  have hl : ds.length + ks.length ≤ 1048576 := hrr.resolve_left c
  have d1 : ds.length ≤ 1048576 := by omega
  have d2 : ks.length ≤ 1048576 := by omega
  have dws : ws.length ≤ 1048576 := by omega
  have same : ∃ q : Int × List (Int × Int × Int) × List Int × Bool, (q.2.1.length ≤ 1048576 ∧ q.2.2.1.length ≤ 1048576) ∧ spec_NumberMaze.F 2000000 N ds ks ws = some q ∧ impl_NumberMaze.F 2000000 N ds ks ws = some q := NumberMaze_same (n := 2000000) (N := N) (ds := ds) (ks := ks) (by omega) dws
  obtain ⟨q, ⟨hq, hq2⟩, h1, h2⟩ := same
  have m1 := markMaze_eq (n := 2000000) (N := N) (a := 1) d1 d2 (by omega) (by omega) (by omega)
  have mm0 := markIntS_eq (n := 2000000) (xs := ws) (a := 1 + 3 * (ds.length : Int) + (ks.length : Int)) dws (by omega) (by omega) (by omega)
  have z1 := ndec_neg (a := 1 + 3 * (ds.length : Int) + (ks.length : Int) + (ws.length : Int)) (by omega)
  have m3 := markMaze_eq (n := 2000000) (N := q.1) (a := 1) hq hq2 (by omega) (by omega) (by omega)
  have m4 := heldMaze_eq (n := 2000000) (N := q.1) (a := 1) (k := q.2.1.length) (k2 := q.2.2.1.length) hq hq2 (by omega) (by omega) (by omega)
  have z2 := ndec_neg (a := 1 + 3 * (q.2.1.length : Int) + (q.2.2.1.length : Int)) (by omega)
  simp only [toMaze_L d1 d2, toIntS_L dws, Option.bind_some, h1, h2, eqMaze_L d1 d2, eqIntS_L dws, m1, mm0, z1, eqMaze_L hq hq2, m3, m4, z2, beqB_self, neqI_self, decide_true, Bool.not_true, Bool.false_eq_true, if_false]

theorem lawRepaintMaze (N : Int) (ds : List (Int × Int × Int)) (ks : List Int) (ws : List Int) (hd : ds.length ≤ maxLen) (hk : ks.length ≤ maxLen) (hws : ws.length ≤ maxLen) : ∃ n, laws_FnExactRepaintMaze.F n N ds ks ws = some true := by
  refine ⟨2000000, ?_⟩
  unfold laws_FnExactRepaintMaze.F
  by_cases cws : (ws.length : Int) > 1048576
  · rw [if_pos (by simpa using cws)]
  rw [if_neg (by simpa using cws)]
  obtain ⟨r, hr, hrr⟩ := szMaze_some 2000000 N ds ks hd hk
  rw [hr, Option.bind_some]
  by_cases c : r < 0
  · rw [if_pos (by simpa using c)]
  rw [if_neg (by simpa using c)]
  have hl : ds.length + ks.length ≤ 1048576 := hrr.resolve_left c
  have d1 : ds.length ≤ 1048576 := by omega
  have d2 : ks.length ≤ 1048576 := by omega
  have dws : ws.length ≤ 1048576 := by omega
  have same : ∃ q : Int × List (Int × Int × Int) × List Int × Bool, (q.2.1.length ≤ 1048576 ∧ q.2.2.1.length ≤ 1048576) ∧ spec_RepaintMaze.F 2000000 N ds ks ws = some q ∧ impl_RepaintMaze.F 2000000 N ds ks ws = some q := RepaintMaze_same (n := 2000000) (N := N) (ds := ds) (ks := ks) (by omega) dws
  obtain ⟨q, ⟨hq, hq2⟩, h1, h2⟩ := same
  have m1 := markMaze_eq (n := 2000000) (N := N) (a := 1) d1 d2 (by omega) (by omega) (by omega)
  have mm0 := markIntS_eq (n := 2000000) (xs := ws) (a := 1 + 3 * (ds.length : Int) + (ks.length : Int)) dws (by omega) (by omega) (by omega)
  have z1 := ndec_neg (a := 1 + 3 * (ds.length : Int) + (ks.length : Int) + (ws.length : Int)) (by omega)
  have m3 := markMaze_eq (n := 2000000) (N := q.1) (a := 1) hq hq2 (by omega) (by omega) (by omega)
  have m4 := heldMaze_eq (n := 2000000) (N := q.1) (a := 1) (k := q.2.1.length) (k2 := q.2.2.1.length) hq hq2 (by omega) (by omega) (by omega)
  have z2 := ndec_neg (a := 1 + 3 * (q.2.1.length : Int) + (q.2.2.1.length : Int)) (by omega)
  simp only [toMaze_L d1 d2, toIntS_L dws, Option.bind_some, h1, h2, eqMaze_L d1 d2, eqIntS_L dws, m1, mm0, z1, eqMaze_L hq hq2, m3, m4, z2, beqB_self, neqI_self, decide_true, Bool.not_true, Bool.false_eq_true, if_false]
end Go.Pv
