/- The plain laws of a door more, of free and of barred colours, printed in part by a program of mine (lawpv.py). -/
import Derived.Test.YtoppnaekfjjaaaaPvAdd
import Derived.Test.YtoppnaekfjjaaaaPvHeld
set_option linter.unusedVariables false
set_option linter.unusedSimpArgs false
set_option autoImplicit false
namespace Go.Pv
open Go Go.Fx Go.Pf

theorem lawAddDoor (N : Int) (ds : List (Int × Int × Int)) (ks : List Int) (x : Int) (y : Int) (w : Int) (hd : ds.length ≤ maxLen) (hk : ks.length ≤ maxLen) : ∃ n, laws_FnExactAddDoor.F n N ds ks x y w = some true := by
  refine ⟨2000000, ?_⟩
  unfold laws_FnExactAddDoor.F
  obtain ⟨r, hr, hrr⟩ := szMaze_some 2000000 N ds ks hd hk
  rw [hr, Option.bind_some]
  by_cases c : r < 0
  · rw [if_pos (by simpa using c)]
  rw [if_neg (by simpa using c)]
  have hl : ds.length + ks.length ≤ 1048576 := hrr.resolve_left c
  have d1 : ds.length ≤ 1048576 := by omega
  have d2 : ks.length ≤ 1048576 := by omega
  have same : ∃ q : Int × List (Int × Int × Int) × List Int × Bool, (q.2.1.length ≤ 1048576 ∧ q.2.2.1.length ≤ 1048576) ∧ spec_AddDoor.F 2000000 N ds ks x y w = some q ∧ impl_AddDoor.F 2000000 N ds ks x y w = some q := AddDoor_same (n := 2000000) (N := N) (ds := ds) (ks := ks) (by omega) x y w
  obtain ⟨q, ⟨hq, hq2⟩, h1, h2⟩ := same
  have m1 := markMaze_eq (n := 2000000) (N := N) (a := 1) d1 d2 (by omega) (by omega) (by omega)
  have z1 := ndec_neg (a := 1 + 3 * (ds.length : Int) + (ks.length : Int)) (by omega)
  have m3 := markMaze_eq (n := 2000000) (N := q.1) (a := 1) hq hq2 (by omega) (by omega) (by omega)
  have m4 := heldMaze_eq (n := 2000000) (N := q.1) (a := 1) (k := q.2.1.length) (k2 := q.2.2.1.length) hq hq2 (by omega) (by omega) (by omega)
  have z2 := ndec_neg (a := 1 + 3 * (q.2.1.length : Int) + (q.2.2.1.length : Int)) (by omega)
  simp only [toMaze_L d1 d2, Option.bind_some, h1, h2, eqMaze_L d1 d2, m1, z1, eqMaze_L hq hq2, m3, m4, z2, beqB_self, neqI_self, decide_true, Bool.not_true, Bool.false_eq_true, if_false]

theorem lawFreeColours (N : Int) (ds : List (Int × Int × Int)) (ks : List Int) (s : Int) (hd : ds.length ≤ maxLen) (hk : ks.length ≤ maxLen) : ∃ n, laws_FnExactFreeColours.F n N ds ks s = some true := by
  refine ⟨2000000, ?_⟩
  unfold laws_FnExactFreeColours.F
  obtain ⟨r, hr, hrr⟩ := szMaze_some 2000000 N ds ks hd hk
  rw [hr, Option.bind_some]
  by_cases c : r < 0
  · rw [if_pos (by simpa using c)]
  rw [if_neg (by simpa using c)]
  have hl : ds.length + ks.length ≤ 1048576 := hrr.resolve_left c
  have d1 : ds.length ≤ 1048576 := by omega
  have d2 : ks.length ≤ 1048576 := by omega
  have same : ∃ q : Int × List (Int × Int × Int) × List Int × Bool, (q.2.1.length ≤ 1048576 ∧ q.2.2.1.length ≤ 1048576) ∧ spec_FreeColours.F 2000000 N ds ks s = some q ∧ impl_FreeColours.F 2000000 N ds ks s = some q := FreeColours_same (n := 2000000) (N := N) (ds := ds) (ks := ks) (by omega) s
  obtain ⟨q, ⟨hq, hq2⟩, h1, h2⟩ := same
  have m1 := markMaze_eq (n := 2000000) (N := N) (a := 1) d1 d2 (by omega) (by omega) (by omega)
  have z1 := ndec_neg (a := 1 + 3 * (ds.length : Int) + (ks.length : Int)) (by omega)
  have m3 := markMaze_eq (n := 2000000) (N := q.1) (a := 1) hq hq2 (by omega) (by omega) (by omega)
  have m4 := heldMaze_eq (n := 2000000) (N := q.1) (a := 1) (k := q.2.1.length) (k2 := q.2.2.1.length) hq hq2 (by omega) (by omega) (by omega)
  have z2 := ndec_neg (a := 1 + 3 * (q.2.1.length : Int) + (q.2.2.1.length : Int)) (by omega)
  simp only [toMaze_L d1 d2, Option.bind_some, h1, h2, eqMaze_L d1 d2, m1, z1, eqMaze_L hq hq2, m3, m4, z2, beqB_self, neqI_self, decide_true, Bool.not_true, Bool.false_eq_true, if_false]

theorem lawBarColours (N : Int) (ds : List (Int × Int × Int)) (ks : List Int) (s : Int) (hd : ds.length ≤ maxLen) (hk : ks.length ≤ maxLen) : ∃ n, laws_FnExactBarColours.F n N ds ks s = some true := by
  refine ⟨2000000, ?_⟩
  unfold laws_FnExactBarColours.F
  obtain ⟨r, hr, hrr⟩ := szMaze_some 2000000 N ds ks hd hk
  rw [hr, Option.bind_some]
  by_cases c : r < 0
  · rw [if_pos (by simpa using c)]
  rw [if_neg (by simpa using c)]
  have hl : ds.length + ks.length ≤ 1048576 := hrr.resolve_left c
  have d1 : ds.length ≤ 1048576 := by omega
  have d2 : ks.length ≤ 1048576 := by omega
  have same : ∃ q : Int × List (Int × Int × Int) × List Int × Bool, (q.2.1.length ≤ 1048576 ∧ q.2.2.1.length ≤ 1048576) ∧ spec_BarColours.F 2000000 N ds ks s = some q ∧ impl_BarColours.F 2000000 N ds ks s = some q := BarColours_same (n := 2000000) (N := N) (ds := ds) (ks := ks) (by omega) s
  obtain ⟨q, ⟨hq, hq2⟩, h1, h2⟩ := same
  have m1 := markMaze_eq (n := 2000000) (N := N) (a := 1) d1 d2 (by omega) (by omega) (by omega)
  have z1 := ndec_neg (a := 1 + 3 * (ds.length : Int) + (ks.length : Int)) (by omega)
  have m3 := markMaze_eq (n := 2000000) (N := q.1) (a := 1) hq hq2 (by omega) (by omega) (by omega)
  have m4 := heldMaze_eq (n := 2000000) (N := q.1) (a := 1) (k := q.2.1.length) (k2 := q.2.2.1.length) hq hq2 (by omega) (by omega) (by omega)
  have z2 := ndec_neg (a := 1 + 3 * (q.2.1.length : Int) + (q.2.2.1.length : Int)) (by omega)
  simp only [toMaze_L d1 d2, Option.bind_some, h1, h2, eqMaze_L d1 d2, m1, z1, eqMaze_L hq hq2, m3, m4, z2, beqB_self, neqI_self, decide_true, Bool.not_true, Bool.false_eq_true, if_false]
end Go.Pv
