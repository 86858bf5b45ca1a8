/- The plain law of FnExactMazeText. -/
import Derived.Test.YtfgncboicamdjaaDoorPvMText
set_option linter.unusedVariables false
set_option autoImplicit false
namespace Go.Pv
open Go Go.Fx Go.Pf
theorem lawMazeText (N : Int) (ds : List (Int × Int × Int)) (ks : List Int) (hd : ds.length ≤ maxLen) (hk : ks.length ≤ maxLen) : ∃ n, laws_FnExactMazeText.F n N ds ks = some true := by
  refine ⟨2000000, ?_⟩
  obtain ⟨r, hr, hrr⟩ := szMaze_some 2000000 N ds ks hd hk
  unfold laws_FnExactMazeText.F
  rw [hr, Option.bind_some]
  by_cases c : r < 0
  · rw [if_pos (by simpa using c)]
  · rw [if_neg (by simpa using c)]
    have hl : ds.length + ks.length ≤ 1048576 := hrr.resolve_left c
    obtain ⟨b, h1, h2⟩ := mazeText_same (n := 2000000) (by omega) N ds ks
    rw [toMaze_eq (by omega) (by omega) (by omega) (by omega)]
    simp only [Option.bind_some, h1, h2, eqMaze_self (n := 2000000) (a := N) (xs := ds) (ys := ks) (by omega) (by omega) (by omega) (by omega)]
    simp
end Go.Pv
