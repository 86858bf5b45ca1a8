/- The law CountWays, plainly. -/
import Derived.Test.YtfgncboicamdjaaPvCntS
import Derived.Test.YtfgncboicamdjaaPvMark
set_option linter.unusedVariables false
set_option linter.unusedSimpArgs false
set_option autoImplicit false
namespace Go.Pv
open Go Go.Fx Go.Pf

theorem lawCountWays (N : Int) (ds : List (Int × Int × Int)) (ks : List Int) (hd : ds.length ≤ maxLen) (hk : ks.length ≤ maxLen) : ∃ n, laws_FnExactCountWays.F n N ds ks = some true := by
  refine ⟨2000000, ?_⟩
  unfold laws_FnExactCountWays.F
  obtain ⟨r, hr, hrr⟩ := szMaze_some 2000000 N ds ks hd hk
  rw [hr, Option.bind_some]
  by_cases c : r < 0
  · rw [if_pos (by simpa using c)]
  rw [if_neg (by simpa using c)]
  have hl : ds.length + ks.length ≤ 1048576 := hrr.resolve_left c
  have d1 : ds.length ≤ 1048576 := by omega
  have d2 : ks.length ≤ 1048576 := by omega
  have same : ∃ q, spec_CountWays.F 2000000 N ds ks = some q ∧ impl_CountWays.F 2000000 N ds ks = some q := by
    obtain ⟨q, h1, h2, _⟩ := CountWays_q (n := 2000000) (N := N) (ds := ds) (ks := ks) (by omega)
    exact ⟨q, h1, h2⟩
  obtain ⟨q, h1, h2⟩ := same
  simp only [toMaze_L d1 d2, Option.bind_some, h1, h2, eqMaze_L d1 d2, beqB_self, neqI_self, decide_true, Bool.not_true, Bool.false_eq_true, if_false]
end Go.Pv
