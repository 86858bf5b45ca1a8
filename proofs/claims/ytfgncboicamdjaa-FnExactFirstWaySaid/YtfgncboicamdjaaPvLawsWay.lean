/- The law FirstWay, plainly. -/
import Derived.Test.YtfgncboicamdjaaPvWay
import Derived.Test.YtfgncboicamdjaaPvMark
set_option linter.unusedVariables false
set_option linter.unusedSimpArgs false
set_option autoImplicit false
namespace Go.Pv
open Go Go.Fx Go.Pf

theorem lawFirstWay (N : Int) (ds : List (Int × Int × Int)) (ks : List Int) (hd : ds.length ≤ maxLen) (hk : ks.length ≤ maxLen) : ∃ n, laws_FnExactFirstWay.F n N ds ks = some true := by
  refine ⟨2000000, ?_⟩
  unfold laws_FnExactFirstWay.F
  obtain ⟨r, hr, hrr⟩ := szMaze_some 2000000 N ds ks hd hk
  rw [hr, Option.bind_some]
  by_cases c : r < 0
  · rw [if_pos (by simpa using c)]
  rw [if_neg (by simpa using c)]
  have hl : ds.length + ks.length ≤ 1048576 := hrr.resolve_left c
  have d1 : ds.length ≤ 1048576 := by omega
  have d2 : ks.length ≤ 1048576 := by omega
  have same : ∃ q : List Int × Bool, q.1.length ≤ 1000 ∧ spec_FirstWay.F 2000000 N ds ks = some q ∧ impl_FirstWay.F 2000000 N ds ks = some q := FirstWay_same (n := 2000000) (N := N) (ds := ds) (ks := ks) (by omega)
  obtain ⟨q, hq0, h1, h2⟩ := same
  have hq : q.1.length ≤ 1048576 := by omega
  have m1 := markMaze_eq (n := 2000000) (N := N) (a := 1) d1 d2 (by omega) (by omega) (by omega)
  have z1 := ndec_neg (a := 1 + 3 * (ds.length : Int) + (ks.length : Int)) (by omega)
  have m3 := markIntS_eq (n := 2000000) (xs := q.1) (a := 1) hq (by omega) (by omega) (by omega)
  have m4 := heldIntS_eq (n := 2000000) (a := 1) (k := q.1.length) hq (by omega) (by omega) (by omega)
  have z2 := ndec_neg (a := 1 + (q.1.length : Int)) (by omega)
  simp only [toMaze_L d1 d2, Option.bind_some, h1, h2, eqMaze_L d1 d2, m1, z1, eqIntS_L hq, m3, m4, z2, beqB_self, neqI_self, decide_true, Bool.not_true, Bool.false_eq_true, if_false]
end Go.Pv
