/- The plain law of FnExactParseMaze. -/
import Derived.Test.YtfgncboicamdjaaDoorPvPMaze
import Derived.Test.YtfgncboicamdjaaDoorPvHeld
set_option linter.unusedVariables false
set_option linter.unusedSimpArgs false
set_option autoImplicit false
namespace Go.Pv
open Go Go.Fx Go.Pf
open Classical in
theorem resM_len (t : List UInt8) : (resM t).2.1.length ≤ 1048576 ∧ (resM t).2.2.1.length ≤ 1048576 := by
  unfold resM
  split
  · split
    · split
      · rename_i hv
        have h1 := hv.dl
        have h2 := hv.kl
        have h3 := hv.n2
        exact ⟨by simp only; omega, by simp only; omega⟩
      · simp [badM]
    · simp [badM]
  · simp [badM]
theorem lawParseMaze (s : ByteArray) : ∃ n, laws_FnExactParseMaze.F n s = some true := by
  refine ⟨2000000, ?_⟩
  unfold laws_FnExactParseMaze.F
  by_cases c : s.size > 1048576
  · rw [if_pos (by simp; omega)]
  rw [if_neg (by simp; omega)]
  have hs : s.size ≤ 1048576 := by omega
  obtain ⟨hq, hq2⟩ := resM_len (by_ s)
  have h1 := specParseM_val (n := 2000000) (by omega) hs
  have h2 := implParseM_val (n := 2000000) (by omega) hs
  generalize resM (by_ s) = q at *
  have m3 := markMaze_eq (n := 2000000) (N := q.1) (a := 1) hq hq2 (by omega) (by omega) (by omega)
  have m4 := heldMaze_eq (n := 2000000) (N := q.1) (a := 1) (k := q.2.1.length) (k2 := q.2.2.1.length) hq hq2 (by omega) (by omega) (by omega)
  have z2 := ndec_neg (a := 1 + 3 * (q.2.1.length : Int) + (q.2.2.1.length : Int)) (by omega)
  simp only [Option.bind_some, h1, h2, eqMaze_L hq hq2, m3, m4, z2, beqB_self, neqI_self, decide_true, Bool.not_true, Bool.false_eq_true, if_false]
end Go.Pv
