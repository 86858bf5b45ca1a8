/- Plain laws about the pure functions that stand for the given Go functions: copies, comparisons, sizes of mazes. -/
import Derived.Test.YtfgncboicamdjaaDoorPure
set_option linter.unusedVariables false
set_option linter.unusedSimpArgs false
set_option autoImplicit false
namespace Go.Pv
open Go Go.Fx Go.Pf

theorem w64 {x : Int} (h1 : -9223372036854775808 ≤ x) (h2 : x < 9223372036854775808) : IntKind.wrap .i64 x = x := by
  rw [IntKind.wrap_i64]
  omega
theorem w64s {x : Int} (h1 : 0 ≤ x) (h2 : x ≤ 4611686018427387904) : IntKind.wrap .i64 x = x := w64 (by omega) (by omega)
theorem i64_range {x : Int} (h : (Lit.int .i64 x).wf = true) : -9223372036854775808 ≤ x ∧ x < 9223372036854775808 := by
  simp only [Lit.wf, Bool.and_eq_true, decide_eq_true_eq] at h
  have h1 : IntKind.min .i64 = -9223372036854775808 := by decide
  have h2 : IntKind.max .i64 = 9223372036854775807 := by decide
  omega

theorem eqIntS_l0 {n : Nat} {K : Unit → Option Bool} {xs : List Int} (hx : xs.length ≤ 4398046511104) : ∀ (j i : Nat), xs.length - i < j → laws_eqIntS.l0 n K j xs xs i = K ()
  | 0, i, h => by omega
  | j + 1, i, h => by
    unfold laws_eqIntS.l0
    by_cases c : (i : Int) < (xs.length : Int)
    · rw [if_pos (by simpa using c), if_pos ⟨by omega, c⟩, if_pos ⟨by omega, c⟩, if_neg (by simp), w64s (by omega) (by omega)]
      have e : ((i : Int) + 1) = ((i + 1 : Nat) : Int) := by omega
      rw [e]
      exact eqIntS_l0 hx j (i + 1) (by omega)
    · rw [if_neg (by simpa using c)]
theorem eqIntS_self {n : Nat} {xs : List Int} (hx : xs.length ≤ 4398046511104) (hn : xs.length < n) : laws_eqIntS.F n xs xs = some true := by
  unfold laws_eqIntS.F
  rw [if_neg (by simp)]
  exact eqIntS_l0 hx n 0 (by omega)
theorem eqIntA3S_l0 {n : Nat} {K : Unit → Option Bool} {xs : List (Int × Int × Int)} (hx : xs.length ≤ 4398046511104) : ∀ (j i : Nat), xs.length - i < j → laws_eqIntA3S.l0 n K j xs xs i = K ()
  | 0, i, h => by omega
  | j + 1, i, h => by
    unfold laws_eqIntA3S.l0
    by_cases c : (i : Int) < (xs.length : Int)
    · rw [if_pos (by simpa using c), if_pos ⟨by omega, c⟩, if_pos ⟨by omega, c⟩]
      simp only [laws_eqIntA3.F, decide_true, Bool.not_true, Bool.false_eq_true, if_false, Option.bind_some]
      rw [w64s (by omega) (by omega)]
      have e : ((i : Int) + 1) = ((i + 1 : Nat) : Int) := by omega
      rw [e]
      exact eqIntA3S_l0 hx j (i + 1) (by omega)
    · rw [if_neg (by simpa using c)]
theorem eqIntA3S_self {n : Nat} {xs : List (Int × Int × Int)} (hx : xs.length ≤ 4398046511104) (hn : xs.length < n) : laws_eqIntA3S.F n xs xs = some true := by
  unfold laws_eqIntA3S.F
  rw [if_neg (by simp)]
  exact eqIntA3S_l0 hx n 0 (by omega)
theorem eqMaze_self {n : Nat} {a : Int} {xs : List (Int × Int × Int)} {ys : List Int} (hx : xs.length ≤ 4398046511104) (hy : ys.length ≤ 4398046511104) (hn : xs.length < n) (hm : ys.length < n) :
    laws_eqMaze.F n a xs ys a xs ys = some true := by
  simp [laws_eqMaze.F, eqIntA3S_self hx hn, eqIntS_self hy hm]

theorem getD_drop {α : Type} {l : List α} {i : Nat} {d : α} (h : i < l.length) : l.drop i = l.getD i d :: l.drop (i + 1) := by
  rw [List.getD_eq_getElem?_getD, List.getElem?_eq_getElem h]
  exact List.drop_eq_getElem_cons h
theorem getD_mem {α : Type} {l : List α} {i : Nat} {d : α} (h : i < l.length) : l.getD i d ∈ l := by
  rw [List.getD_eq_getElem?_getD, List.getElem?_eq_getElem h]
  exact List.getElem_mem h
end Go.Pv
