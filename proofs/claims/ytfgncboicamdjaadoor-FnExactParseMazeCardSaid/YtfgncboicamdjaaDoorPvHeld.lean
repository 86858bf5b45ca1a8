/- Plain laws: marks of mazes that are held. -/
import Derived.Test.YtfgncboicamdjaaDoorPvMark
set_option linter.unusedVariables false
set_option linter.unusedSimpArgs false
set_option autoImplicit false
namespace Go.Pv
open Go Go.Fx Go.Pf

theorem heldIntA3S_l0 {n : Nat} {K : Int → Option Int} : ∀ (j i : Nat) (zs : List (Int × Int × Int)) (a : Int), zs.length - i < j → i ≤ zs.length → zs.length ≤ 4398046511104 → 0 ≤ a → a + 3 * ((zs.length - i : Nat) : Int) ≤ 4398046511104 → zs.drop i = mark3L a (zs.length - i) →
    laws_heldIntA3S.l0 n K j zs a i = K (a + 3 * ((zs.length - i : Nat) : Int))
  | 0, i, zs, a, h, _, _, _, _, _ => by omega
  | j + 1, i, zs, a, h, hi, hx, ha, ha2, hd => by
    rw [laws_heldIntA3S.l0]
    by_cases c : (i : Int) < (zs.length : Int)
    · have ci : i < zs.length := by omega
      have ei : (i : Int).toNat = i := by omega
      have k1 : decide ((i : Int) < (zs.length : Int)) = true := by simpa using c
      have k2 : 0 ≤ (i : Int) ∧ (i : Int) < (zs.length : Int) := ⟨by omega, c⟩
      have wi : IntKind.wrap .i64 ((i : Int) + 1) = ((i + 1 : Nat) : Int) := by rw [w64s (by omega) (by omega)]; omega
      have wa : IntKind.wrap .i64 (a + 1) = a + 1 := w64s (by omega) (by omega)
      have wb : IntKind.wrap .i64 (a + 1 + 1) = a + 2 := by rw [w64s (by omega) (by omega)]; omega
      have wc : IntKind.wrap .i64 (a + 2 + 1) = a + 3 := by rw [w64s (by omega) (by omega)]; omega
      have e : zs.length - i = (zs.length - (i + 1)) + 1 := by omega
      rw [e, List.drop_eq_getElem_cons ci] at hd
      simp only [mark3L, List.cons.injEq] at hd
      have hg : zs.getD i (0, 0, 0) = (a, a + 1, a + 2) := by rw [List.getD_eq_getElem?_getD, List.getElem?_eq_getElem ci]; exact hd.1
      simp only [if_pos k1, if_pos k2, wi, wa, wb, wc, ei, hg, decide_true, Bool.not_true, Bool.false_eq_true, if_false]
      rw [heldIntA3S_l0 j (i + 1) zs (a + 3) (by omega) (by omega) hx (by omega) (by omega) hd.2]
      congr 1
      omega
    · have k1 : ¬ decide ((i : Int) < (zs.length : Int)) = true := by simpa using c
      have e : i = zs.length := by omega
      subst e
      simp [k1]
theorem heldIntA3S_eq {n : Nat} {a : Int} {k : Nat} (hk : k ≤ 1048576) (ha : 0 ≤ a) (ha2 : a ≤ 8388608) (hn : 1048576 < n) : laws_heldIntA3S.F n (mark3L a k) a = some (a + 3 * (k : Int)) := by
  unfold laws_heldIntA3S.F
  have hl := mark3L_length a k
  have := heldIntA3S_l0 (n := n) (K := fun y1 => some y1) n 0 (mark3L a k) a (by omega) (by omega) (by omega) ha (by omega) (by simp [hl])
  simp only [Int.natCast_zero] at this
  rw [this, hl]
  simp
theorem heldMaze_eq {n : Nat} {N a : Int} {k k2 : Nat} (hk : k ≤ 1048576) (hk2 : k2 ≤ 1048576) (ha : 0 ≤ a) (ha2 : a ≤ 1048576) (hn : 1048576 < n) : laws_heldMaze.F n N (mark3L a k) (markL (a + 3 * (k : Int)) k2) a = some (a + 3 * (k : Int) + (k2 : Int)) := by
  unfold laws_heldMaze.F
  rw [heldIntA3S_eq hk ha (by omega) hn, Option.bind_some, if_neg (by rw [decide_eq_true_eq]; omega), heldIntS_eq hk2 (by omega) (by omega) hn, Option.bind_some, if_neg (by rw [decide_eq_true_eq]; omega)]

theorem markMaze_eqB {n : Nat} {N a : Int} {ds : List (Int × Int × Int)} {ks : List Int} (hd : ds.length ≤ 1048576) (hk : ks.length ≤ 1048576) (ha : 0 ≤ a) (ha2 : a ≤ 4194304) (hn : 1048576 < n) :
    laws_markMaze.F n N ds ks a = some (a + 3 * (ds.length : Int) + (ks.length : Int), N, mark3L a ds.length, markL (a + 3 * (ds.length : Int)) ks.length) := by
  unfold laws_markMaze.F
  rw [markIntA3S_eq hd ha (by omega) hn, Option.bind_some, markIntS_eq hk (by omega) (by simp only; omega) hn, Option.bind_some]

end Go.Pv
