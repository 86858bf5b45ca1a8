/- Plain laws: the marks that the laws lay into arguments and results. -/
import Derived.Test.YtdejcakkibabcaaPvBase
set_option linter.unusedVariables false
set_option linter.unusedSimpArgs false
set_option autoImplicit false
namespace Go.Pv
open Go Go.Fx Go.Pf

def markL : Int → Nat → List Int
  | _, 0 => []
  | a, k + 1 => a :: markL (a + 1) k
theorem markL_length : ∀ (a : Int) (k : Nat), (markL a k).length = k
  | _, 0 => rfl
  | a, k + 1 => by simp [markL, markL_length]
theorem set_take {α : Type} (xs : List α) (i : Nat) (v : α) (h : i < xs.length) : (xs.set i v).take (i + 1) = xs.take i ++ [v] := by
  have h2 : i < (xs.set i v).length := by simpa using h
  rw [List.take_succ_eq_append_getElem h2, List.take_set_of_le (Nat.le_refl i)]
  simp
theorem markIntS_l0 {n : Nat} {K : List Int → Int → Option (Int × List Int)} : ∀ (j i : Nat) (xs : List Int) (a : Int), xs.length - i < j → i ≤ xs.length → xs.length ≤ 4398046511104 → 0 ≤ a → a + ((xs.length - i : Nat) : Int) ≤ 4398046511104 →
    laws_markIntS.l0 n K j xs a i = K (xs.take i ++ markL a (xs.length - i)) (a + ((xs.length - i : Nat) : Int))
  | 0, i, xs, a, h, _, _, _, _ => by omega
  | j + 1, i, xs, a, h, hi, hx, ha, ha2 => by
    rw [laws_markIntS.l0]
    by_cases c : (i : Int) < (xs.length : Int)
    · have ci : i < xs.length := by omega
      have ei : (i : Int).toNat = i := by omega
      have k1 : decide ((i : Int) < (xs.length : Int)) = true := by simpa using c
      have k2 : 0 ≤ (i : Int) ∧ (i : Int) < (xs.length : Int) := ⟨by omega, c⟩
      have wi : IntKind.wrap .i64 ((i : Int) + 1) = ((i + 1 : Nat) : Int) := by rw [w64s (by omega) (by omega)]; omega
      have wa : IntKind.wrap .i64 (a + 1) = a + 1 := w64s (by omega) (by omega)
      have hs := set_take xs i a ci
      simp only [if_pos k1, if_pos k2, wi, wa, ei]
      rw [markIntS_l0 j (i + 1) (xs.set i a) (a + 1) (by simp; omega) (by simp; omega) (by simp; omega) (by omega) (by simp; omega), hs]
      have e : xs.length - i = (xs.length - (i + 1)) + 1 := by omega
      simp only [List.length_set]
      rw [e]
      simp only [markL, List.append_assoc, List.singleton_append]
      congr 1
      omega
    · have k1 : ¬ decide ((i : Int) < (xs.length : Int)) = true := by simpa using c
      have e : i = xs.length := by omega
      subst e
      simp [k1, markL]
theorem markIntS_eq {n : Nat} {xs : List Int} {a : Int} (hx : xs.length ≤ 1048576) (ha : 0 ≤ a) (ha2 : a ≤ 8388608) (hn : 1048576 < n) : laws_markIntS.F n xs a = some (a + (xs.length : Int), markL a xs.length) := by
  unfold laws_markIntS.F
  have := markIntS_l0 (n := n) (K := fun y1 y2 => some (y2, y1)) n 0 xs a (by omega) (by omega) (by omega) ha (by omega)
  simp only [Int.natCast_zero] at this
  rw [this]
  simp
theorem heldIntS_l0 {n : Nat} {K : Int → Option Int} : ∀ (j i : Nat) (zs : List Int) (a : Int), zs.length - i < j → i ≤ zs.length → zs.length ≤ 4398046511104 → 0 ≤ a → a + ((zs.length - i : Nat) : Int) ≤ 4398046511104 → zs.drop i = markL a (zs.length - i) →
    laws_heldIntS.l0 n K j zs a i = K (a + ((zs.length - i : Nat) : Int))
  | 0, i, zs, a, h, _, _, _, _, _ => by omega
  | j + 1, i, zs, a, h, hi, hx, ha, ha2, hd => by
    rw [laws_heldIntS.l0]
    by_cases c : (i : Int) < (zs.length : Int)
    · have ci : i < zs.length := by omega
      have ei : (i : Int).toNat = i := by omega
      have k1 : decide ((i : Int) < (zs.length : Int)) = true := by simpa using c
      have k2 : 0 ≤ (i : Int) ∧ (i : Int) < (zs.length : Int) := ⟨by omega, c⟩
      have wi : IntKind.wrap .i64 ((i : Int) + 1) = ((i + 1 : Nat) : Int) := by rw [w64s (by omega) (by omega)]; omega
      have wa : IntKind.wrap .i64 (a + 1) = a + 1 := w64s (by omega) (by omega)
      have e : zs.length - i = (zs.length - (i + 1)) + 1 := by omega
      rw [e, List.drop_eq_getElem_cons ci] at hd
      simp only [markL, List.cons.injEq] at hd
      have hg : zs.getD i 0 = a := by rw [List.getD_eq_getElem?_getD, List.getElem?_eq_getElem ci]; exact hd.1
      simp only [if_pos k1, if_pos k2, wi, wa, ei, hg, decide_true, Bool.not_true, Bool.false_eq_true, if_false]
      rw [heldIntS_l0 j (i + 1) zs (a + 1) (by omega) (by omega) hx (by omega) (by omega) hd.2]
      congr 1
      omega
    · have k1 : ¬ decide ((i : Int) < (zs.length : Int)) = true := by simpa using c
      have e : i = zs.length := by omega
      subst e
      simp [k1]
theorem heldIntS_eq {n : Nat} {a : Int} {k : Nat} (hk : k ≤ 1048576) (ha : 0 ≤ a) (ha2 : a ≤ 8388608) (hn : 1048576 < n) : laws_heldIntS.F n (markL a k) a = some (a + (k : Int)) := by
  unfold laws_heldIntS.F
  have hl := markL_length a k
  have := heldIntS_l0 (n := n) (K := fun y1 => some y1) n 0 (markL a k) a (by omega) (by omega) (by omega) ha (by omega) (by simp [hl])
  simp only [Int.natCast_zero] at this
  rw [this, hl]
  simp

/-! ### Rows of doors -/
def mark3L : Int → Nat → List (Int × Int × Int)
  | _, 0 => []
  | a, k + 1 => (a, a + 1, a + 2) :: mark3L (a + 3) k
theorem mark3L_length : ∀ (a : Int) (k : Nat), (mark3L a k).length = k
  | _, 0 => rfl
  | a, k + 1 => by simp [mark3L, mark3L_length]
theorem set_getD {α : Type} (xs : List α) (i : Nat) (v d : α) (h : i < xs.length) : (xs.set i v).getD i d = v := by
  simp [List.getD_eq_getElem?_getD, h]
theorem markIntA3S_l0 {n : Nat} {K : List (Int × Int × Int) → Int → Option (Int × List (Int × Int × Int))} : ∀ (j i : Nat) (xs : List (Int × Int × Int)) (a : Int), xs.length - i < j → i ≤ xs.length → xs.length ≤ 4398046511104 → 0 ≤ a → a + 3 * ((xs.length - i : Nat) : Int) ≤ 4398046511104 →
    laws_markIntA3S.l0 n K j xs a i = K (xs.take i ++ mark3L a (xs.length - i)) (a + 3 * ((xs.length - i : Nat) : Int))
  | 0, i, xs, a, h, _, _, _, _ => by omega
  | j + 1, i, xs, a, h, hi, hx, ha, ha2 => by
    rw [laws_markIntA3S.l0]
    by_cases c : (i : Int) < (xs.length : Int)
    · have ci : i < xs.length := by omega
      have ei : (i : Int).toNat = i := by omega
      have k1 : decide ((i : Int) < (xs.length : Int)) = true := by simpa using c
      have k2 : 0 ≤ (i : Int) ∧ (i : Int) < (xs.length : Int) := ⟨by omega, c⟩
      have wi : IntKind.wrap .i64 ((i : Int) + 1) = ((i + 1 : Nat) : Int) := by rw [w64s (by omega) (by omega)]; omega
      have wa : IntKind.wrap .i64 (a + 1) = a + 1 := w64s (by omega) (by omega)
      have wb : IntKind.wrap .i64 (a + 1 + 1) = a + 2 := by rw [w64s (by omega) (by omega)]; omega
      have wc : IntKind.wrap .i64 (a + 2 + 1) = a + 3 := by rw [w64s (by omega) (by omega)]; omega
      have hs := set_take xs i (a, a + 1, a + 2) ci
      simp only [if_pos k1, if_pos k2, wi, wa, wb, wc, ei, List.set_set, List.length_set, set_getD _ _ _ _ ci]
      rw [markIntA3S_l0 j (i + 1) (xs.set i (a, a + 1, a + 2)) (a + 3) (by simp; omega) (by simp; omega) (by simp; omega) (by omega) (by simp; omega), hs]
      have e : xs.length - i = (xs.length - (i + 1)) + 1 := by omega
      simp only [List.length_set]
      rw [e]
      simp only [mark3L, List.append_assoc, List.singleton_append]
      congr 1
      omega
    · have k1 : ¬ decide ((i : Int) < (xs.length : Int)) = true := by simpa using c
      have e : i = xs.length := by omega
      subst e
      simp [k1, mark3L]
theorem markIntA3S_eq {n : Nat} {xs : List (Int × Int × Int)} {a : Int} (hx : xs.length ≤ 1048576) (ha : 0 ≤ a) (ha2 : a ≤ 8388608) (hn : 1048576 < n) : laws_markIntA3S.F n xs a = some (a + 3 * (xs.length : Int), mark3L a xs.length) := by
  unfold laws_markIntA3S.F
  have := markIntA3S_l0 (n := n) (K := fun y1 y2 => some (y2, y1)) n 0 xs a (by omega) (by omega) (by omega) ha (by omega)
  simp only [Int.natCast_zero] at this
  rw [this]
  simp
/-- Marks of a whole maze. -/
theorem markMaze_eq {n : Nat} {N a : Int} {ds : List (Int × Int × Int)} {ks : List Int} (hd : ds.length ≤ 1048576) (hk : ks.length ≤ 1048576) (ha : 0 ≤ a) (ha2 : a ≤ 1048576) (hn : 1048576 < n) :
    laws_markMaze.F n N ds ks a = some (a + 3 * (ds.length : Int) + (ks.length : Int), N, mark3L a ds.length, markL (a + 3 * (ds.length : Int)) ks.length) := by
  unfold laws_markMaze.F
  rw [markIntA3S_eq hd ha (by omega) hn, Option.bind_some, markIntS_eq hk (by omega) (by simp only; omega) hn, Option.bind_some]
/-! ### At the laws' own bounds -/
theorem toIntS_L {xs : List Int} (hx : xs.length ≤ 1048576) : laws_toIntS.F 2000000 xs = some xs := toIntS_eq (by omega) (by omega)
theorem eqIntS_L {xs : List Int} (hx : xs.length ≤ 1048576) : laws_eqIntS.F 2000000 xs xs = some true := eqIntS_self (by omega) (by omega)
theorem toMaze_L {a : Int} {xs : List (Int × Int × Int)} {ys : List Int} (hx : xs.length ≤ 1048576) (hy : ys.length ≤ 1048576) : laws_toMaze.F 2000000 a xs ys = some (a, xs, ys) := toMaze_eq (by omega) (by omega) (by omega) (by omega)
theorem eqMaze_L {a : Int} {xs : List (Int × Int × Int)} {ys : List Int} (hx : xs.length ≤ 1048576) (hy : ys.length ≤ 1048576) : laws_eqMaze.F 2000000 a xs ys a xs ys = some true := eqMaze_self (by omega) (by omega) (by omega) (by omega)
theorem beqB_self (b : Bool) : (!(b == b)) = false := by cases b <;> rfl
theorem neqI_self (a : Int) : (!decide (a = a)) = false := by simp
theorem ndec_neg {a : Int} (h : 0 ≤ a) : decide (a < 0) = false := by simpa using h
end Go.Pv
