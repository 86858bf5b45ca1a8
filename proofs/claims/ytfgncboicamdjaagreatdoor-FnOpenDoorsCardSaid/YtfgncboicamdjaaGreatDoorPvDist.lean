/- Plain laws: the least numbers of steps to all states, told in two ways. -/
import Derived.Test.YtfgncboicamdjaaGreatDoorPvMem
set_option linter.unusedVariables false
set_option linter.unusedSimpArgs false
set_option autoImplicit false
namespace Go.Pv
open Go Go.Fx Go.Pf

/-- A node's key set behind a step. -/
def setK (ks : List Int) (s : Nat) (z : Int) : Nat := s ||| (ks.getD z.toNat 0).toNat
theorem setK_val {N : Int} {ds : List (Int × Int × Int)} {ks : List Int} (h : VM N ds ks) {z : Int} (hz : 0 ≤ z ∧ z < N) {s : Nat} (hs : s < 64) : bitOr .i64 (s : Int) (ks.getD z.toNat 0) = ((setK ks s z : Nat) : Int) ∧ setK ks s z < 64 := by
  have hkl := h.kl
  have hm := h.keys _ (getD_mem (l := ks) (i := z.toNat) (d := (0 : Int)) (by omega))
  have e : ks.getD z.toNat 0 = (((ks.getD z.toNat 0).toNat : Nat) : Int) := by omega
  have p : (2 : Nat) ^ 6 = 64 := by decide
  have p63 : (2 : Nat) ^ 63 = 9223372036854775808 := by decide
  unfold setK
  refine ⟨?_, ?_⟩
  · conv => lhs; rw [e]
    exact bitOr_nat (by omega) (by omega)
  · have := Nat.or_lt_two_pow (x := s) (y := (ks.getD z.toNat 0).toNat) (n := 6) (by omega) (by omega)
    omega
def idI (z : Int) (t : Int) : Int := z * 64 + t
section
variable {n : Nat} {N : Int} {ds : List (Int × Int × Int)} {ks : List Int}
theorem memF_cut {S : Nat} : ∀ (k m c : Nat), (∀ i, c + k ≤ i → S.testBit i = false) → memF S c (k + m) = memF S c k
  | 0, 0, c, h => rfl
  | 0, m + 1, c, h => by
    have hz : S.testBit c = false := h c (by omega)
    have := memF_cut 0 m (c + 1) (fun i hi => h i (by omega))
    rw [show 0 + (m + 1) = (0 + m) + 1 by omega, memF_succ, hz, this]
    simp [memF]
  | k + 1, m, c, h => by
    have ih := memF_cut k m (c + 1) (fun i hi => h i (by omega))
    rw [show k + 1 + m = (k + m) + 1 by omega, memF_succ, memF_succ, ih]
theorem steps_mem (h : VM N ds ks) {x s z : Int} (hz : z ∈ memL (stepsN ds x s)) : 0 ≤ z ∧ z < N := by
  obtain ⟨i, rfl, hb⟩ := (memL_mem (stepsN_lt h x s)).1 hz
  rw [stepsN_bit h] at hb
  have := openB_range h hb
  omega
/-! ### One table for both -/
/-- The program's table: as many rows as there may be nodes. -/
def gridOf (o : List Int) : List Int := o ++ List.replicate (768 - o.length) (-1)
def cneg (o : List Int) : Nat := o.countP fun e => decide (e < 0)
theorem cneg_set : ∀ (o : List Int) (i : Nat) (v : Int), i < o.length → o.getD i 0 < 0 → 0 ≤ v → cneg (o.set i v) + 1 = cneg o
  | [], i, v, h, _, _ => by simp at h
  | e :: o, 0, v, h, h1, h2 => by
    simp only [List.getD_cons_zero] at h1
    have n : ¬ v < 0 := by omega
    simp [cneg, List.countP_cons, h1, n]
  | e :: o, i + 1, v, h, h1, h2 => by
    have := cneg_set o i v (by simpa using h) (by simpa using h1) h2
    simp only [cneg, List.set_cons_succ, List.countP_cons] at this ⊢
    omega
theorem cneg_le (o : List Int) : cneg o ≤ o.length := List.countP_le_length
structure Tab (N : Int) (V : Int → Int → Prop) (o : List Int) (Q : List (Int × Int)) : Prop where
  len : (o.length : Int) = N * 64
  low : ∀ e ∈ o, -1 ≤ e ∧ e + (cneg o : Int) ≤ 768
  que : ∀ p ∈ Q, ((0 ≤ p.1 ∧ p.1 < N) ∧ (0 ≤ p.2 ∧ p.2 < 64) ∧ 0 ≤ o.getD (idI p.1 p.2).toNat 0) ∧ V p.1 p.2
  vis : ∀ z t : Int, 0 ≤ z → z < N → 0 ≤ t → t < 64 → 0 ≤ o.getD (idI z t).toNat 0 → V z t

theorem set_getD' {α : Type} {o : List α} {i : Nat} {v d : α} (h : i < o.length) : (o.set i v).getD i d = v := by
  simp [List.getD_eq_getElem?_getD, h]
theorem getD_set_ne {α : Type} (o : List α) {i k : Nat} (v d : α) (h : i ≠ k) : (o.set i v).getD k d = o.getD k d := by
  rw [List.getD_eq_getElem?_getD, List.getElem?_set_ne h, ← List.getD_eq_getElem?_getD]
theorem grid_get {o : List Int} {i : Nat} (h : i < o.length) (d : Int) : (gridOf o).getD i d = o.getD i d := by
  unfold gridOf
  rw [List.getD_eq_getElem?_getD, List.getElem?_append_left h, ← List.getD_eq_getElem?_getD]
theorem grid_set {o : List Int} {i : Nat} (h : i < o.length) (v : Int) : (gridOf o).set i v = gridOf (o.set i v) := by
  unfold gridOf
  rw [List.set_append_left _ _ h, List.length_set]

end
end Go.Pv
