/- Plain laws: the least numbers of steps to all states, told in two ways. -/
import Derived.Test.YtdejcakkibabcaaPvMem
set_option linter.unusedVariables false
set_option linter.unusedSimpArgs false
set_option autoImplicit false
namespace Go.Pv
open Go Go.Fx Go.Pf

/-- A node's key set behind a step. -/
def setK (ks : List Int) (s : Nat) (z : Int) : Nat := s ||| (ks.getD z.toNat 0).toNat
theorem setK_val {N : Int} {ds : List (Int × Int × Int)} {ks : List Int} (h : VM N ds ks) {z : Int} (hz : 0 ≤ z ∧ z < N) {s : Nat} (hs : s < 64) : bitOr .i64 (s : Int) (ks.getD z.toNat 0) = ((setK ks s z : Nat) : Int) ∧ setK ks s z < 64 := by
  have hkl := h.kl
  have hm := h.keys _ (getD_mem (l := ks) (i := z.toNat) (d := (0 : Int)) (by omega))
  have e : ks.getD z.toNat 0 = (((ks.getD z.toNat 0).toNat : Nat) : Int) := by omega
  have p : (2 : Nat) ^ 6 = 64 := by decide
  have p63 : (2 : Nat) ^ 63 = 9223372036854775808 := by decide
  unfold setK
  refine ⟨?_, ?_⟩
  · conv => lhs; rw [e]
    exact bitOr_nat (by omega) (by omega)
  · have := Nat.or_lt_two_pow (x := s) (y := (ks.getD z.toNat 0).toNat) (n := 6) (by omega) (by omega)
    omega
def idI (z : Int) (t : Int) : Int := z * 64 + t
theorem l4Id_eq (n : Nat) {z t : Int} (h1 : 0 ≤ z) (h2 : z ≤ 12) (h3 : 0 ≤ t) (h4 : t < 64) : spec_l4Id.F n z t = some (idI z t) := by
  unfold spec_l4Id.F idI
  rw [w64s (x := z * 64) (by omega) (by omega), w64s (by omega) (by omega)]

section
variable {n : Nat} {N : Int} {ds : List (Int × Int × Int)} {ks : List Int}
theorem l4Step_l0 (hn : 40 ≤ n) (h : VM N ds ks) {x : Int} {s : Nat} (hs : s < 64) {K : List Int → Option (List Int)} : ∀ (j y : Nat) (o : List Int), (y : Int) ≤ N → N.toNat - y < j → o.length ≤ y →
    spec_l4Step.l0 n K j x s N ds ks o y = K (o ++ (memF (stepsN ds x s) y (N.toNat - y)).map fun z => idI z ((setK ks s z : Nat) : Int))
  | 0, y, o, _, hj, _ => by omega
  | j + 1, y, o, hy, hj, ho => by
    rw [spec_l4Step.l0]
    have h1 := h.n1
    have h2 := h.n2
    by_cases c : (y : Int) < N
    · have k1 : decide ((y : Int) < N) = true := by simpa using c
      have hkl := h.kl
      have k2 : 0 ≤ (y : Int) ∧ (y : Int) < (ks.length : Int) := ⟨by omega, by omega⟩
      have wi : IntKind.wrap .i64 ((y : Int) + 1) = ((y + 1 : Nat) : Int) := by rw [w64s (by omega) (by omega)]; omega
      obtain ⟨o1, o2⟩ := setK_val h (z := (y : Int)) ⟨by omega, c⟩ hs
      have e : N.toNat - y = (N.toNat - (y + 1)) + 1 := by omega
      have k7 : o.length + ([idI (y : Int) ((setK ks s (y : Int) : Nat) : Int)] : List Int).length ≤ 4398046511104 := by simp only [List.length_singleton]; omega
      rw [if_pos k1, l2Open_eq (by have := h.dl; omega) (by have := h.dl; omega), Option.bind_some, wi]
      simp only [if_pos k2]
      rw [o1, l4Id_eq n (by omega) (by omega) (by omega) (by omega), Option.bind_some, if_pos k7, e, memF_succ, stepsN_bit h]
      cases openB ds x (y : Int) (s : Int) with
      | true =>
        simp only [if_true]
        rw [l4Step_l0 hn h hs j (y + 1) _ (by omega) (by omega) (by simp; omega)]
        simp
      | false =>
        simp only [Bool.false_eq_true, if_false]
        rw [l4Step_l0 hn h hs j (y + 1) _ (by omega) (by omega) (by omega)]
    · have k1 : ¬ decide ((y : Int) < N) = true := by simpa using c
      have e : N.toNat - y = 0 := by omega
      rw [if_neg k1, e]
      simp [memF]
theorem memF_cut {S : Nat} : ∀ (k m c : Nat), (∀ i, c + k ≤ i → S.testBit i = false) → memF S c (k + m) = memF S c k
  | 0, 0, c, h => rfl
  | 0, m + 1, c, h => by
    have hz : S.testBit c = false := h c (by omega)
    have := memF_cut 0 m (c + 1) (fun i hi => h i (by omega))
    rw [show 0 + (m + 1) = (0 + m) + 1 by omega, memF_succ, hz, this]
    simp [memF]
  | k + 1, m, c, h => by
    have ih := memF_cut k m (c + 1) (fun i hi => h i (by omega))
    rw [show k + 1 + m = (k + m) + 1 by omega, memF_succ, memF_succ, ih]
theorem steps_mem (h : VM N ds ks) {x s z : Int} (hz : z ∈ memL (stepsN ds x s)) : 0 ≤ z ∧ z < N := by
  obtain ⟨i, rfl, hb⟩ := (memL_mem (stepsN_lt h x s)).1 hz
  rw [stepsN_bit h] at hb
  have := openB_range h hb
  omega
theorem l4Step_eq (hn : 40 ≤ n) (h : VM N ds ks) (x : Int) {s : Nat} (hs : s < 64) : spec_l4Step.F n N ds ks x s = some ((memL (stepsN ds x s)).map fun z => idI z ((setK ks s z : Nat) : Int)) := by
  unfold spec_l4Step.F
  have h1 := h.n1
  have h2 := h.n2
  have := l4Step_l0 (n := n) hn h (x := x) hs (K := fun y3 => some y3) n 0 [] (by omega) (by omega) (by simp)
  simp only [Int.natCast_zero] at this
  rw [this]
  have e : memL (stepsN ds x s) = memF (stepsN ds x s) 0 (N.toNat - 0) := by
    unfold memL
    rw [show (12 : Nat) = (N.toNat - 0) + (12 - N.toNat) by omega]
    apply memF_cut
    intro i hi
    cases hb : (stepsN ds x s).testBit i with
    | false => rfl
    | true =>
      rw [stepsN_bit h] at hb
      have := openB_range h hb
      omega
  rw [e]
  simp

/-! ### One table for both -/
/-- The program's table: as many rows as there may be nodes. -/
def gridOf (o : List Int) : List Int := o ++ List.replicate (768 - o.length) (-1)
def cneg (o : List Int) : Nat := o.countP fun e => decide (e < 0)
theorem cneg_set : ∀ (o : List Int) (i : Nat) (v : Int), i < o.length → o.getD i 0 < 0 → 0 ≤ v → cneg (o.set i v) + 1 = cneg o
  | [], i, v, h, _, _ => by simp at h
  | e :: o, 0, v, h, h1, h2 => by
    simp only [List.getD_cons_zero] at h1
    have n : ¬ v < 0 := by omega
    simp [cneg, List.countP_cons, h1, n]
  | e :: o, i + 1, v, h, h1, h2 => by
    have := cneg_set o i v (by simpa using h) (by simpa using h1) h2
    simp only [cneg, List.set_cons_succ, List.countP_cons] at this ⊢
    omega
theorem cneg_le (o : List Int) : cneg o ≤ o.length := List.countP_le_length
structure Tab (N : Int) (V : Int → Int → Prop) (o : List Int) (Q : List (Int × Int)) : Prop where
  len : (o.length : Int) = N * 64
  low : ∀ e ∈ o, -1 ≤ e ∧ e + (cneg o : Int) ≤ 768
  que : ∀ p ∈ Q, ((0 ≤ p.1 ∧ p.1 < N) ∧ (0 ≤ p.2 ∧ p.2 < 64) ∧ 0 ≤ o.getD (idI p.1 p.2).toNat 0) ∧ V p.1 p.2
  vis : ∀ z t : Int, 0 ≤ z → z < N → 0 ≤ t → t < 64 → 0 ≤ o.getD (idI z t).toNat 0 → V z t

theorem set_getD' {α : Type} {o : List α} {i : Nat} {v d : α} (h : i < o.length) : (o.set i v).getD i d = v := by
  simp [List.getD_eq_getElem?_getD, h]
theorem getD_set_ne {α : Type} (o : List α) {i k : Nat} (v d : α) (h : i ≠ k) : (o.set i v).getD k d = o.getD k d := by
  rw [List.getD_eq_getElem?_getD, List.getElem?_set_ne h, ← List.getD_eq_getElem?_getD]
theorem grid_get {o : List Int} {i : Nat} (h : i < o.length) (d : Int) : (gridOf o).getD i d = o.getD i d := by
  unfold gridOf
  rw [List.getD_eq_getElem?_getD, List.getElem?_append_left h, ← List.getD_eq_getElem?_getD]
theorem grid_set {o : List Int} {i : Nat} (h : i < o.length) (v : Int) : (gridOf o).set i v = gridOf (o.set i v) := by
  unfold gridOf
  rw [List.set_append_left _ _ h, List.length_set]

end
end Go.Pv
