/- Plain laws: the least numbers of steps to all states, told in two ways. -/
import Derived.Test.YtdejcakkibabcaaPvMem
set_option linter.unusedVariables false
set_option linter.unusedSimpArgs false
set_option autoImplicit false
namespace Go.Pv
open Go Go.Fx Go.Pf

/-- A node's key set behind a step. -/
def setK (ks : List Int) (s : Nat) (z : Int) : Nat := s ||| (ks.getD z.toNat 0).toNat
theorem setK_val {N : Int} {ds : List (Int × Int × Int)} {ks : List Int} (h : VM N ds ks) {z : Int} (hz : 0 ≤ z ∧ z < N) {s : Nat} (hs : s < 64) : bitOr .i64 (s : Int) (ks.getD z.toNat 0) = ((setK ks s z : Nat) : Int) ∧ setK ks s z < 64 := by
  have hkl := h.kl
  have hm := h.keys _ (getD_mem (l := ks) (i := z.toNat) (d := (0 : Int)) (by omega))
  have e : ks.getD z.toNat 0 = (((ks.getD z.toNat 0).toNat : Nat) : Int) := by omega
  have p : (2 : Nat) ^ 6 = 64 := by decide
  have p63 : (2 : Nat) ^ 63 = 9223372036854775808 := by decide
  unfold setK
  refine ⟨?_, ?_⟩
  · conv => lhs; rw [e]
    exact bitOr_nat (by omega) (by omega)
  · have := Nat.or_lt_two_pow (x := s) (y := (ks.getD z.toNat 0).toNat) (n := 6) (by omega) (by omega)
    omega
def idI (z : Int) (t : Int) : Int := z * 64 + t
theorem l4Id_eq (n : Nat) {z t : Int} (h1 : 0 ≤ z) (h2 : z ≤ 12) (h3 : 0 ≤ t) (h4 : t < 64) : spec_l4Id.F n z t = some (idI z t) := by
  unfold spec_l4Id.F idI
  rw [w64s (x := z * 64) (by omega) (by omega), w64s (by omega) (by omega)]

section
variable {n : Nat} {N : Int} {ds : List (Int × Int × Int)} {ks : List Int}
theorem l4Step_l0 (hn : 40 ≤ n) (h : VM N ds ks) {x : Int} {s : Nat} (hs : s < 64) {K : List Int → Option (List Int)} : ∀ (j y : Nat) (o : List Int), (y : Int) ≤ N → N.toNat - y < j → o.length ≤ y →
    spec_l4Step.l0 n K j x s N ds ks o y = K (o ++ (memF (stepsN ds x s) y (N.toNat - y)).map fun z => idI z ((setK ks s z : Nat) : Int))
  | 0, y, o, _, hj, _ => by omega
  | j + 1, y, o, hy, hj, ho => by
    rw [spec_l4Step.l0]
    have h1 := h.n1
    have h2 := h.n2
    by_cases c : (y : Int) < N
    · have k1 : decide ((y : Int) < N) = true := by simpa using c
      have hkl := h.kl
      have k2 : 0 ≤ (y : Int) ∧ (y : Int) < (ks.length : Int) := ⟨by omega, by omega⟩
      have wi : IntKind.wrap .i64 ((y : Int) + 1) = ((y + 1 : Nat) : Int) := by rw [w64s (by omega) (by omega)]; omega
      obtain ⟨o1, o2⟩ := setK_val h (z := (y : Int)) ⟨by omega, c⟩ hs
      have e : N.toNat - y = (N.toNat - (y + 1)) + 1 := by omega
      have k7 : o.length + ([idI (y : Int) ((setK ks s (y : Int) : Nat) : Int)] : List Int).length ≤ 4398046511104 := by simp only [List.length_singleton]; omega
      rw [if_pos k1, l2Open_eq (by have := h.dl; omega) (by have := h.dl; omega), Option.bind_some, wi]
      simp only [if_pos k2]
      rw [o1, l4Id_eq n (by omega) (by omega) (by omega) (by omega), Option.bind_some, if_pos k7, e, memF_succ, stepsN_bit h]
      cases openB ds x (y : Int) (s : Int) with
      | true =>
        simp only [if_true]
        rw [l4Step_l0 hn h hs j (y + 1) _ (by omega) (by omega) (by simp; omega)]
        simp
      | false =>
        simp only [Bool.false_eq_true, if_false]
        rw [l4Step_l0 hn h hs j (y + 1) _ (by omega) (by omega) (by omega)]
    · have k1 : ¬ decide ((y : Int) < N) = true := by simpa using c
      have e : N.toNat - y = 0 := by omega
      rw [if_neg k1, e]
      simp [memF]
theorem memF_cut {S : Nat} : ∀ (k m c : Nat), (∀ i, c + k ≤ i → S.testBit i = false) → memF S c (k + m) = memF S c k
  | 0, 0, c, h => rfl
  | 0, m + 1, c, h => by
    have hz : S.testBit c = false := h c (by omega)
    have := memF_cut 0 m (c + 1) (fun i hi => h i (by omega))
    rw [show 0 + (m + 1) = (0 + m) + 1 by omega, memF_succ, hz, this]
    simp [memF]
  | k + 1, m, c, h => by
    have ih := memF_cut k m (c + 1) (fun i hi => h i (by omega))
    rw [show k + 1 + m = (k + m) + 1 by omega, memF_succ, memF_succ, ih]
theorem steps_mem (h : VM N ds ks) {x s z : Int} (hz : z ∈ memL (stepsN ds x s)) : 0 ≤ z ∧ z < N := by
  obtain ⟨i, rfl, hb⟩ := (memL_mem (stepsN_lt h x s)).1 hz
  rw [stepsN_bit h] at hb
  have := openB_range h hb
  omega
theorem l4Step_eq (hn : 40 ≤ n) (h : VM N ds ks) (x : Int) {s : Nat} (hs : s < 64) : spec_l4Step.F n N ds ks x s = some ((memL (stepsN ds x s)).map fun z => idI z ((setK ks s z : Nat) : Int)) := by
  unfold spec_l4Step.F
  have h1 := h.n1
  have h2 := h.n2
  have := l4Step_l0 (n := n) hn h (x := x) hs (K := fun y3 => some y3) n 0 [] (by omega) (by omega) (by simp)
  simp only [Int.natCast_zero] at this
  rw [this]
  have e : memL (stepsN ds x s) = memF (stepsN ds x s) 0 (N.toNat - 0) := by
    unfold memL
    rw [show (12 : Nat) = (N.toNat - 0) + (12 - N.toNat) by omega]
    apply memF_cut
    intro i hi
    cases hb : (stepsN ds x s).testBit i with
    | false => rfl
    | true =>
      rw [stepsN_bit h] at hb
      have := openB_range h hb
      omega
  rw [e]
  simp

/-! ### One table for both -/
/-- The program's table: as many rows as there may be nodes. -/
def gridOf (o : List Int) : List Int := o ++ List.replicate (768 - o.length) (-1)
def cneg (o : List Int) : Nat := o.countP fun e => decide (e < 0)
theorem cneg_set : ∀ (o : List Int) (i : Nat) (v : Int), i < o.length → o.getD i 0 < 0 → 0 ≤ v → cneg (o.set i v) + 1 = cneg o
  | [], i, v, h, _, _ => by simp at h
  | e :: o, 0, v, h, h1, h2 => by
    simp only [List.getD_cons_zero] at h1
    have n : ¬ v < 0 := by omega
    simp [cneg, List.countP_cons, h1, n]
  | e :: o, i + 1, v, h, h1, h2 => by
    have := cneg_set o i v (by simpa using h) (by simpa using h1) h2
    simp only [cneg, List.set_cons_succ, List.countP_cons] at this ⊢
    omega
theorem cneg_le (o : List Int) : cneg o ≤ o.length := List.countP_le_length
structure Tab (N : Int) (V : Int → Int → Prop) (o : List Int) (Q : List (Int × Int)) : Prop where
  len : (o.length : Int) = N * 64
  low : ∀ e ∈ o, -1 ≤ e ∧ e + (cneg o : Int) ≤ 768
  que : ∀ p ∈ Q, ((0 ≤ p.1 ∧ p.1 < N) ∧ (0 ≤ p.2 ∧ p.2 < 64) ∧ 0 ≤ o.getD (idI p.1 p.2).toNat 0) ∧ V p.1 p.2
  vis : ∀ z t : Int, 0 ≤ z → z < N → 0 ≤ t → t < 64 → 0 ≤ o.getD (idI z t).toNat 0 → V z t

theorem set_getD' {α : Type} {o : List α} {i : Nat} {v d : α} (h : i < o.length) : (o.set i v).getD i d = v := by
  simp [List.getD_eq_getElem?_getD, h]
theorem getD_set_ne {α : Type} (o : List α) {i k : Nat} (v d : α) (h : i ≠ k) : (o.set i v).getD k d = o.getD k d := by
  rw [List.getD_eq_getElem?_getD, List.getElem?_set_ne h, ← List.getD_eq_getElem?_getD]
theorem grid_get {o : List Int} {i : Nat} (h : i < o.length) (d : Int) : (gridOf o).getD i d = o.getD i d := by
  unfold gridOf
  rw [List.getD_eq_getElem?_getD, List.getElem?_append_left h, ← List.getD_eq_getElem?_getD]
theorem grid_set {o : List Int} {i : Nat} (h : i < o.length) (v : Int) : (gridOf o).set i v = gridOf (o.set i v) := by
  unfold gridOf
  rw [List.set_append_left _ _ h, List.length_set]

theorem dist_inner (h : VM N ds ks) {V : Int → Int → Prop} {y : Int} {s : Nat} (hs : s < 64) {zs : List Int} (hzl : zs.length ≤ 12) (hz : ∀ z ∈ zs, 0 ≤ z ∧ z < N) (hy : 0 ≤ y ∧ y < N) (hV : ∀ z ∈ zs, V z ((setK ks s z : Nat) : Int))
    {K : Int → List (Int × Int × Int) → List Int → List Int → List Int → Int → Option (List Int)} {K' : Int → List (Int × Int × Int) → List Int → List Int → List Int → List (Int × Int) → Option (List Int)} {g0 : List Int} {i : Nat} {Q0 : List (Int × Int)} :
    ∀ (j c : Nat) (o : List Int) (Q : List Int) (T : List (Int × Int)), zs.length - c < j → Tab N V o ((y, (s : Int)) :: Q0 ++ T) → Q.length ≤ 2000 + c → T.length ≤ 2000 + c → i < Q.length → Q.getD i 0 = idI y s →
      ∃ o' ext, Tab N V o' (((y, (s : Int)) :: Q0 ++ T) ++ ext) ∧ cneg o' + ext.length = cneg o ∧
        spec_l4Spread.l4 n K j N ds ks o Q i (zs.map fun z => idI z ((setK ks s z : Nat) : Int)) c = K N ds ks o' (Q ++ ext.map fun p => idI p.1 p.2) i ∧
        impl_distances.l6 n K' j N ds ks g0 (gridOf o) T y s zs zs.length c = K' N ds ks g0 (gridOf o') (T ++ ext)
  | 0, c, o, Q, T, hj, _, _, _, _, _ => by omega
  | j + 1, c, o, Q, T, hj, ht, hQ, hT, hi, hq => by
    rw [spec_l4Spread.l4, impl_distances.l6]
    have h1 := h.n1
    have h2 := h.n2
    by_cases cc : (c : Int) < (zs.length : Int)
    · have ci : c < zs.length := by omega
      have ec : (c : Int).toNat = c := by omega
      have ei : (i : Int).toNat = i := by omega
      have k1 : decide ((c : Int) < (zs.length : Int)) = true := by simpa using cc
      have k2 : 0 ≤ (c : Int) ∧ (c : Int) < (zs.length : Int) := ⟨by omega, cc⟩
      have lm : (zs.map fun z => idI z ((setK ks s z : Nat) : Int)).length = zs.length := by simp
      have gm : (zs.map fun z => idI z ((setK ks s z : Nat) : Int)).getD c 0 = idI (zs.getD c 0) ((setK ks s (zs.getD c 0) : Nat) : Int) := by
        rw [List.getD_eq_getElem?_getD, List.getD_eq_getElem?_getD, List.getElem?_map, List.getElem?_eq_getElem ci]; rfl
      have wc : IntKind.wrap .i64 ((c : Int) + 1) = ((c + 1 : Nat) : Int) := by rw [w64s (by omega) (by omega)]; omega
      have hzm := hz _ (getD_mem (d := (0 : Int)) ci)
      have hVz := hV _ (getD_mem (d := (0 : Int)) ci)
      have hkl := h.kl
      simp only [lm, if_pos k1, if_pos k2, ec, ei, gm, wc, hq]
      generalize zs.getD c 0 = z at *
      obtain ⟨o1, o2⟩ := setK_val h hzm hs
      have k3 : 0 ≤ z ∧ z < (ks.length : Int) := ⟨hzm.1, by omega⟩
      rw [o1]
      simp only [if_pos k3]
      generalize setK ks s z = t at *
      have hlen := ht.len
      have hp := (ht.que (y, (s : Int)) (by simp)).1
      have k4 : 0 ≤ idI z (t : Int) ∧ idI z (t : Int) < (o.length : Int) := by unfold idI; omega
      have k5 : 0 ≤ idI y (s : Int) ∧ idI y (s : Int) < (o.length : Int) := by unfold idI; omega
      have g1 : 0 ≤ z ∧ z < (12 : Int) ∧ 0 + z.toNat * 64 < 768 := by omega
      have g2 : 0 ≤ (t : Int) ∧ (t : Int) < (64 : Int) ∧ (idI z (t : Int)).toNat < 768 := by unfold idI; omega
      have g3 : 0 ≤ y ∧ y < (12 : Int) ∧ 0 + y.toNat * 64 < 768 := by omega
      have g4 : 0 ≤ (s : Int) ∧ (s : Int) < (64 : Int) ∧ (idI y (s : Int)).toNat < 768 := by unfold idI; omega
      have e1 : 0 + z.toNat * 64 + (t : Int).toNat * 1 = (idI z (t : Int)).toNat := by unfold idI; omega
      have e2 : 0 + y.toNat * 64 + (s : Int).toNat * 1 = (idI y (s : Int)).toNat := by unfold idI; omega
      have k6 : 0 ≤ (i : Int) ∧ (i : Int) < (Q.length : Int) := ⟨by omega, by omega⟩
      have k7 : Q.length + ([idI z (t : Int)] : List Int).length ≤ 4398046511104 := by simp only [List.length_singleton]; omega
      have k8 : T.length + ([(z, (t : Int))] : List (Int × Int)).length ≤ 4398046511104 := by simp only [List.length_singleton]; omega
      have i1 : (idI z (t : Int)).toNat < o.length := by omega
      have i2 : (idI y (s : Int)).toNat < o.length := by omega
      simp only [if_pos g1, if_pos g2, if_pos g3, if_pos g4, if_pos k4, if_pos k5, if_pos k6, if_pos k7, if_pos k8, e1, e2, grid_get i1, grid_get i2]
      by_cases c1 : o.getD (idI z (t : Int)).toNat 0 < 0
      · rw [if_pos (by rw [decide_eq_true_eq]; exact c1), if_pos (by rw [decide_eq_true_eq]; exact c1), grid_set i1]
        have hv := ht.low _ (getD_mem (d := (0 : Int)) i2)
        have hpos : 0 ≤ o.getD (idI y (s : Int)).toNat 0 := hp.2.2
        have hcp : 0 < cneg o := by
          have := cneg_set o _ 0 i1 c1 (Int.le_refl 0)
          omega
        have wv : IntKind.wrap .i64 (o.getD (idI y (s : Int)).toNat 0 + 1) = o.getD (idI y (s : Int)).toNat 0 + 1 := w64s (by omega) (by omega)
        rw [wv]
        have hcs := cneg_set o (idI z (t : Int)).toNat (o.getD (idI y (s : Int)).toNat 0 + 1) i1 c1 (by omega)
        have hne : (idI z (t : Int)).toNat ≠ (idI y (s : Int)).toNat := fun e => by rw [e] at c1; omega
        have htab : Tab N V (o.set (idI z (t : Int)).toNat (o.getD (idI y (s : Int)).toNat 0 + 1)) ((y, (s : Int)) :: Q0 ++ (T ++ [(z, (t : Int))])) := by
          refine ⟨by simpa using hlen, ?_, ?_, ?_⟩
          · intro e he
            rcases List.mem_or_eq_of_mem_set he with he | he
            · have := ht.low e he
              omega
            · omega
          · intro p hp2
            have hsplit : p ∈ (y, (s : Int)) :: Q0 ++ T ∨ p = (z, (t : Int)) := by
              rw [← List.append_assoc, List.mem_append, List.mem_singleton] at hp2
              exact hp2
            rcases hsplit with hp2 | rfl
            · have hq2 := (ht.que p hp2).1
              refine ⟨⟨hq2.1, hq2.2.1, ?_⟩, (ht.que p hp2).2⟩
              by_cases e : (idI z (t : Int)).toNat = (idI p.1 p.2).toNat
              · rw [← e, set_getD' i1]; omega
              · rw [getD_set_ne _ _ _ e]; exact hq2.2.2
            · refine ⟨⟨hzm, ⟨by omega, by omega⟩, ?_⟩, hVz⟩
              rw [set_getD' i1]; omega
          · intro z2 t2 a1 a2 a3 a4 a5
            by_cases e : (idI z (t : Int)).toNat = (idI z2 t2).toNat
            · have : z2 = z ∧ t2 = (t : Int) := by unfold idI at e; omega
              rw [this.1, this.2]
              exact hVz
            · rw [getD_set_ne _ _ _ e] at a5
              exact ht.vis z2 t2 a1 a2 a3 a4 a5
        obtain ⟨o', ext, r1, r2, r3, r4⟩ := dist_inner h hs hzl hz hy hV (K := K) (K' := K') (g0 := g0) (i := i) (Q0 := Q0) j (c + 1) (o.set (idI z (t : Int)).toNat (o.getD (idI y (s : Int)).toNat 0 + 1)) (Q ++ [idI z (t : Int)]) (T ++ [(z, (t : Int))]) (by omega) htab (by simp; omega) (by simp; omega) (by simp; omega)
          (by rw [List.getD_eq_getElem?_getD, List.getElem?_append_left hi, ← List.getD_eq_getElem?_getD]; exact hq)
        refine ⟨o', (z, (t : Int)) :: ext, ?_, by simp only [List.length_cons]; omega, ?_, ?_⟩
        · have : ((y, (s : Int)) :: Q0 ++ (T ++ [(z, (t : Int))])) ++ ext = ((y, (s : Int)) :: Q0 ++ T) ++ (z, (t : Int)) :: ext := by simp
          rw [← this]; exact r1
        · rw [r3]; simp
        · rw [r4]; simp
      · rw [if_neg (by rw [decide_eq_true_eq]; exact c1), if_neg (by rw [decide_eq_true_eq]; exact c1)]
        exact dist_inner h hs hzl hz hy hV j (c + 1) o Q T (by omega) ht (by omega) (by omega) hi hq
    · have k1 : ¬ decide ((c : Int) < (zs.length : Int)) = true := by simpa using cc
      have lm : (zs.map fun z => idI z ((setK ks s z : Nat) : Int)).length = zs.length := by simp
      rw [lm, if_neg k1, if_neg k1]
      exact ⟨o, [], by simpa using ht, by simp, by simp, by simp⟩
end
end Go.Pv
