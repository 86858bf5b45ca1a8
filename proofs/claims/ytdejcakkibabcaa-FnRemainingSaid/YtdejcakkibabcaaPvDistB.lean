/- Plain laws: the tables of steps are the same. -/
import Derived.Test.YtdejcakkibabcaaPvDist
set_option linter.unusedVariables false
set_option linter.unusedSimpArgs false
set_option autoImplicit false
namespace Go.Pv
open Go Go.Fx Go.Pf
section
variable {n : Nat} {N : Int} {ds : List (Int × Int × Int)} {ks : List Int}

theorem dist_outer (hn : 2000 ≤ n) (h : VM N ds ks) {V : Int → Int → Prop} (hV : ∀ (y : Int) (s : Nat), s < 64 → V y s → ∀ z ∈ memL (stepsN ds y s), V z ((setK ks s z : Nat) : Int)) {K : List Int → Option (List Int)} {K' : List Int → List Int → Option (List Int)} {g0 : List Int} :
    ∀ (j i : Nat) (o : List Int) (Q : List Int) (T : List (Int × Int)), T.length + cneg o < j → Tab N V o T → Q.drop i = T.map (fun p => idI p.1 p.2) → i ≤ Q.length → Q.length + cneg o ≤ 800 →
      ∃ o', (o'.length : Int) = N * 64 ∧ (∀ e ∈ o', -1 ≤ e ∧ e ≤ 768) ∧ (∀ z t : Int, 0 ≤ z → z < N → 0 ≤ t → t < 64 → 0 ≤ o'.getD (idI z t).toNat 0 → V z t) ∧ spec_l4Spread.l2 n K j N ds ks o Q i = K o' ∧ impl_distances.l4 n K' j N ds ks g0 (gridOf o) T = K' g0 (gridOf o')
  | 0, i, o, Q, T, hj, _, _, _, _ => by omega
  | j + 1, i, o, Q, T, hj, ht, hd, hi, hb => by
    rw [spec_l4Spread.l2, impl_distances.l4]
    have h1 := h.n1
    have h2 := h.n2
    have hTl : T.length = Q.length - i := by
      have := congrArg List.length hd
      simpa using this.symm
    cases T with
    | nil =>
      have c : ¬ decide ((i : Int) < (Q.length : Int)) = true := by
        simp only [List.length_nil] at hTl
        rw [decide_eq_true_eq]; omega
      rw [if_neg c, if_neg (by simp)]
      exact ⟨o, ht.len, fun e he => by have := ht.low e he; omega, ht.vis, rfl, rfl⟩
    | cons p T =>
      simp only [List.length_cons] at hTl hj
      have ci : i < Q.length := by omega
      have k1 : decide ((i : Int) < (Q.length : Int)) = true := by rw [decide_eq_true_eq]; omega
      have k2 : 0 ≤ (i : Int) ∧ (i : Int) < (Q.length : Int) := ⟨by omega, by omega⟩
      have ei : (i : Int).toNat = i := by omega
      have k3 : decide (((p :: T).length : Int) > 0) = true := by rw [decide_eq_true_eq, List.length_cons]; omega
      have k4 : (0 : Int) ≤ 0 ∧ (0 : Int) < ((p :: T).length : Int) := by simp only [List.length_cons]; omega
      have hg : (p :: T).getD 0 ((0 : Int), (0 : Int)) = p := rfl
      obtain ⟨y, s0⟩ := p
      have hp0 := ht.que (y, s0) (by simp)
      simp only at hp0
      have hp := hp0.1
      obtain ⟨s, rfl⟩ : ∃ s : Nat, s0 = (s : Int) := ⟨s0.toNat, by omega⟩
      have hs : s < 64 := by omega
      have hQi : Q.getD i 0 = idI y (s : Int) := by
        have e := getD_drop (d := (0 : Int)) ci
        rw [hd] at e
        simp only [List.map_cons, List.cons.injEq] at e
        exact e.1.symm
      have hnn : 0 ≤ idI y (s : Int) := by unfold idI; omega
      have e1 : Int.tdiv (idI y (s : Int)) 64 = y := by rw [Int.tdiv_eq_ediv_of_nonneg hnn]; unfold idI; omega
      have e2 : Int.tmod (idI y (s : Int)) 64 = (s : Int) := by rw [Int.tmod_eq_emod_of_nonneg hnn]; unfold idI; omega
      have wy : IntKind.wrap .i64 y = y := w64s (by omega) (by omega)
      have wi : IntKind.wrap .i64 ((i : Int) + 1) = ((i + 1 : Nat) : Int) := by rw [w64s (by omega) (by omega)]; omega
      simp only [if_pos k1, if_pos k2, if_pos k3, if_pos k4, ei, hg, hQi, e1, e2, wy]
      rw [l4Step_eq (by omega) h y hs, Option.bind_some, steps_eq (by omega) h, Option.bind_some, members_eq (by omega) (stepsN_lt h _ _), Option.bind_some]
      have hml := memL_length (stepsN ds y (s : Int))
      have hcl := cneg_le o
      have htab : Tab N V o ((y, (s : Int)) :: [] ++ ((y, (s : Int)) :: T)) := ⟨ht.len, ht.low, (fun p hp2 => by
        rcases List.mem_append.1 hp2 with hp2 | hp2
        · rw [List.mem_singleton] at hp2; subst hp2; exact ht.que _ (by simp)
        · exact ht.que p hp2), ht.vis⟩
      obtain ⟨o', ext, r1, r2, r3, r4⟩ := dist_inner (n := n) h hs hml (fun z hz => steps_mem h hz) hp.1 (hV y s hs hp0.2)
        (K := fun y9 y10 y11 y12 y13 y14 => spec_l4Spread.l2 n K j y9 y10 y11 y12 y13 (IntKind.wrap .i64 (y14 + (1 : Int))))
        (K' := fun y18 y19 y20 y21 y22 y23 => if 0 ≤ (1 : Int) ∧ (1 : Int) ≤ (y23.length : Int) then (impl_distances.l4 n K' j y18 y19 y20 y21 y22 (y23.drop 1)) else none) (g0 := g0) (i := i) (Q0 := [])
        n 0 o Q ((y, (s : Int)) :: T) (by omega) htab (by omega) (by simp only [List.length_cons]; omega) ci hQi
      simp only [Int.natCast_zero] at r3 r4
      rw [r3, r4, wi]
      have k5 : (0 : Int) ≤ 1 ∧ (1 : Int) ≤ ((((y, (s : Int)) :: T) ++ ext).length : Int) := by simp only [List.length_append, List.length_cons]; omega
      rw [if_pos k5]
      have hdrop : (((y, (s : Int)) :: T) ++ ext).drop 1 = T ++ ext := rfl
      rw [hdrop]
      have r1' : Tab N V o' (T ++ ext) := ⟨r1.len, r1.low, (fun p hp2 => r1.que p (by
        rcases List.mem_append.1 hp2 with hp2 | hp2
        · simp [hp2]
        · simp [hp2])), r1.vis⟩
      refine dist_outer hn h hV j (i + 1) o' (Q ++ ext.map fun p => idI p.1 p.2) (T ++ ext) ?_ r1' ?_ ?_ ?_
      · rw [List.length_append]; omega
      · rw [List.drop_append_of_le_length (by omega)]
        have e := getD_drop (d := (0 : Int)) ci
        rw [hd] at e
        simp only [List.map_cons, List.cons.injEq] at e
        rw [← e.2, List.map_append]
      · simp only [List.length_append, List.length_map]; omega
      · simp only [List.length_append, List.length_map]; omega

/-! ### Both tables at first -/
def fillG (m c : Nat) : List Int := List.replicate c (-1) ++ List.replicate (m - c) 0
theorem fillG_set {m c : Nat} (h : c < m) : (fillG m c).set c (-1) = fillG m (c + 1) := by
  unfold fillG
  rw [List.set_append_right _ _ (by simp)]
  simp only [List.length_replicate, Nat.sub_self]
  have e : m - c = (m - (c + 1)) + 1 := by omega
  rw [e, List.replicate_succ, List.set_cons_zero]
  have e2 : List.replicate (c + 1) (-1 : Int) = List.replicate c (-1) ++ [-1] := by
    rw [List.replicate_succ']
  rw [e2]
  simp
theorem fillG_length {m c : Nat} (h : c ≤ m) : (fillG m c).length = m := by unfold fillG; simp; omega
theorem fill_l2 {K : Int → Int → Int → List (Int × Int × Int) → List Int → List Int → List Int → Int → Option (List Int)} {x s : Int} {g0 : List Int} {y : Nat} (hy : y < 12) : ∀ (j c : Nat), 64 - c < j → c ≤ 64 →
    impl_distances.l2 n K j x s N ds ks g0 (fillG 768 (y * 64 + c)) y y c = K x s N ds ks g0 (fillG 768 (y * 64 + 64)) y
  | 0, c, hj, _ => by omega
  | j + 1, c, hj, hc => by
    rw [impl_distances.l2]
    by_cases cc : c < 64
    · have k1 : decide ((c : Int) < 64) = true := by rw [decide_eq_true_eq]; omega
      have g1 : 0 ≤ (y : Int) ∧ (y : Int) < (12 : Int) ∧ 0 + (y : Int).toNat * 64 < 768 := by omega
      have e : 0 + (y : Int).toNat * 64 + (c : Int).toNat * 1 = y * 64 + c := by omega
      have g2 : 0 ≤ (c : Int) ∧ (c : Int) < (64 : Int) ∧ y * 64 + c < 768 := by omega
      have wc : IntKind.wrap .i64 ((c : Int) + 1) = ((c + 1 : Nat) : Int) := by rw [w64s (by omega) (by omega)]; omega
      simp only [if_pos k1, if_pos g1, e, if_pos g2, wc, fillG_set (show y * 64 + c < 768 by omega)]
      exact fill_l2 hy j (c + 1) (by omega) (by omega)
    · have k1 : ¬ decide ((c : Int) < 64) = true := by rw [decide_eq_true_eq]; omega
      have : c = 64 := by omega
      rw [if_neg k1, this]
theorem fill_l0 (hn : 100 ≤ n) {K : Int → Int → Int → List (Int × Int × Int) → List Int → List Int → List Int → Option (List Int)} {x s : Int} {g0 : List Int} : ∀ (j y : Nat), 12 - y < j → y ≤ 12 →
    impl_distances.l0 n K j x s N ds ks g0 (fillG 768 (y * 64)) y = K x s N ds ks g0 (fillG 768 768)
  | 0, y, hj, _ => by omega
  | j + 1, y, hj, hy => by
    rw [impl_distances.l0]
    by_cases c : y < 12
    · have k1 : decide ((y : Int) < 12) = true := by rw [decide_eq_true_eq]; omega
      have wy : IntKind.wrap .i64 ((y : Int) + 1) = ((y + 1 : Nat) : Int) := by rw [w64s (by omega) (by omega)]; omega
      have := fill_l2 (n := n) (N := N) (ds := ds) (ks := ks) (K := fun y1 y2 y3 y4 y5 y6 y7 y8 => impl_distances.l0 n K j y1 y2 y3 y4 y5 y6 y7 (IntKind.wrap .i64 (y8 + (1 : Int)))) (x := x) (s := s) (g0 := g0) c n 0 (by omega) (by omega)
      simp only [Int.natCast_zero, Nat.add_zero] at this
      rw [if_pos k1, this, wy]
      have e : y * 64 + 64 = (y + 1) * 64 := by omega
      rw [e]
      exact fill_l0 hn j (y + 1) (by omega) (by omega)
    · have k1 : ¬ decide ((y : Int) < 12) = true := by rw [decide_eq_true_eq]; omega
      have : y = 12 := by omega
      rw [if_neg k1, this]
theorem fillS_l0 {K : Int → Int → Int → List (Int × Int × Int) → List Int → List Int → Option (List Int)} {x s : Int} {m : Nat} (hm : m ≤ 768) : ∀ (j c : Nat), m - c < j → c ≤ m →
    spec_l4Spread.l0 n K j x s N ds ks (fillG m c) c = K x s N ds ks (fillG m m)
  | 0, c, hj, _ => by omega
  | j + 1, c, hj, hc => by
    rw [spec_l4Spread.l0, fillG_length hc]
    by_cases cc : c < m
    · have k1 : decide ((c : Int) < (m : Int)) = true := by rw [decide_eq_true_eq]; omega
      have k2 : 0 ≤ (c : Int) ∧ (c : Int) < (m : Int) := by omega
      have ec : (c : Int).toNat = c := by omega
      have wc : IntKind.wrap .i64 ((c : Int) + 1) = ((c + 1 : Nat) : Int) := by rw [w64s (by omega) (by omega)]; omega
      rw [if_pos k1, if_pos k2, ec, wc, fillG_set cc]
      exact fillS_l0 hm j (c + 1) (by omega) (by omega)
    · have k1 : ¬ decide ((c : Int) < (m : Int)) = true := by rw [decide_eq_true_eq]; omega
      have : c = m := by omega
      rw [if_neg k1, this]
theorem cneg_rep (m : Nat) : cneg (List.replicate m (-1)) = m := by
  simp [cneg, List.countP_replicate]
theorem dist_sameV (hn : 2000 ≤ n) (h : VM N ds ks) {V : Int → Int → Prop} (hV : ∀ (y : Int) (s : Nat), s < 64 → V y s → ∀ z ∈ memL (stepsN ds y s), V z ((setK ks s z : Nat) : Int)) {x : Int} {s : Nat} (hx : 0 ≤ x ∧ x < N) (hs : s < 64) (hVx : V x s) :
    ∃ o, (o.length : Int) = N * 64 ∧ (∀ e ∈ o, -1 ≤ e ∧ e ≤ 768) ∧ (∀ z t : Int, 0 ≤ z → z < N → 0 ≤ t → t < 64 → 0 ≤ o.getD (idI z t).toNat 0 → V z t) ∧ spec_l4Spread.F n N ds ks x s = some o ∧ impl_distances.F n N ds ks x s = some (gridOf o) := by
  unfold spec_l4Spread.F impl_distances.F
  have h1 := h.n1
  have h2 := h.n2
  have wN : IntKind.wrap .i64 (N * 64) = N * 64 := w64s (by omega) (by omega)
  rw [wN, if_pos ⟨by omega, by omega, by omega⟩]
  generalize hm : (N * 64).toNat = m
  have hm2 : m ≤ 768 := by omega
  have f1 := fillS_l0 (n := n) (N := N) (ds := ds) (ks := ks) (x := x) (s := (s : Int)) (K := fun y1 y2 y3 y4 y5 y6 =>
    (spec_l4Id.F n y1 y2).bind fun r7 =>
    if 0 ≤ (0 : Int) ∧ (0 : Int) < (([r7] : List (Int)).length : Int) then (if 0 ≤ (([r7] : List (Int)).getD 0 (0 : Int)) ∧ (([r7] : List (Int)).getD 0 (0 : Int)) < (y6.length : Int) then (spec_l4Spread.l2 n (fun y15 =>
      some y15) n y3 y4 y5 (y6.set ((([r7] : List (Int)).getD 0 (0 : Int)).toNat) (0 : Int)) ([r7] : List (Int)) (0 : Int)) else none) else none) hm2 n 0 (by omega) (by omega)
  have f2 := fill_l0 (n := n) (N := N) (ds := ds) (ks := ks) (x := x) (s := (s : Int)) (g0 := List.replicate 768 (0 : Int)) (by omega) (K := fun y9 y10 y11 y12 y13 y14 y15 =>
    if 0 ≤ y9 ∧ y9 < (12 : Int) ∧ (0 + (y9.toNat * 64)) < 768 then (if 0 ≤ y10 ∧ y10 < (64 : Int) ∧ ((0 + (y9.toNat * 64)) + (y10.toNat * 1)) < 768 then (impl_distances.l4 n (fun y24 y25 =>
      some y25) n y11 y12 y13 y14 (y15.set ((0 + (y9.toNat * 64)) + (y10.toNat * 1)) 0) ([(y9, y10)] : List (Int × Int))) else none) else none) n 0 (by omega) (by omega)
  have z1 : fillG m 0 = List.replicate m 0 := by simp [fillG]
  have z2 : fillG 768 (0 * 64) = List.replicate 768 0 := by
    unfold fillG
    rw [Nat.zero_mul, List.replicate_zero, List.nil_append, Nat.sub_zero]
  have z3 : ∀ q, fillG q q = List.replicate q (-1) := by intro q; simp [fillG]
  rw [z1, z3] at f1
  rw [z2, z3] at f2
  simp only [Int.natCast_zero] at f1 f2
  rw [f1, f2, l4Id_eq n hx.1 (by omega) (by omega) (by omega), Option.bind_some]
  have g1 : 0 ≤ x ∧ x < (12 : Int) ∧ 0 + x.toNat * 64 < 768 := by omega
  have e2 : 0 + x.toNat * 64 + (s : Int).toNat * 1 = (idI x (s : Int)).toNat := by unfold idI; omega
  have g2 : 0 ≤ (s : Int) ∧ (s : Int) < (64 : Int) ∧ (idI x (s : Int)).toNat < 768 := by unfold idI; omega
  have g3 : (0 : Int) ≤ 0 ∧ (0 : Int) < (([idI x (s : Int)] : List Int).length : Int) := by simp
  have eg : ([idI x (s : Int)] : List Int).getD 0 0 = idI x (s : Int) := rfl
  have g4 : 0 ≤ idI x (s : Int) ∧ idI x (s : Int) < ((List.replicate m (-1 : Int)).length : Int) := by rw [List.length_replicate]; unfold idI; omega
  simp only [if_pos g1, e2, if_pos g2, if_pos g3, eg, if_pos g4]
  have hgrid : List.replicate 768 (-1 : Int) = gridOf (List.replicate m (-1)) := by
    unfold gridOf
    rw [List.length_replicate, List.replicate_append_replicate, show m + (768 - m) = 768 by omega]
  have hil : (idI x (s : Int)).toNat < (List.replicate m (-1 : Int)).length := by rw [List.length_replicate]; unfold idI; omega
  rw [hgrid, grid_set hil]
  have hneg : (List.replicate m (-1 : Int)).getD (idI x (s : Int)).toNat 0 < 0 := by
    rw [List.getD_eq_getElem?_getD, List.getElem?_eq_getElem hil]; simp
  have hcs := cneg_set (List.replicate m (-1 : Int)) (idI x (s : Int)).toNat 0 hil hneg (Int.le_refl 0)
  rw [cneg_rep] at hcs
  have htab : Tab N V ((List.replicate m (-1 : Int)).set (idI x (s : Int)).toNat 0) [(x, (s : Int))] := by
    refine ⟨by simp; omega, ?_, ?_, ?_⟩
    · intro e he
      rcases List.mem_or_eq_of_mem_set he with he | he
      · have := List.eq_of_mem_replicate he
        omega
      · omega
    · intro p hp
      rw [List.mem_singleton] at hp
      subst hp
      refine ⟨⟨hx, ⟨by omega, by omega⟩, ?_⟩, hVx⟩
      rw [set_getD' hil]
      omega
    · intro z2 t2 a1 a2 a3 a4 a5
      by_cases e : (idI x (s : Int)).toNat = (idI z2 t2).toNat
      · have : z2 = x ∧ t2 = (s : Int) := by unfold idI at e; omega
        rw [this.1, this.2]
        exact hVx
      · rw [getD_set_ne _ _ _ e] at a5
        have hl2 : (idI z2 t2).toNat < (List.replicate m (-1 : Int)).length := by rw [List.length_replicate]; unfold idI; omega
        rw [List.getD_eq_getElem?_getD, List.getElem?_eq_getElem hl2] at a5
        simp at a5
  obtain ⟨o, p1, p2, p5, p3, p4⟩ := dist_outer hn h hV (K := fun y15 => some y15) (K' := fun y24 y25 => some y25) (g0 := List.replicate 768 (0 : Int)) n 0 _ [idI x (s : Int)] [(x, (s : Int))] (by simp only [List.length_singleton]; omega) htab rfl (by simp) (by simp only [List.length_singleton]; omega)
  simp only [Int.natCast_zero] at p3
  exact ⟨o, p1, p2, p5, p3, p4⟩
theorem dist_same (hn : 2000 ≤ n) (h : VM N ds ks) {x : Int} {s : Nat} (hx : 0 ≤ x ∧ x < N) (hs : s < 64) :
    ∃ o, (o.length : Int) = N * 64 ∧ (∀ e ∈ o, -1 ≤ e ∧ e ≤ 768) ∧ spec_l4Spread.F n N ds ks x s = some o ∧ impl_distances.F n N ds ks x s = some (gridOf o) := by
  obtain ⟨o, p1, p2, _, p3, p4⟩ := dist_sameV hn h (V := fun _ _ => True) (fun _ _ _ _ _ _ => trivial) hx hs trivial
  exact ⟨o, p1, p2, p3, p4⟩
end
end Go.Pv
