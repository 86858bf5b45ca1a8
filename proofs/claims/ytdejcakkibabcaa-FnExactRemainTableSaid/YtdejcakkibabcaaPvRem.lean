/- Plain laws: the least numbers of steps in which one can win, told in two ways. -/
import Derived.Test.YtdejcakkibabcaaPvDist
set_option linter.unusedVariables false
set_option linter.unusedSimpArgs false
set_option autoImplicit false
namespace Go.Pv
open Go Go.Fx Go.Pf

/-- So many steps on one can stand at the goal. -/
def Wn (N : Int) (ds : List (Int × Int × Int)) (ks : List Int) : Nat → Int → Nat → Prop
  | 0, x, _ => x = N - 1
  | k + 1, x, s => ∃ z ∈ memL (stepsN ds x (s : Int)), Wn N ds ks k z (setK ks s z)
/-- The least number of steps, or -1. -/
def IsRem (N : Int) (ds : List (Int × Int × Int)) (ks : List Int) (x : Int) (s : Nat) (v : Int) : Prop :=
  (0 ≤ v ∧ Wn N ds ks v.toNat x s ∧ ∀ k : Nat, Wn N ds ks k x s → v ≤ (k : Int)) ∨ (v = -1 ∧ ∀ k, ¬ Wn N ds ks k x s)
theorem IsRem.unique {N : Int} {ds : List (Int × Int × Int)} {ks : List Int} {x : Int} {s : Nat} {v w : Int} (h : IsRem N ds ks x s v) (k : IsRem N ds ks x s w) : v = w := by
  rcases h with ⟨h1, h2, h3⟩ | ⟨h1, h2⟩ <;> rcases k with ⟨k1, k2, k3⟩ | ⟨k1, k2⟩
  · have := h3 _ k2
    have := k3 _ h2
    omega
  · exact absurd h2 (k2 _)
  · exact absurd k2 (h2 _)
  · omega

/-! ### The program's way -/
def ix (x : Int) (s : Nat) : Nat := (idI x (s : Int)).toNat
theorem ix_inj {x y : Int} {s t : Nat} (hx : 0 ≤ x) (hy : 0 ≤ y) (hs : s < 64) (ht : t < 64) (h : ix x s = ix y t) : x = y ∧ s = t := by
  unfold ix idI at h
  omega
def phi : List Int → Nat
  | [] => 0
  | e :: l => (if e < 0 then 769 else e).toNat + phi l
theorem phi_set : ∀ (l : List Int) (i : Nat) (v : Int), i < l.length → 0 ≤ v → v < (if l.getD i 0 < 0 then 769 else l.getD i 0) → phi (l.set i v) < phi l
  | [], i, v, h, _, _ => by simp at h
  | e :: l, 0, v, h, h1, h2 => by
    simp only [List.getD_cons_zero] at h2
    simp only [List.set_cons_zero, phi]
    rw [if_neg (show ¬ v < 0 by omega)]
    omega
  | e :: l, i + 1, v, h, h1, h2 => by
    simp only [List.getD_cons_succ] at h2
    have := phi_set l i v (by simpa using h) h1 h2
    simp only [List.set_cons_succ, phi]
    omega
theorem phi_le : ∀ (l : List Int), (∀ e ∈ l, e ≤ 769) → phi l ≤ 769 * l.length
  | [], _ => by simp [phi]
  | e :: l, h => by
    have := phi_le l fun x hx => h x (List.mem_cons_of_mem _ hx)
    have he := h e (List.mem_cons_self ..)
    simp only [phi, List.length_cons]
    split <;> omega
theorem cneg_same : ∀ (o : List Int) (i : Nat) (v : Int), i < o.length → 0 ≤ o.getD i 0 → 0 ≤ v → cneg (o.set i v) = cneg o
  | [], i, v, h, _, _ => by simp at h
  | e :: o, 0, v, h, h1, h2 => by
    simp only [List.getD_cons_zero] at h1
    have n1 : ¬ v < 0 := by omega
    have n2 : ¬ e < 0 := by omega
    simp [cneg, List.countP_cons, n1, n2]
  | e :: o, i + 1, v, h, h1, h2 => by
    have := cneg_same o i v (by simpa using h) (by simpa using h1) h2
    simp only [cneg, List.set_cons_succ, List.countP_cons] at this ⊢
    omega

section
variable {n : Nat} {N : Int} {ds : List (Int × Int × Int)} {ks : List Int}
structure Gr (N : Int) (ds : List (Int × Int × Int)) (ks : List Int) (g : List Int) : Prop where
  len : g.length = 768
  low : ∀ e ∈ g, -1 ≤ e ∧ e + (cneg g : Int) ≤ 768
  snd : ∀ (x : Int) (s : Nat), 0 ≤ x → x < N → s < 64 → 0 ≤ g.getD (ix x s) 0 → Wn N ds ks (g.getD (ix x s) 0).toNat x s
  goal : ∀ s : Nat, s < 64 → g.getD (ix (N - 1) s) 0 = 0
/-- Nothing to be bettered from a state. -/
def Still (ds : List (Int × Int × Int)) (ks : List Int) (g : List Int) (x : Int) (s : Nat) (zs : List Int) : Prop :=
  ∀ z ∈ zs, 0 ≤ g.getD (ix z (setK ks s z)) 0 → 0 ≤ g.getD (ix x s) 0 ∧ g.getD (ix x s) 0 ≤ g.getD (ix z (setK ks s z)) 0 + 1
/-- Either nothing has changed, or something has got better. -/
def Turn (g g' : List Int) (b b' : Bool) (S : Prop) : Prop := (g' = g ∧ b' = b ∧ S) ∨ (phi g' < phi g ∧ b' = true)

theorem better_eqR (a b : Int) : impl_better.F n a b = some (decide (0 ≤ a ∧ (b < 0 ∨ a < b))) := by
  unfold impl_better.F
  by_cases c1 : 0 ≤ a
  · rw [if_pos (by rw [decide_eq_true_eq]; exact c1)]
    by_cases c2 : b < 0
    · rw [if_pos (by rw [decide_eq_true_eq]; exact c2)]; simp [c1, c2]
    · rw [if_neg (by rw [decide_eq_true_eq]; exact c2)]; simp [c1, c2]
  · rw [if_neg (by rw [decide_eq_true_eq]; exact c1)]; simp [c1]
/-- A row of the program's table. -/
theorem rem_inner (h : VM N ds ks) {x : Int} {s : Nat} (hx : 0 ≤ x ∧ x < N) (hs : s < 64) {zs : List Int} (hz : ∀ z ∈ zs, z ∈ memL (stepsN ds x (s : Int))) (hzl : zs.length ≤ 12)
    {K : Int → List (Int × Int × Int) → List Int → List Int → List Int → Bool → Int → Int → Int → Int → Option (List Int)} {g0 : List Int} {a1 a2 a3 : Int} : ∀ (j c : Nat) (g : List Int) (b : Bool), zs.length - c < j → c ≤ zs.length → Gr N ds ks g →
      ∃ g' b', Gr N ds ks g' ∧ Turn g g' b b' (Still ds ks g x s (zs.drop c)) ∧
        impl_remain.l13 n K j N ds ks g0 g b x s a1 a2 a3 zs zs.length c = K N ds ks g0 g' b' x a1 a2 a3
  | 0, c, g, b, hj, _, _ => by omega
  | j + 1, c, g, b, hj, hc, hg => by
    rw [impl_remain.l13]
    by_cases cc : (c : Int) < (zs.length : Int)
    · have ci : c < zs.length := by omega
      have ec : (c : Int).toNat = c := by omega
      have k2 : 0 ≤ (c : Int) ∧ (c : Int) < (zs.length : Int) := ⟨by omega, cc⟩
      have wc : IntKind.wrap .i64 ((c : Int) + 1) = ((c + 1 : Nat) : Int) := by rw [w64s (by omega) (by omega)]; omega
      have hzm := hz _ (getD_mem (d := (0 : Int)) ci)
      have hdrop := getD_drop (d := (0 : Int)) ci
      rw [if_pos (by simpa using cc), if_pos k2, ec, wc, hdrop]
      generalize zs.getD c 0 = z at *
      have hzr := steps_mem h hzm
      obtain ⟨o1, o2⟩ := setK_val h hzr hs
      have hkl := h.kl
      have h2 := h.n2
      have k3 : 0 ≤ z ∧ z < (ks.length : Int) := ⟨hzr.1, by omega⟩
      have k4 : 0 ≤ z ∧ z < (12 : Int) ∧ 0 + z.toNat * 64 < 768 := by omega
      rw [if_pos k3, if_pos k4, o1]
      have et : ((setK ks s z : Nat) : Int).toNat = setK ks s z := by omega
      have es : (s : Int).toNat = s := by omega
      have ei1 : 0 + z.toNat * 64 + ((setK ks s z : Nat) : Int).toNat * 1 = ix z (setK ks s z) := by unfold ix idI; omega
      have ei2 : 0 + x.toNat * 64 + (s : Int).toNat * 1 = ix x s := by unfold ix idI; omega
      have k5 : 0 ≤ ((setK ks s z : Nat) : Int) ∧ ((setK ks s z : Nat) : Int) < (64 : Int) ∧ 0 + z.toNat * 64 + ((setK ks s z : Nat) : Int).toNat * 1 < 768 := by omega
      have k6 : 0 ≤ x ∧ x < (12 : Int) ∧ 0 + x.toNat * 64 < 768 := by omega
      have k7 : 0 ≤ (s : Int) ∧ (s : Int) < (64 : Int) ∧ 0 + x.toNat * 64 + (s : Int).toNat * 1 < 768 := by omega
      have k8 : 0 ≤ (s : Int) ∧ (s : Int) < (64 : Int) ∧ ix x s < 768 := by rw [← ei2]; exact k7
      rw [if_pos k5]
      simp only [ei1, ei2]
      simp only [if_pos k6, if_pos k8]
      have hi1 : ix z (setK ks s z) < g.length := by rw [hg.len]; unfold ix idI; omega
      have hi2 : ix x s < g.length := by rw [hg.len]; unfold ix idI; omega
      have hv := hg.low _ (getD_mem (d := (0 : Int)) hi1)
      have hw := hg.low _ (getD_mem (d := (0 : Int)) hi2)
      by_cases c1 : g.getD (ix z (setK ks s z)) 0 ≥ 0
      · rw [if_pos (by simpa using c1), w64s (x := g.getD (ix z (setK ks s z)) 0 + 1) (by omega) (by omega)]
        have hbet : impl_better.F n (g.getD (ix z (setK ks s z)) 0 + 1) (g.getD (ix x s) 0) = some (decide (g.getD (ix x s) 0 < 0 ∨ g.getD (ix z (setK ks s z)) 0 + 1 < g.getD (ix x s) 0)) := by
          rw [better_eqR]
          congr 1
          have c0 : 0 ≤ g.getD (ix z (setK ks s z)) 0 + 1 := by omega
          simp only [c0, true_and]
        rw [hbet, Option.bind_some]
        by_cases c2 : g.getD (ix x s) 0 < 0 ∨ g.getD (ix z (setK ks s z)) 0 + 1 < g.getD (ix x s) 0
        · rw [if_pos (by simpa using c2)]
          have hxg : x ≠ N - 1 := by
            rintro rfl
            have := hg.goal s hs
            omega
          have hne : ix z (setK ks s z) ≠ ix x s := by
            intro e
            rw [e] at c1 c2
            omega
          have hphi : phi (g.set (ix x s) (g.getD (ix z (setK ks s z)) 0 + 1)) < phi g := by
            refine phi_set g _ _ hi2 (by omega) ?_
            by_cases e1 : g.getD (ix x s) 0 < 0
            · have hc1 := cneg_set g (ix x s) (g.getD (ix z (setK ks s z)) 0 + 1) hi2 e1 (by omega)
              rw [if_pos e1]
              omega
            · rw [if_neg e1]
              omega
          have hg' : Gr N ds ks (g.set (ix x s) (g.getD (ix z (setK ks s z)) 0 + 1)) := by
            refine ⟨by rw [List.length_set]; exact hg.len, ?_, ?_, ?_⟩
            · intro e he
              by_cases e1 : g.getD (ix x s) 0 < 0
              · have hc1 := cneg_set g (ix x s) (g.getD (ix z (setK ks s z)) 0 + 1) hi2 e1 (by omega)
                rcases List.mem_or_eq_of_mem_set he with he | he
                · have := hg.low e he; omega
                · omega
              · have hc1 := cneg_same g (ix x s) (g.getD (ix z (setK ks s z)) 0 + 1) hi2 (by omega) (by omega)
                rcases List.mem_or_eq_of_mem_set he with he | he
                · have := hg.low e he; omega
                · omega
            · intro y t hy1 hy2 ht hpos
              by_cases e : ix x s = ix y t
              · obtain ⟨rfl, rfl⟩ := ix_inj hx.1 hy1 hs ht e
                rw [set_getD' hi2]
                rw [show (g.getD (ix z (setK ks s z)) 0 + 1).toNat = (g.getD (ix z (setK ks s z)) 0).toNat + 1 by omega]
                exact ⟨z, hzm, hg.snd z _ hzr.1 hzr.2 o2 c1⟩
              · rw [getD_set_ne _ _ _ e] at hpos ⊢
                exact hg.snd y t hy1 hy2 ht hpos
            · intro t ht
              have : ix x s ≠ ix (N - 1) t := fun e => hxg (ix_inj hx.1 (by omega) hs ht e).1
              rw [getD_set_ne _ _ _ this]
              exact hg.goal t ht
          obtain ⟨g', b', r1, r2, r3⟩ := rem_inner h hx hs hz hzl (K := K) (g0 := g0) (a1 := a1) (a2 := a2) (a3 := a3) j (c + 1) _ true (by omega) (by omega) hg'
          refine ⟨g', b', r1, .inr ?_, r3⟩
          rcases r2 with ⟨rfl, rfl, _⟩ | ⟨q1, q2⟩
          · exact ⟨hphi, rfl⟩
          · exact ⟨by omega, q2⟩
        · rw [if_neg (by simpa using c2)]
          obtain ⟨g', b', r1, r2, r3⟩ := rem_inner h hx hs hz hzl (K := K) (g0 := g0) (a1 := a1) (a2 := a2) (a3 := a3) j (c + 1) g b (by omega) (by omega) hg
          refine ⟨g', b', r1, ?_, r3⟩
          rcases r2 with ⟨q1, q2, q3⟩ | q
          · refine .inl ⟨q1, q2, fun y hy hp => ?_⟩
            rcases List.mem_cons.1 hy with rfl | hy
            · omega
            · exact q3 y hy hp
          · exact .inr q
      · rw [if_neg (by simpa using c1)]
        obtain ⟨g', b', r1, r2, r3⟩ := rem_inner h hx hs hz hzl (K := K) (g0 := g0) (a1 := a1) (a2 := a2) (a3 := a3) j (c + 1) g b (by omega) (by omega) hg
        refine ⟨g', b', r1, ?_, r3⟩
        rcases r2 with ⟨q1, q2, q3⟩ | q
        · refine .inl ⟨q1, q2, fun y hy hp => ?_⟩
          rcases List.mem_cons.1 hy with rfl | hy
          · omega
          · exact q3 y hy hp
        · exact .inr q
    · rw [if_neg (by simpa using cc)]
      refine ⟨g, b, hg, .inl ⟨rfl, rfl, fun z hzz => ?_⟩, rfl⟩
      rw [List.drop_eq_nil_of_le (by omega)] at hzz
      cases hzz

theorem rem_l11 (hn : 100 ≤ n) (h : VM N ds ks) {x : Int} (hx : 0 ≤ x ∧ x < N) {K : Int → List (Int × Int × Int) → List Int → List Int → List Int → Bool → Int → Int → Option (List Int)} {g0 : List Int} {a1 a2 : Int} :
    ∀ (j s : Nat) (g : List Int) (b : Bool), 64 - s < j → s ≤ 64 → Gr N ds ks g →
      ∃ g' b', Gr N ds ks g' ∧ Turn g g' b b' (∀ t, s ≤ t → t < 64 → Still ds ks g x t (memL (stepsN ds x (t : Int)))) ∧
        impl_remain.l11 n K j N ds ks g0 g b x a1 a2 s = K N ds ks g0 g' b' a1 a2
  | 0, s, g, b, hj, _, _ => by omega
  | j + 1, s, g, b, hj, hs, hg => by
    rw [impl_remain.l11]
    by_cases c : (s : Int) < 64
    · have wc : IntKind.wrap .i64 ((s : Int) + 1) = ((s + 1 : Nat) : Int) := by rw [w64s (by omega) (by omega)]; omega
      rw [if_pos (by simpa using c), steps_eq (by omega) h, Option.bind_some, members_eq (by omega) (stepsN_lt h x _), Option.bind_some]
      obtain ⟨g1, b1, r1, r2, r3⟩ := rem_inner (n := n) h hx (s := s) (by omega) (zs := memL (stepsN ds x (s : Int))) (fun z hz => hz) (memL_length _) (g0 := g0) (a1 := a1) (a2 := a2) (a3 := (s : Int))
        (K := fun y20 y21 y22 y23 y24 y25 y26 y27 y28 y29 => impl_remain.l11 n K j y20 y21 y22 y23 y24 y25 y26 y27 y28 (IntKind.wrap .i64 (y29 + (1 : Int)))) n 0 g b (by have := memL_length (stepsN ds x (s : Int)); omega) (by omega) hg
      simp only [Int.natCast_zero] at r3
      rw [r3]
      simp only [wc]
      obtain ⟨g2, b2, q1, q2, q3⟩ := rem_l11 hn h hx (K := K) (g0 := g0) (a1 := a1) (a2 := a2) j (s + 1) g1 b1 (by omega) (by omega) r1
      refine ⟨g2, b2, q1, ?_, q3⟩
      rcases r2 with ⟨rfl, rfl, e1⟩ | ⟨e1, rfl⟩
      · rcases q2 with ⟨rfl, rfl, e2⟩ | e2
        · refine .inl ⟨rfl, rfl, fun t ht1 ht2 => ?_⟩
          by_cases e : t = s
          · subst e; simpa using e1
          · exact e2 t (by omega) ht2
        · exact .inr e2
      · rcases q2 with ⟨rfl, rfl, e2⟩ | ⟨e2, e3⟩
        · exact .inr ⟨e1, rfl⟩
        · exact .inr ⟨by omega, e3⟩
    · rw [if_neg (by simpa using c)]
      exact ⟨g, b, hg, .inl ⟨rfl, rfl, fun t h1 h2 => by omega⟩, rfl⟩
theorem rem_l9 (hn : 100 ≤ n) (h : VM N ds ks) {K : Int → List (Int × Int × Int) → List Int → List Int → List Int → Bool → Option (List Int)} {g0 : List Int} :
    ∀ (j x : Nat) (g : List Int) (b : Bool), N.toNat - x < j → (x : Int) ≤ N → Gr N ds ks g →
      ∃ g' b', Gr N ds ks g' ∧ Turn g g' b b' (∀ (y t : Nat), x ≤ y → (y : Int) < N → t < 64 → Still ds ks g (y : Int) t (memL (stepsN ds (y : Int) (t : Int)))) ∧
        impl_remain.l9 n K j N ds ks g0 g b N x = K N ds ks g0 g' b'
  | 0, x, g, b, hj, _, _ => by omega
  | j + 1, x, g, b, hj, hx, hg => by
    rw [impl_remain.l9]
    have h2 := h.n2
    by_cases c : (x : Int) < N
    · have wc : IntKind.wrap .i64 ((x : Int) + 1) = ((x + 1 : Nat) : Int) := by rw [w64s (by omega) (by omega)]; omega
      rw [if_pos (by simpa using c)]
      obtain ⟨g1, b1, r1, r2, r3⟩ := rem_l11 (n := n) hn h (x := (x : Int)) ⟨by omega, c⟩ (g0 := g0) (a1 := N) (a2 := (x : Int))
        (K := fun y30 y31 y32 y33 y34 y35 y36 y37 => impl_remain.l9 n K j y30 y31 y32 y33 y34 y35 y36 (IntKind.wrap .i64 (y37 + (1 : Int)))) n 0 g b (by omega) (by omega) hg
      simp only [Int.natCast_zero] at r3
      rw [r3]
      simp only [wc]
      obtain ⟨g2, b2, q1, q2, q3⟩ := rem_l9 hn h (K := K) (g0 := g0) j (x + 1) g1 b1 (by omega) (by omega) r1
      refine ⟨g2, b2, q1, ?_, q3⟩
      rcases r2 with ⟨rfl, rfl, e1⟩ | ⟨e1, rfl⟩
      · rcases q2 with ⟨rfl, rfl, e2⟩ | e2
        · refine .inl ⟨rfl, rfl, fun y t h1 h3 h4 => ?_⟩
          by_cases e : y = x
          · subst e; exact e1 t (by omega) h4
          · exact e2 y t (by omega) h3 h4
        · exact .inr e2
      · rcases q2 with ⟨rfl, rfl, e2⟩ | ⟨e2, e3⟩
        · exact .inr ⟨e1, rfl⟩
        · exact .inr ⟨by omega, e3⟩
    · rw [if_neg (by simpa using c)]
      exact ⟨g, b, hg, .inl ⟨rfl, rfl, fun y t h1 h2 h3 => by omega⟩, rfl⟩
theorem rem_l7 (hn : 100 ≤ n) (h : VM N ds ks) {K : List Int → List Int → Option (List Int)} {g0 : List Int} :
    ∀ (j : Nat) (g : List Int), phi g + 1 < j → Gr N ds ks g →
      ∃ g', Gr N ds ks g' ∧ (∀ (y t : Nat), (y : Int) < N → t < 64 → Still ds ks g' (y : Int) t (memL (stepsN ds (y : Int) (t : Int)))) ∧
        impl_remain.l7 n K j N ds ks g0 g true = K g0 g'
  | 0, g, hj, _ => by omega
  | j + 1, g, hj, hg => by
    rw [impl_remain.l7, if_pos rfl]
    have h2 := h.n2
    obtain ⟨g1, b1, r1, r2, r3⟩ := rem_l9 (n := n) hn h (g0 := g0) (K := fun y38 y39 y40 y41 y42 y43 => impl_remain.l7 n K j y38 y39 y40 y41 y42 y43) n 0 g false (by omega) (by have := h.n1; omega) hg
    simp only [Int.natCast_zero] at r3
    rw [r3]
    rcases r2 with ⟨rfl, rfl, e⟩ | ⟨e, rfl⟩
    · cases j with
      | zero => omega
      | succ j =>
        rw [impl_remain.l7, if_neg (by simp)]
        exact ⟨g1, r1, fun y t h3 h4 => e y t (by omega) h3 h4, rfl⟩
    · exact rem_l7 hn h j g1 (by omega) r1

/-! ### The table at first -/
theorem rem_l2 {K : Int → List (Int × Int × Int) → List Int → List Int → List Int → Int → Option (List Int)} {g0 : List Int} {x : Nat} (hx : x < 12) : ∀ (j s : Nat) (g : List Int), 64 - s < j → s ≤ 64 → g.length = 768 →
    ∃ g', g'.length = 768 ∧ (∀ i, i < 64 * x + s → g'.getD i 0 = g.getD i 0) ∧ (∀ i, 64 * x + s ≤ i → i < 64 * x + 64 → g'.getD i 0 = -1) ∧ impl_remain.l2 n K j N ds ks g0 g x x s = K N ds ks g0 g' x
  | 0, s, g, hj, _, _ => by omega
  | j + 1, s, g, hj, hs, hl => by
    rw [impl_remain.l2]
    by_cases c : (s : Int) < 64
    · have wc : IntKind.wrap .i64 ((s : Int) + 1) = ((s + 1 : Nat) : Int) := by rw [w64s (by omega) (by omega)]; omega
      have ei : 0 + (x : Int).toNat * 64 + (s : Int).toNat * 1 = 64 * x + s := by omega
      rw [if_pos (by simpa using c), if_pos (by omega), if_pos (by omega), wc, ei]
      obtain ⟨g', r1, r2, r3, r4⟩ := rem_l2 hx (K := K) (g0 := g0) j (s + 1) (g.set (64 * x + s) (-1)) (by omega) (by omega) (by simpa using hl)
      refine ⟨g', r1, fun i hi => ?_, fun i h1 h2 => ?_, r4⟩
      · rw [r2 i (by omega), getD_set_ne _ _ _ (by omega)]
      · by_cases e : i = 64 * x + s
        · rw [r2 i (by omega), e, set_getD' (by omega)]
        · exact r3 i (by omega) h2
    · rw [if_neg (by simpa using c)]
      exact ⟨g, hl, fun _ _ => rfl, fun i h1 h2 => by omega, rfl⟩
theorem rem_l0 (hn : 100 ≤ n) {K : Int → List (Int × Int × Int) → List Int → List Int → List Int → Option (List Int)} {g0 : List Int} : ∀ (j x : Nat) (g : List Int), 12 - x < j → x ≤ 12 → g.length = 768 → (∀ i, i < 64 * x → g.getD i 0 = -1) →
    ∃ g', g'.length = 768 ∧ (∀ i, i < 768 → g'.getD i 0 = -1) ∧ impl_remain.l0 n K j N ds ks g0 g x = K N ds ks g0 g'
  | 0, x, g, hj, _, _, _ => by omega
  | j + 1, x, g, hj, hx, hl, hm => by
    rw [impl_remain.l0]
    by_cases c : (x : Int) < 12
    · have wc : IntKind.wrap .i64 ((x : Int) + 1) = ((x + 1 : Nat) : Int) := by rw [w64s (by omega) (by omega)]; omega
      rw [if_pos (by simpa using c)]
      obtain ⟨g1, r1, r2, r3, r4⟩ := rem_l2 (n := n) (N := N) (ds := ds) (ks := ks) (x := x) (by omega) (g0 := g0) (K := fun y1 y2 y3 y4 y5 y6 => impl_remain.l0 n K j y1 y2 y3 y4 y5 (IntKind.wrap .i64 (y6 + (1 : Int)))) n 0 g (by omega) (by omega) hl
      simp only [Int.natCast_zero] at r4
      rw [r4]
      simp only [wc]
      refine rem_l0 hn j (x + 1) g1 (by omega) (by omega) r1 fun i hi => ?_
      by_cases e : i < 64 * x
      · rw [r2 i (by omega)]; exact hm i e
      · exact r3 i (by omega) (by omega)
    · rw [if_neg (by simpa using c)]
      exact ⟨g, hl, fun i hi => hm i (by omega), rfl⟩
theorem rem_l5 (h : VM N ds ks) {K : Int → List (Int × Int × Int) → List Int → List Int → List Int → Option (List Int)} {g0 : List Int} : ∀ (j s : Nat) (g : List Int), 64 - s < j → s ≤ 64 → g.length = 768 →
    ∃ g', g'.length = 768 ∧ (∀ t, t < s → g'.getD (ix (N - 1) t) 0 = g.getD (ix (N - 1) t) 0) ∧ (∀ t, s ≤ t → t < 64 → g'.getD (ix (N - 1) t) 0 = 0) ∧ (∀ i, (∀ t, s ≤ t → t < 64 → i ≠ ix (N - 1) t) → g'.getD i 0 = g.getD i 0) ∧
      (∀ e ∈ g', e ∈ g ∨ e = 0) ∧ impl_remain.l5 n K j N ds ks g0 g s = K N ds ks g0 g'
  | 0, s, g, hj, _, _ => by omega
  | j + 1, s, g, hj, hs, hl => by
    rw [impl_remain.l5]
    have h1 := h.n1
    have h2 := h.n2
    by_cases c : (s : Int) < 64
    · have wc : IntKind.wrap .i64 ((s : Int) + 1) = ((s + 1 : Nat) : Int) := by rw [w64s (by omega) (by omega)]; omega
      have wn : IntKind.wrap .i64 (N - 1) = N - 1 := w64s (by omega) (by omega)
      have ei : 0 + (N - 1).toNat * 64 + (s : Int).toNat * 1 = ix (N - 1) s := by unfold ix idI; omega
      have hi : ix (N - 1) s < 768 := by unfold ix idI; omega
      rw [if_pos (by simpa using c), wn, if_pos (by omega), if_pos (by omega), wc, ei]
      obtain ⟨g', r1, r2, r3, r4, r5, r6⟩ := rem_l5 h (K := K) (g0 := g0) j (s + 1) (g.set (ix (N - 1) s) 0) (by omega) (by omega) (by simpa using hl)
      have inj : ∀ t, t < 64 → ix (N - 1) s = ix (N - 1) t → s = t := fun t ht e => (ix_inj (by omega) (by omega) (by omega) ht e).2
      refine ⟨g', r1, fun t ht => ?_, fun t t1 t2 => ?_, fun i hi2 => ?_, fun e he => ?_, r6⟩
      · rw [r2 t (by omega), getD_set_ne _ _ _ (fun e => by have := inj t (by omega) e; omega)]
      · by_cases e : t = s
        · subst e
          rw [r2 t (by omega), set_getD' (by omega)]
        · exact r3 t (by omega) t2
      · rw [r4 i (fun t t1 t2 => hi2 t (by omega) t2), getD_set_ne _ _ _ (fun e => hi2 s (by omega) (by omega) e.symm)]
      · rcases r5 e he with he | he
        · rcases List.mem_or_eq_of_mem_set he with he | he
          · exact .inl he
          · exact .inr he
        · exact .inr he
    · rw [if_neg (by simpa using c)]
      exact ⟨g, hl, fun _ _ => rfl, fun t h1 h2 => by omega, fun _ _ => rfl, fun e he => .inl he, rfl⟩
theorem rem_l45 {K : Int → List (Int × Int × Int) → List Int → List Int → List Int → Option (List Int)} : ∀ (j : Nat) (N : Int) (ds : List (Int × Int × Int)) (ks g0 g : List Int) (s : Int), impl_remain.l4 n K j N ds ks g0 g (IntKind.wrap .i64 (N - 1)) s = impl_remain.l5 n K j N ds ks g0 g s
  | 0, _, _, _, _, _, _ => rfl
  | j + 1, N, ds, ks, g0, g, s => by
    rw [impl_remain.l4, impl_remain.l5]
    simp only [rem_l45 j]
theorem mem_getD {l : List Int} {e : Int} (h : e ∈ l) : ∃ i, i < l.length ∧ l.getD i 0 = e := by
  obtain ⟨i, hi, rfl⟩ := List.mem_iff_getElem.1 h
  exact ⟨i, hi, by rw [List.getD_eq_getElem?_getD, List.getElem?_eq_getElem hi]; rfl⟩
theorem remain_val (hn : 600000 ≤ n) (h : VM N ds ks) : ∃ g, impl_remain.F n N ds ks = some g ∧ g.length = 768 ∧ (∀ e ∈ g, e ≤ 768) ∧ ∀ (x : Int) (s : Nat), 0 ≤ x → x < N → s < 64 → IsRem N ds ks x s (g.getD (ix x s) 0) := by
  have h1 := h.n1
  have h2 := h.n2
  unfold impl_remain.F
  obtain ⟨g1, a1, a2, a3⟩ := rem_l0 (n := n) (N := N) (ds := ds) (ks := ks) (by omega) (g0 := List.replicate 768 (0 : Int)) (K := fun y7 y8 y9 y10 y11 =>
    let j23 : (Int) → (List (Int × Int × Int)) → (List (Int)) → (List Int) → (List Int) → Option ((List Int)) := fun j23_x1_0 j23_x1_1 j23_x1_2 j23_x2 j23_x3 =>
      impl_remain.l7 n (fun y44 y45 =>
        some y45) n j23_x1_0 j23_x1_1 j23_x1_2 j23_x2 j23_x3 true
    coin (
      impl_remain.l5 n (fun y12 y13 y14 y15 y16 =>
        j23 y12 y13 y14 y15 y16) n y7 y8 y9 y10 y11 (0 : Int))
      (impl_remain.l4 n (fun y17 y18 y19 y20 y21 =>
        j23 y17 y18 y19 y20 y21) n y7 y8 y9 y10 y11 (IntKind.wrap .i64 (y7 - (1 : Int))) (0 : Int))) n 0 (List.replicate 768 (0 : Int)) (by omega) (by omega) List.length_replicate (fun i hi => by omega)
  simp only [Int.natCast_zero] at a3
  rw [a3]
  simp only [rem_l45, coin_same]
  obtain ⟨g2, b1, b2, b3, b4, b5, b6⟩ := rem_l5 (n := n) h (g0 := List.replicate 768 (0 : Int)) (K := fun y12 y13 y14 y15 y16 => impl_remain.l7 n (fun y44 y45 => some y45) n y12 y13 y14 y15 y16 true) n 0 g1 (by omega) (by omega) a1
  simp only [Int.natCast_zero] at b6
  rw [b6]
  have hval : ∀ e ∈ g2, e = -1 ∨ e = 0 := fun e he => by
    rcases b5 e he with he | he
    · obtain ⟨i, hi, rfl⟩ := mem_getD he
      exact .inl (a2 i (by omega))
    · exact .inr he
  have hg : Gr N ds ks g2 := by
    refine ⟨b1, fun e he => ?_, fun x s hx1 hx2 hs hp => ?_, fun s hs => b3 s (by omega) hs⟩
    · have hc := cneg_le g2
      rcases hval e he with rfl | rfl
      · omega
      · omega
    · by_cases e : x = N - 1
      · subst e
        rw [b3 s (by omega) hs]
        rfl
      · have hne : ∀ t, 0 ≤ t → t < 64 → ix x s ≠ ix (N - 1) t := fun t _ ht hh => e (ix_inj hx1 (by omega) hs ht hh).1
        rw [b4 (ix x s) hne, a2 (ix x s) (by unfold ix idI; omega)] at hp
        omega
  have hphi : phi g2 ≤ 769 * 768 := by
    have := phi_le g2 fun e he => by rcases hval e he with rfl | rfl <;> omega
    rw [b1] at this
    exact this
  obtain ⟨g3, c1, c2, c3⟩ := rem_l7 (n := n) (by omega) h (K := fun y44 y45 => some y45) (g0 := List.replicate 768 (0 : Int)) n g2 (by omega) hg
  rw [c3]
  refine ⟨g3, rfl, c1.len, fun e he => by have := c1.low e he; omega, ?_⟩
  have least : ∀ (k : Nat) (x : Int) (s : Nat), 0 ≤ x → x < N → s < 64 → Wn N ds ks k x s → 0 ≤ g3.getD (ix x s) 0 ∧ g3.getD (ix x s) 0 ≤ (k : Int) := by
    intro k
    induction k with
    | zero =>
      intro x s hx1 hx2 hs hw
      have : x = N - 1 := hw
      subst this
      rw [c1.goal s hs]
      omega
    | succ k ih =>
      intro x s hx1 hx2 hs hw
      obtain ⟨z, hz, hw⟩ := hw
      have hzr := steps_mem h hz
      obtain ⟨_, o2⟩ := setK_val h hzr hs
      have hz2 := ih z _ hzr.1 hzr.2 o2 hw
      have ex : x = ((x.toNat : Nat) : Int) := by omega
      have := c2 x.toNat s (by omega) hs z (by rw [← ex]; exact hz) hz2.1
      rw [← ex] at this
      omega
  intro x s hx1 hx2 hs
  have hi : ix x s < g3.length := by rw [c1.len]; unfold ix idI; omega
  have hlow := c1.low _ (getD_mem (d := (0 : Int)) hi)
  by_cases c : 0 ≤ g3.getD (ix x s) 0
  · exact .inl ⟨c, c1.snd x s hx1 hx2 hs c, fun k hk => (least k x s hx1 hx2 hs hk).2⟩
  · refine .inr ⟨by omega, fun k hk => ?_⟩
    have := (least k x s hx1 hx2 hs hk).1
    omega
end
end Go.Pv
