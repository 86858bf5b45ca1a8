/- Plain laws: ways, tables of steps, detours and ways back, and how they hang together. -/
import Derived.Test.YtfgncboicamdjaaPvForms
import Derived.Test.YtfgncboicamdjaaPvFew
import Derived.Test.YtfgncboicamdjaaPvL4B
import Derived.Test.YtfgncboicamdjaaPvTaken
set_option linter.unusedVariables false
set_option linter.unusedSimpArgs false
set_option autoImplicit false
namespace Go.Pv
open Go Go.Fx Go.Pf

/-- A number of steps, as it is told. -/
def tldW (v : Int) : Int × Bool := (if (0 : Int) > v then (0 : Int) else v, decide (v ≥ (0 : Int)))
section
variable {n : Nat} {N : Int} {ds : List (Int × Int × Int)} {ks : List Int}
/-! ### Steps from the start and steps to the goal -/
theorem rn_wn {s0 : Nat} : ∀ (k j : Nat) (x : Int) (s : Nat), Rn ds ks 0 s0 j x s → Wn N ds ks k x s → ∃ t, Rn ds ks 0 s0 (j + k) (N - 1) t
  | 0, j, x, s, hr, hw => ⟨s, by rw [← (show x = N - 1 from hw)]; exact hr⟩
  | k + 1, j, x, s, hr, hw => by
    obtain ⟨z, hz, hw'⟩ := wn_succ.1 hw
    have := rn_wn k (j + 1) z (setK ks s z) ⟨x, s, hr, hz, rfl⟩ hw'
    rwa [show j + 1 + k = j + (k + 1) by omega] at this
theorem wn_rn {s0 : Nat} : ∀ (k m : Nat) (z : Int) (t : Nat), Rn ds ks 0 s0 k z t → Wn N ds ks m z t → Wn N ds ks (k + m) 0 s0
  | 0, m, z, t, hr, hw => by
    obtain ⟨rfl, rfl⟩ := hr
    rwa [Nat.zero_add]
  | k + 1, m, z, t, hr, hw => by
    obtain ⟨y, s, h1, h2, rfl⟩ := hr
    have := wn_rn k (m + 1) y s h1 (wn_succ.2 ⟨z, h2, hw⟩)
    rwa [show k + (m + 1) = k + 1 + m by omega] at this
theorem rem_few {v : Int} (hs : ks.getD 0 0 = ((k0 ks : Nat) : Int)) (h : IsRem N ds ks 0 (k0 ks) v) : IsFew N ds ks v := by
  have to : ∀ k t, Rn ds ks 0 (k0 ks) k (N - 1) t → Wn N ds ks k 0 (k0 ks) := fun k t hr => by
    have := wn_rn (N := N) k 0 _ _ hr rfl
    rwa [Nat.add_zero] at this
  rcases h with ⟨h1, h2, h3⟩ | ⟨h1, h2⟩
  · refine .inl ⟨h1, ?_, fun k t hr => h3 k (to k t hr)⟩
    have := rn_wn (s0 := k0 ks) v.toNat 0 0 (k0 ks) ⟨rfl, rfl⟩ h2
    rwa [Nat.zero_add] at this
  · exact .inr ⟨h1, fun k t hr => h2 k (to k t hr)⟩
theorem few_one {v w : Int} (h : IsFew N ds ks v) (k : IsFew N ds ks w) : v = w := by
  rcases h with ⟨h1, ⟨t, h2⟩, h3⟩ | ⟨h1, h2⟩ <;> rcases k with ⟨k1, ⟨u, k2⟩, k3⟩ | ⟨k1, k2⟩
  · have := h3 _ _ k2
    have := k3 _ _ h2
    omega
  · exact absurd h2 (k2 _ _)
  · exact absurd k2 (h2 _ _)
  · omega
theorem start_set (h : VM N ds ks) : ks.getD 0 0 = ((k0 ks : Nat) : Int) ∧ k0 ks < 64 ∧ (0 : Int) ≤ 0 ∧ (0 : Int) < N := by
  have h1 := h.n1
  have hkl := h.kl
  have hk := h.keys _ (getD_mem (l := ks) (i := 0) (d := (0 : Int)) (by omega))
  unfold k0
  omega

/-! ### The table of steps -/
/-- The least number of steps to a node. -/
noncomputable def leastT (o : List Int) (x : Int) : Int := leastF (wantB 0 6) (rowF o x) 0 64 (-1)
structure Sp (N : Int) (ds : List (Int × Int × Int)) (ks o : List Int) (x0 : Int) (s0 : Nat) : Prop where
  len : (o.length : Int) = N * 64
  dist : ∀ (z : Int) (t : Nat), 0 ≤ z → z < N → t < 64 → IsDist ds ks x0 s0 z t (rowF o z t)
theorem Sp.least (h : VM N ds ks) {o : List Int} {x0 : Int} {s0 : Nat} (hx : 0 ≤ x0 ∧ x0 < N) (hs : s0 < 64) (S : Sp N ds ks o x0 s0) {z : Int} (hz : 0 ≤ z ∧ z < N) :
    (-1 ≤ leastT o z) ∧ (0 ≤ leastT o z → ∃ t, Rn ds ks x0 s0 (leastT o z).toNat z t) ∧ (∀ k t, Rn ds ks x0 s0 k z t → 0 ≤ leastT o z ∧ leastT o z ≤ (k : Int)) := by
  have hrow : ∀ t : Nat, t < 64 → IsDist ds ks x0 s0 z t (rowF o z t) := fun t ht => S.dist z t hz.1 hz.2 ht
  obtain ⟨r1, _, r3⟩ := leastF_min (p := wantB 0 6) (f := rowF o z) 64 0 (-1) (by omega) (fun i _ hi => ⟨want06 (by omega), by
    rcases hrow i (by omega) with ⟨g, _⟩ | ⟨g, _⟩ <;> omega⟩)
  refine ⟨?_, fun hp => ?_, fun k t hr => ?_⟩
  · rcases r1 with r1 | ⟨i, _, _, hf, r1⟩ <;> (unfold leastT; omega)
  · rcases r1 with r1 | ⟨i, _, hi, hf, r1⟩
    · unfold leastT at hp; omega
    · rcases hrow i (by omega) with ⟨_, g, _⟩ | ⟨g, _⟩
      · exact ⟨i, by unfold leastT; rw [r1]; exact g⟩
      · omega
  · have ht := (rn_range h hx hs k _ t hr).2
    rcases hrow t ht with ⟨g, _, g2⟩ | ⟨_, g⟩
    · have h3 := r3 t (by omega) (by omega) g
      have := g2 k hr
      unfold leastT
      omega
    · exact absurd hr (g k)
theorem first_sp (hn : 2000 ≤ n) (h : VM N ds ks) : ∃ o, spec_l4First.F n N ds ks = some o ∧ Sp N ds ks o 0 (k0 ks) := by
  obtain ⟨hs, h6, hx⟩ := start_set h
  have hkl := h.kl
  obtain ⟨o, p1, p2, p3⟩ := spread_dist (n := n) hn h (x := 0) (s := k0 ks) hx h6
  refine ⟨o, ?_, p2, p3⟩
  unfold spec_l4First.F
  rw [if_pos ⟨by omega, by omega⟩, hs, p1]
  rfl
theorem table_val (hn : 2000 ≤ n) (h : VM N ds ks) {o : List Int} (ho : (o.length : Int) = N * 64) {K : List Int → Option (List Int × Bool)} : ∀ (j x : Nat) (a : List Int), N.toNat - x < j → (x : Int) ≤ N → a = (List.range x).map (fun y : Nat => leastT o (y : Int)) →
    spec_StepsTable.l0 n K j N ds ks a o x = K ((List.range N.toNat).map fun y : Nat => leastT o (y : Int))
  | 0, x, a, hj, hx, _ => by omega
  | j + 1, x, a, hj, hx, ha => by
    rw [spec_StepsTable.l0]
    have h1 := h.n1
    have h2 := h.n2
    by_cases c : (x : Int) < N
    · have k1 : decide ((x : Int) < N) = true := by simpa using c
      have wx : IntKind.wrap .i64 ((x : Int) + 1) = ((x + 1 : Nat) : Int) := by rw [w64s (by omega) (by omega)]; omega
      have hal : a.length = x := by rw [ha]; simp
      rw [if_pos k1, l4Least_eq (by omega) 0 6 ho h2 ⟨by omega, c⟩, Option.bind_some, if_pos (by simp only [List.length_singleton]; omega), wx]
      refine table_val hn h ho j (x + 1) _ (by omega) (by omega) ?_
      rw [List.range_succ, List.map_append, ← ha]
      rfl
    · have k1 : ¬ decide ((x : Int) < N) = true := by simpa using c
      rw [if_neg k1]
      have : x = N.toNat := by omega
      rw [ha, this]
/-- Steps, tables and states, told by one spread. -/
theorem spread_all (hn : 1048600 ≤ n) (h : VM N ds ks) : ∃ o, Sp N ds ks o 0 (k0 ks) ∧
    impl_StepsTable.F n N ds ks = some ((List.range N.toNat).map (fun y : Nat => leastT o (y : Int)), true) ∧ spec_StepsTable.F n N ds ks = some ((List.range N.toNat).map (fun y : Nat => leastT o (y : Int)), true) ∧
    impl_StatesOf.F n N ds ks = some (((o.countP fun e => decide (0 ≤ e) : Nat) : Int), true) ∧ spec_StatesOf.F n N ds ks = some (((o.countP fun e => decide (0 ≤ e) : Nat) : Int), true) := by
  classical
  obtain ⟨o, p1, S⟩ := first_sp (n := n) (by omega) h
  have h1 := h.n1
  have h2 := h.n2
  have hlen := S.len
  have hv : decide (VM N ds ks) = true := by simp [h]
  have t1 : spec_StepsTable.F n N ds ks = some ((List.range N.toNat).map (fun y : Nat => leastT o (y : Int)), true) := by
    unfold spec_StepsTable.F
    rw [l2Maze_val (by omega), Option.bind_some, hv]
    simp only [Bool.not_true, Bool.false_eq_true, if_false]
    rw [p1, Option.bind_some]
    have := table_val (n := n) (by omega) h hlen (K := fun y4 => some (y4, true)) n 0 [] (by omega) (by omega) rfl
    simpa using this
  have s1 : spec_StatesOf.F n N ds ks = some (((o.countP fun e => decide (0 ≤ e) : Nat) : Int), true) := by
    unfold spec_StatesOf.F
    rw [l2Maze_val (by omega), Option.bind_some, hv]
    simp only [Bool.not_true, Bool.false_eq_true, if_false]
    rw [p1, Option.bind_some]
    have e1 := statesS_l0 (n := n) (K := fun y3 => some (y3, true)) (o := o) (by omega) n 0 0 (by omega) (by omega) (by omega)
    simp only [Int.natCast_zero, List.drop_zero] at e1
    rw [e1]
    simp
  obtain ⟨q, _, t2, t3⟩ := StepsTable_same (n := n) (N := N) (ds := ds) (ks := ks) (by omega)
  obtain ⟨q', _, s2, s3⟩ := StatesOf_same (n := n) (N := N) (ds := ds) (ks := ks) (by omega)
  refine ⟨o, S, ?_, t1, ?_, s1⟩
  · rw [t3, ← t2, t1]
  · rw [s3, ← s2, s1]
/-- Reached nodes and reached states. -/
theorem states_bound (h : VM N ds ks) {o : List Int} {x0 : Int} {s0 : Nat} (hx : 0 ≤ x0 ∧ x0 < N) (hs : s0 < 64) (S : Sp N ds ks o x0 s0) : ∀ (d x : Nat), N.toNat - x = d → x ≤ N.toNat →
    (((List.range N.toNat).map (fun y : Nat => leastT o (y : Int))).drop x).countP (fun e => decide (0 ≤ e)) ≤ (o.drop (64 * x)).countP (fun e => decide (0 ≤ e)) ∧
    (o.drop (64 * x)).countP (fun e => decide (0 ≤ e)) ≤ 64 * (((List.range N.toNat).map (fun y : Nat => leastT o (y : Int))).drop x).countP (fun e => decide (0 ≤ e))
  | 0, x, hd, hxl => by
    have hlen := S.len
    rw [List.drop_of_length_le (by simp; omega), List.drop_of_length_le (by omega)]
    simp
  | d + 1, x, hd, hxl => by
    have hlen := S.len
    obtain ⟨i1, i2⟩ := states_bound h hx hs S d (x + 1) (by omega) (by omega)
    have hxN : x < N.toNat := by omega
    have htl : x < ((List.range N.toNat).map (fun y : Nat => leastT o (y : Int))).length := by rw [List.length_map, List.length_range]; exact hxN
    have hcons : ((List.range N.toNat).map (fun y : Nat => leastT o (y : Int))).drop x = leastT o (x : Int) :: ((List.range N.toNat).map (fun y : Nat => leastT o (y : Int))).drop (x + 1) := by
      rw [List.drop_eq_getElem_cons htl]
      simp
    have hsplit : o.drop (64 * x) = (o.drop (64 * x)).take 64 ++ o.drop (64 * (x + 1)) := by
      rw [show 64 * (x + 1) = 64 * x + 64 by omega, ← List.drop_drop, List.take_append_drop]
    rw [hcons, hsplit, List.countP_append, List.countP_cons]
    have hle : ((o.drop (64 * x)).take 64).countP (fun e => decide (0 ≤ e)) ≤ 64 := by
      have := List.countP_le_length (p := fun e : Int => decide (0 ≤ e)) (l := (o.drop (64 * x)).take 64)
      rw [List.length_take] at this
      omega
    obtain ⟨L1, L2, L3⟩ := S.least h hx hs (z := (x : Int)) ⟨by omega, by omega⟩
    have hget : ∀ t : Nat, t < 64 → ((o.drop (64 * x)).take 64)[t]? = some (rowF o (x : Int) t) := by
      intro t ht
      rw [List.getElem?_take_of_lt ht, List.getElem?_drop]
      have : 64 * x + t < o.length := by omega
      rw [List.getElem?_eq_getElem this]
      unfold rowF
      rw [show (idI (x : Int) (t : Int)).toNat = 64 * x + t by unfold idI; omega, List.getD_eq_getElem?_getD, List.getElem?_eq_getElem this]
      rfl
    by_cases c : 0 ≤ leastT o (x : Int)
    · have hpos : 1 ≤ ((o.drop (64 * x)).take 64).countP (fun e => decide (0 ≤ e)) := by
        obtain ⟨t, ht⟩ := L2 c
        have ht6 := (rn_range h hx hs _ _ t ht).2
        have hd := S.dist (x : Int) t (by omega) (by omega) ht6
        have hge : 0 ≤ rowF o (x : Int) t := by
          rcases hd with ⟨g, _⟩ | ⟨_, g⟩
          · exact g
          · exact absurd ht (g _)
        exact List.countP_pos_iff.2 ⟨_, List.mem_of_getElem? (hget t ht6), by simpa using hge⟩
      rw [if_pos (by simpa using c)]
      omega
    · have hzero : ((o.drop (64 * x)).take 64).countP (fun e => decide (0 ≤ e)) = 0 := by
        rw [List.countP_eq_zero]
        intro e he
        obtain ⟨t, ht, rfl⟩ := List.getElem_of_mem he
        have ht6 : t < 64 := by rw [List.length_take] at ht; omega
        have := hget t ht6
        rw [List.getElem?_eq_getElem ht] at this
        simp only [Option.some.injEq] at this
        rw [this]
        intro q
        rcases S.dist (x : Int) t (by omega) (by omega) ht6 with ⟨_, g, _⟩ | ⟨g, _⟩
        · exact c (L3 _ _ g).1
        · rw [g] at q
          simp at q
      rw [if_neg (by simpa using c)]
      omega

/-! ### A detour -/
theorem rn_full (h : VM N ds ks) {s0 : Nat} (hs : s0 < 64) : ∀ (k : Nat) (z : Int) (t : Nat), Rn ds ks 0 s0 k z t → Rn ds ks 0 63 k z 63 := by
  intro k z t hr
  have hx : (0 : Int) ≤ 0 ∧ (0 : Int) < N := ⟨by omega, by have := h.n1; omega⟩
  obtain ⟨t', h1, h2⟩ := rn_sim (ds' := ds) (ks' := ks) (s := s0) (s' := 63) (fun u u' => u < 64 ∧ u' = 63) ⟨hs, rfl⟩ (by
    rintro y u u' z ⟨hu, rfl⟩ hz
    have hzr := steps_mem h hz
    refine ⟨?_, (setK_val h hzr hu).2, full_or ks z h.keys⟩
    have e1 := mem_memL (stepsN_lt h y (u : Int)) hzr.1
    have e2 := mem_memL (stepsN_lt h y ((63 : Nat) : Int)) hzr.1
    rw [stepsN_bit h, show ((z.toNat : Nat) : Int) = z by omega] at e1 e2
    rw [decide_eq_true hz] at e1
    have p6 : (2 : Nat) ^ 6 = 64 := by decide
    have hsub : Sub u 63 := fun i hi => by
      have : i < 6 := by
        rcases Nat.lt_or_ge i 6 with q | q
        · exact q
        · have : u.testBit i = false := Nat.testBit_lt_two_pow (Nat.lt_of_lt_of_le (by omega) (Nat.pow_le_pow_right (by omega) q))
          rw [this] at hi; cases hi
      have h63 : ∀ j : Fin 6, (63 : Nat).testBit j.val = true := by decide
      exact h63 ⟨i, this⟩
    have := openB_more (More.refl h) (by omega) (by omega) hsub e1.symm
    rw [this] at e2
    exact of_decide_eq_true e2) k z t hr
  rw [h1.2] at h2
  exact h2
theorem Detour_q (hn : 1048600 ≤ n) : ∃ q : Int × Bool, impl_DetourOf.F n N ds ks = some q ∧ spec_DetourOf.F n N ds ks = some q ∧ 0 ≤ q.1 ∧ ∃ p : Int × Bool, impl_FewestSteps.F n N ds ks = some p ∧ spec_FewestSteps.F n N ds ks = some p ∧ q.2 = p.2 := by
  classical
  obtain ⟨q, e1, e2⟩ := DetourOf_same (n := n) (N := N) (ds := ds) (ks := ks) (by omega)
  obtain ⟨p, _, f1, f2⟩ := FewestSteps_same (n := n) (N := N) (ds := ds) (ks := ks) (by omega)
  refine ⟨q, e2, e1, ?_⟩
  have e1' := e1
  unfold spec_DetourOf.F at e1'
  rw [f1, Option.bind_some] at e1'
  cases hp : p.2 with
  | false =>
    rw [hp] at e1'
    simp only [Bool.not_false, if_true, Option.some.injEq] at e1'
    exact ⟨by rw [← e1']; exact Int.le_refl 0, p, f2, f1, by rw [← e1', hp]⟩
  | true =>
    rw [hp] at e1'
    have h : VM N ds ks := by
      by_cases h : VM N ds ks
      · exact h
      · exfalso
        unfold spec_FewestSteps.F at f1
        rw [l2Maze_val (by omega), Option.bind_some] at f1
        simp [h] at f1
        rw [← f1] at hp
        cases hp
    have h1 := h.n1
    have h2 := h.n2
    obtain ⟨hs, h6, hx⟩ := start_set h
    obtain ⟨v, hv, hfv⟩ := few_val (n := n) (by omega) h
    rw [f1] at hfv
    simp only [Option.some.injEq] at hfv
    obtain ⟨o, p1, p2, p3⟩ := spread_dist (n := n) (by omega) h (x := 0) (s := 63) hx (by omega)
    have S : Sp N ds ks o 0 63 := ⟨p2, p3⟩
    have wN : IntKind.wrap .i64 (N - 1) = N - 1 := w64s (by omega) (by omega)
    have e63 : ((63 : Nat) : Int) = 63 := rfl
    rw [e63] at p1
    simp only [Bool.not_true, Bool.false_eq_true, if_false] at e1'
    rw [p1, Option.bind_some, wN, l4Least_eq (by omega) 0 6 p2 h2 ⟨by omega, by omega⟩, Option.bind_some, Option.some.injEq] at e1'
    have hv0 : 0 ≤ v := by
      rw [hfv] at hp
      simpa using hp
    rcases hv with ⟨_, ⟨t, hr⟩, _⟩ | ⟨hv, _⟩
    · have hr63 := rn_full h h6 _ _ _ hr
      obtain ⟨L1, L2, L3⟩ := S.least h hx (by omega) (z := N - 1) ⟨by omega, by omega⟩
      obtain ⟨L4, L5⟩ := L3 _ _ hr63
      have hp1 : p.1 = v := by rw [hfv]; simp only; rw [if_neg (by omega)]
      have hvle : v ≤ 768 := by
        obtain ⟨o2, q1, q2⟩ := first_sp (n := n) (by omega) h
        obtain ⟨o3, r1, r2, r3, _⟩ := first_same (n := n) (by omega) h
        rw [q1] at r3
        cases r3
        obtain ⟨M1, M2, M3⟩ := q2.least h hx h6 (z := N - 1) ⟨by omega, by omega⟩
        obtain ⟨M4, M5⟩ := M3 _ _ hr
        obtain ⟨t2, ht2⟩ := M2 M4
        have hf := few_one (v := v) (w := leastT o2 (N - 1)) (.inl ⟨hv0, ⟨t, hr⟩, by
          obtain ⟨v', hv', hfv'⟩ := few_val (n := n) (by omega) h
          rw [f1] at hfv'
          simp only [Option.some.injEq] at hfv'
          rw [hfv'] at hfv
          have : v' = v := by
            rcases hv' with ⟨w1, w2, w3⟩ | ⟨w1, _⟩
            · have := congrArg Prod.fst hfv
              simp only at this
              rw [if_neg (by omega), if_neg (by omega)] at this
              exact this
            · have := congrArg Prod.snd hfv
              simp only at this
              have : decide (v' ≥ 0) = true := by rw [this]; simpa using hv0
              have := of_decide_eq_true this
              omega
          subst this
          rcases hv' with ⟨_, _, w3⟩ | ⟨w1, _⟩
          · exact w3
          · omega⟩) (.inl ⟨M4, ⟨t2, ht2⟩, fun k t hk => (M3 k t hk).2⟩)
        rw [hf]
        have : leastT o2 (N - 1) ≤ 768 := by
          unfold leastT
          exact (leastF_range (p := wantB 0 6) (f := rowF o2 (N - 1)) (B := 768) (fun i => by
            unfold rowF
            rw [List.getD_eq_getElem?_getD]
            cases hq : o2[(idI (N - 1) (i : Int)).toNat]? with
            | none => simp
            | some e => exact (r2 e (List.mem_of_getElem? hq)).2) 64 0 (-1) (by omega) (by omega)).2
        exact this
      have hLT : leastT o (N - 1) = leastF (wantB 0 6) (rowF o (N - 1)) 0 64 (-1) := rfl
      rw [← hLT, hp1] at e1'
      refine ⟨?_, p, f2, f1, by rw [← e1', hp]⟩
      rw [← e1']
      simp only
      rw [w64s (x := v - leastT o (N - 1)) (by omega) (by omega)]
      omega
    · omega

/-! ### The way back -/
theorem joinB_sym (x y : Int) (d : Int × Int × Int) : joinB x y d = joinB y x d := by
  unfold joinB
  rw [Bool.or_comm]
theorem open_step (h : VM N ds ks) {x z : Int} {s : Nat} (hz : 0 ≤ z) : z ∈ memL (stepsN ds x (s : Int)) ↔ openB ds x z (s : Int) = true := by
  have e := mem_memL (stepsN_lt h x (s : Int)) hz
  rw [stepsN_bit h, show ((z.toNat : Nat) : Int) = z by omega] at e
  rw [← e, decide_eq_true_eq]
/-- What is taken on goes through open doors, and is kept. -/
theorem taken_chain (hn : 40 ≤ n) (h : VM N ds ks) {ws : List Int} (hw : ws.length ≤ 1000000) {l : List Int} : ∀ (j i : Nat) (out : List Int) (s : Nat), s < 64 → out.length = i → i ≤ ws.length → (0 < i → out.getD (i - 1) 0 = (s : Int)) → impl_taken.l0 n (fun y => some (y, true)) j ws N ds ks out (s : Int) ws.length i = some (l, true) →
    (∃ ext, l = out ++ ext) ∧ l.length = ws.length ∧ ∀ m, i ≤ m → 0 < m → m < ws.length → ∃ u w : Nat, u < 64 ∧ w < 64 ∧ l.getD (m - 1) 0 = (u : Int) ∧ l.getD m 0 = (w : Int) ∧ Sub u w ∧ openB ds (ws.getD (m - 1) 0) (ws.getD m 0) (u : Int) = true
  | 0, i, out, s, _, _, _, _, he => by simp [impl_taken.l0] at he
  | j + 1, i, out, s, hs, ho, hi, hlast, he => by
    rw [impl_taken.l0] at he
    by_cases c : i < ws.length
    · have k1 : decide ((i : Int) < (ws.length : Int)) = true := by simpa using c
      have k2 : 0 ≤ (i : Int) ∧ (i : Int) < (ws.length : Int) := ⟨by omega, by omega⟩
      have ei : (i : Int).toNat = i := by omega
      have wi : IntKind.wrap .i64 ((i : Int) + 1) = ((i + 1 : Nat) : Int) := by rw [w64s (by omega) (by omega)]; omega
      have n1 := h.n1
      have n2 := h.n2
      have hkl := h.kl
      have wN : IntKind.wrap .i64 (N - 1) = N - 1 := w64s (by omega) (by omega)
      rw [if_pos k1, if_pos k2, ei, within_eq, Option.bind_some, wN, wi] at he
      by_cases c1 : 0 ≤ ws.getD i 0 ∧ ws.getD i 0 ≤ N - 1
      · rw [nin_false c1, if_neg (by simp)] at he
        obtain ⟨o1, o2⟩ := setK_val h (z := ws.getD i 0) ⟨c1.1, by omega⟩ hs
        have k3 : 0 ≤ ws.getD i 0 ∧ ws.getD i 0 < (ks.length : Int) := ⟨c1.1, by omega⟩
        have k4 : out.length + ([((setK ks s (ws.getD i 0) : Nat) : Int)] : List Int).length ≤ 4398046511104 := by simp only [List.length_singleton]; omega
        have go : (impl_taken.l0 n (fun y => some (y, true)) j ws N ds ks (out ++ [((setK ks s (ws.getD i 0) : Nat) : Int)]) ((setK ks s (ws.getD i 0) : Nat) : Int) ws.length ((i + 1 : Nat) : Int) = some (l, true)) → (0 < i → openB ds (ws.getD (i - 1) 0) (ws.getD i 0) (s : Int) = true) →
            (∃ ext, l = out ++ ext) ∧ l.length = ws.length ∧ ∀ m, i ≤ m → 0 < m → m < ws.length → ∃ u w : Nat, u < 64 ∧ w < 64 ∧ l.getD (m - 1) 0 = (u : Int) ∧ l.getD m 0 = (w : Int) ∧ Sub u w ∧ openB ds (ws.getD (m - 1) 0) (ws.getD m 0) (u : Int) = true := by
          intro he2 hop
          obtain ⟨⟨ext, r1⟩, r2, r3⟩ := taken_chain hn h hw j (i + 1) _ (setK ks s (ws.getD i 0)) o2 (by simp [ho]) (by omega) (fun _ => by
            rw [Nat.add_sub_cancel, List.getD_eq_getElem?_getD, List.getElem?_append_right (by omega), ho, Nat.sub_self]
            rfl) he2
          refine ⟨⟨_, by rw [r1, List.append_assoc]⟩, r2, fun m hm hm0 hmw => ?_⟩
          by_cases e : m = i
          · subst e
            refine ⟨s, setK ks s (ws.getD m 0), hs, o2, ?_, ?_, Sub.or_left _ _, hop hm0⟩
            · rw [r1, List.append_assoc, List.getD_eq_getElem?_getD, List.getElem?_append_left (by omega), ← List.getD_eq_getElem?_getD]
              exact hlast hm0
            · rw [r1, List.append_assoc, List.getD_eq_getElem?_getD, List.getElem?_append_right (by omega), ho, Nat.sub_self]
              rfl
          · exact r3 m (by omega) hm0 hmw
        by_cases c2 : i = 0
        · rw [if_neg (by rw [decide_eq_true_eq]; omega), if_pos k3, o1, if_pos k4] at he
          exact go he (fun q => by omega)
        · have g4 : IntKind.wrap .i64 ((i : Int) - 1) = ((i - 1 : Nat) : Int) := by rw [w64s (by omega) (by omega)]; omega
          rw [if_pos (by rw [decide_eq_true_eq]; omega), g4, if_pos ⟨by omega, by omega⟩, Int.toNat_natCast, steps_eq hn h, Option.bind_some, if_neg (by omega), steps_bit0 h _ _ _ c1.1 (by omega)] at he
          cases hop : openB ds (ws.getD (i - 1) 0) (ws.getD i 0) (s : Int) with
          | false =>
            rw [hop] at he
            simp at he
          | true =>
            rw [hop, if_neg (by simp), if_pos k3, o1, if_pos k4] at he
            exact go he (fun _ => hop)
      · rw [nin_true c1, if_pos rfl] at he
        simp at he
    · rw [if_neg (by rw [decide_eq_true_eq]; omega)] at he
      simp only [Option.some.injEq, Prod.mk.injEq, and_true] at he
      subst he
      exact ⟨⟨[], by simp⟩, by omega, fun m hm _ hmw => by omega⟩
theorem WayBack_q (hn : 2000000 ≤ n) {ws : List Int} (hw : ws.length ≤ 1000) : ∃ q : Int × Bool, spec_WayBack.F n N ds ks ws = some q ∧ impl_WayBack.F n N ds ks ws = some q ∧ (q.2 = true → q.1 ≤ (ws.length : Int) - 1) := by
  classical
  obtain ⟨q, e1, e2⟩ := WayBack_same (n := n) (N := N) (ds := ds) (ks := ks) hn (ws := ws) (by omega)
  refine ⟨q, e1, e2, fun hq => ?_⟩
  unfold spec_WayBack.F at e1
  rw [l2Maze_val (by omega), Option.bind_some] at e1
  by_cases h : VM N ds ks
  · have hv : (!decide (VM N ds ks)) = false := by simp [h]
    simp only [hv, Bool.false_eq_true, if_false] at e1
    obtain ⟨r, hr, hf, t1, t2⟩ := taken_same (n := n) (by omega) h (ws := ws) (by omega) (by omega)
    rw [t1, Option.bind_some] at e1
    cases hr2 : r.2 with
    | false =>
      rw [hr2] at e1
      simp only [Bool.not_false, if_true, Option.some.injEq] at e1
      rw [← e1] at hq
      cases hq
    | true =>
      obtain ⟨f1, f2, f3, f4⟩ := hf hr2
      have h1 := h.n1
      have h2 := h.n2
      have wl : IntKind.wrap .i64 ((ws.length : Int) - 1) = (ws.length : Int) - 1 := w64s (by omega) (by omega)
      have el : ((ws.length : Int) - 1).toNat = ws.length - 1 := by omega
      have k1 : 0 ≤ (ws.length : Int) - 1 ∧ (ws.length : Int) - 1 < (ws.length : Int) := by omega
      have k2 : 0 ≤ (ws.length : Int) - 1 ∧ (ws.length : Int) - 1 < (r.1.length : Int) := by omega
      simp only [hr2, Bool.not_true, Bool.false_eq_true, if_false, wl, if_pos k1, if_pos k2, el] at e1
      have hs := f3 _ (getD_mem (l := r.1) (i := ws.length - 1) (d := (0 : Int)) (by omega))
      have hx := f4 (ws.length - 1) (by omega)
      obtain ⟨s, hse⟩ : ∃ s : Nat, r.1.getD (ws.length - 1) 0 = (s : Int) := ⟨(r.1.getD (ws.length - 1) 0).toNat, by omega⟩
      have hs6 : s < 64 := by omega
      obtain ⟨o, p1, p2, p3⟩ := spread_dist (n := n) (by omega) h (x := ws.getD (ws.length - 1) 0) (s := s) hx hs6
      have S : Sp N ds ks o (ws.getD (ws.length - 1) 0) s := ⟨p2, p3⟩
      rw [hse, p1, Option.bind_some, l4Least_eq (by omega) 0 6 p2 h2 ⟨by omega, by omega⟩, Option.bind_some, told_eq] at e1
      -- the walk, backwards
      have t2' := t2
      unfold impl_taken.F at t2'
      have hne : ¬ (decide ((ws.length : Int) = 0)) = true := by rw [decide_eq_true_eq]; omega
      simp only at t2'
      rw [if_neg hne, if_pos ⟨by omega, by omega⟩] at t2'
      have hw0 : ws.getD 0 0 = 0 := by
        by_cases c : ws.getD 0 0 = 0
        · exact c
        · exfalso
          rw [if_pos (by rw [decide_eq_false c]; rfl)] at t2'
          simp only [Option.some.injEq] at t2'
          rw [← t2'] at hr2
          cases hr2
      rw [if_neg (by rw [hw0]; simp)] at t2'
      have hr' : r = (r.1, true) := by rw [← hr2]
      rw [hr'] at t2'
      obtain ⟨_, _, chain⟩ := taken_chain (n := n) (by omega) h (ws := ws) (by omega) n 0 [] 0 (by omega) rfl (by omega) (fun q => by omega) t2'
      have ar : ∀ k L : Nat, k + 1 ≤ L - 1 → k ≤ L - 1 ∧ 0 < L - 1 - k ∧ L - 1 - k < L ∧ L - 1 - k - 1 = L - 1 - (k + 1) ∧ L - 1 - (k + 1) < L := fun k L hk => by omega
      have p6 : (2 : Nat) ^ 6 = 64 := by decide
      have back : ∀ k, k ≤ ws.length - 1 → ∃ t, t < 64 ∧ Rn ds ks (ws.getD (ws.length - 1) 0) s k (ws.getD (ws.length - 1 - k) 0) t ∧ ∀ u : Nat, r.1.getD (ws.length - 1 - k) 0 = (u : Int) → Sub u t := by
        intro k
        induction k with
        | zero =>
          intro _
          refine ⟨s, hs6, ⟨rfl, rfl⟩, fun u hu => ?_⟩
          rw [Nat.sub_zero, hse] at hu
          have : u = s := (Int.ofNat.inj hu).symm
          rw [this]
          exact Sub.refl _
        | succ k ih =>
          intro hk
          obtain ⟨a0, a1, a2, a3, a4⟩ := ar k ws.length hk
          obtain ⟨t, ht, hrn, hsub⟩ := ih a0
          obtain ⟨u, w, hu, hw', hu2, hw2, huw, hop⟩ := chain (ws.length - 1 - k) (Nat.zero_le _) a1 a2
          rw [a3] at hu2 hop
          have hwt := hsub w hw2
          have hz := f4 (ws.length - 1 - (k + 1)) a4
          have hop2 := openB_more (More.refl h) (s := u) (t := t) (by rw [p6]; exact hu) (by rw [p6]; exact ht) (huw.trans hwt) hop
          have hop3 : openB ds (ws.getD (ws.length - 1 - k) 0) (ws.getD (ws.length - 1 - (k + 1)) 0) (t : Int) = true := by
            have e : openB ds (ws.getD (ws.length - 1 - (k + 1)) 0) (ws.getD (ws.length - 1 - k) 0) (t : Int) = openB ds (ws.getD (ws.length - 1 - k) 0) (ws.getD (ws.length - 1 - (k + 1)) 0) (t : Int) := by
              unfold openB
              congr 1
              funext d
              rw [joinB_sym]
            rw [← e]
            exact hop2
          refine ⟨setK ks t (ws.getD (ws.length - 1 - (k + 1)) 0), (setK_val h hz ht).2, ⟨_, t, hrn, (open_step h hz.1).2 hop3, rfl⟩, fun u' hu' => ?_⟩
          have : u' = u := Int.ofNat.inj (hu'.symm.trans hu2)
          rw [this]
          exact (huw.trans hwt).trans (Sub.or_left _ _)
      obtain ⟨t, ht, hrn, _⟩ := back (ws.length - 1) (Nat.le_refl _)
      rw [Nat.sub_self, hw0] at hrn
      obtain ⟨L1, L2, L3⟩ := S.least h hx hs6 (z := 0) ⟨by omega, by omega⟩
      obtain ⟨L4, L5⟩ := L3 _ _ hrn
      have hLT : leastT o 0 = leastF (wantB 0 6) (rowF o 0) 0 64 (-1) := rfl
      rw [← hLT] at e1
      have e1' : some (if (0 : Int) > leastT o 0 then (0 : Int) else leastT o 0, decide (leastT o 0 ≥ 0)) = some q := e1
      simp only [Option.some.injEq] at e1'
      rw [← e1']
      simp only
      rw [if_neg (by omega)]
      omega
  · have hv : (!decide (VM N ds ks)) = true := by simp [h]
    simp only [hv, if_true, Option.some.injEq] at e1
    rw [← e1] at hq
    cases hq

/-! ### A first way -/
theorem kw_rn {s0 : Nat} : ∀ (w : List Int) (j : Nat) (x : Int) (s : Nat), Rn ds ks 0 s0 j x s → KW N ds ks x s w → ∀ i, i ≤ w.length → ∃ t, Rn ds ks 0 s0 (j + i) ((x :: w).getD i 0) t
  | [], j, x, s, hr, hk, i, hi => by
    have : i = 0 := by simpa using hi
    subst this
    exact ⟨s, hr⟩
  | z :: w, j, x, s, hr, hk, i, hi => by
    cases i with
    | zero => exact ⟨s, hr⟩
    | succ i =>
      have := kw_rn w (j + 1) z (setK ks s z) ⟨x, s, hr, hk.1, rfl⟩ hk.2 i (by simpa using hi)
      rwa [show j + 1 + i = j + (i + 1) by omega] at this
theorem kw_last : ∀ (w : List Int) (x : Int) (s : Nat), KW N ds ks x s w → (x :: w).getD w.length 0 = N - 1
  | [], x, s, hk => hk
  | z :: w, x, s, hk => kw_last w z (setK ks s z) hk.2
end
end Go.Pv
