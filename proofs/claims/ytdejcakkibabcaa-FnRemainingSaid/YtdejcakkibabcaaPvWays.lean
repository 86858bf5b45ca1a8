/- Plain laws: ways, tables of steps, detours and ways back, and how they hang together. -/
import Derived.Test.YtdejcakkibabcaaPvForms
import Derived.Test.YtdejcakkibabcaaPvFew
import Derived.Test.YtdejcakkibabcaaPvL4B
import Derived.Test.YtdejcakkibabcaaPvTaken
set_option linter.unusedVariables false
set_option linter.unusedSimpArgs false
set_option autoImplicit false
namespace Go.Pv
open Go Go.Fx Go.Pf

/-- A number of steps, as it is told. -/
def tldW (v : Int) : Int × Bool := (if (0 : Int) > v then (0 : Int) else v, decide (v ≥ (0 : Int)))
section
variable {n : Nat} {N : Int} {ds : List (Int × Int × Int)} {ks : List Int}
/-! ### Steps from the start and steps to the goal -/
theorem rn_wn {s0 : Nat} : ∀ (k j : Nat) (x : Int) (s : Nat), Rn ds ks 0 s0 j x s → Wn N ds ks k x s → ∃ t, Rn ds ks 0 s0 (j + k) (N - 1) t
  | 0, j, x, s, hr, hw => ⟨s, by rw [← (show x = N - 1 from hw)]; exact hr⟩
  | k + 1, j, x, s, hr, hw => by
    obtain ⟨z, hz, hw'⟩ := wn_succ.1 hw
    have := rn_wn k (j + 1) z (setK ks s z) ⟨x, s, hr, hz, rfl⟩ hw'
    rwa [show j + 1 + k = j + (k + 1) by omega] at this
theorem wn_rn {s0 : Nat} : ∀ (k m : Nat) (z : Int) (t : Nat), Rn ds ks 0 s0 k z t → Wn N ds ks m z t → Wn N ds ks (k + m) 0 s0
  | 0, m, z, t, hr, hw => by
    obtain ⟨rfl, rfl⟩ := hr
    rwa [Nat.zero_add]
  | k + 1, m, z, t, hr, hw => by
    obtain ⟨y, s, h1, h2, rfl⟩ := hr
    have := wn_rn k (m + 1) y s h1 (wn_succ.2 ⟨z, h2, hw⟩)
    rwa [show k + (m + 1) = k + 1 + m by omega] at this
theorem rem_few {v : Int} (hs : ks.getD 0 0 = ((k0 ks : Nat) : Int)) (h : IsRem N ds ks 0 (k0 ks) v) : IsFew N ds ks v := by
  have to : ∀ k t, Rn ds ks 0 (k0 ks) k (N - 1) t → Wn N ds ks k 0 (k0 ks) := fun k t hr => by
    have := wn_rn (N := N) k 0 _ _ hr rfl
    rwa [Nat.add_zero] at this
  rcases h with ⟨h1, h2, h3⟩ | ⟨h1, h2⟩
  · refine .inl ⟨h1, ?_, fun k t hr => h3 k (to k t hr)⟩
    have := rn_wn (s0 := k0 ks) v.toNat 0 0 (k0 ks) ⟨rfl, rfl⟩ h2
    rwa [Nat.zero_add] at this
  · exact .inr ⟨h1, fun k t hr => h2 k (to k t hr)⟩
theorem few_one {v w : Int} (h : IsFew N ds ks v) (k : IsFew N ds ks w) : v = w := by
  rcases h with ⟨h1, ⟨t, h2⟩, h3⟩ | ⟨h1, h2⟩ <;> rcases k with ⟨k1, ⟨u, k2⟩, k3⟩ | ⟨k1, k2⟩
  · have := h3 _ _ k2
    have := k3 _ _ h2
    omega
  · exact absurd h2 (k2 _ _)
  · exact absurd k2 (h2 _ _)
  · omega
theorem start_set (h : VM N ds ks) : ks.getD 0 0 = ((k0 ks : Nat) : Int) ∧ k0 ks < 64 ∧ (0 : Int) ≤ 0 ∧ (0 : Int) < N := by
  have h1 := h.n1
  have hkl := h.kl
  have hk := h.keys _ (getD_mem (l := ks) (i := 0) (d := (0 : Int)) (by omega))
  unfold k0
  omega

/-! ### The table of steps -/
/-- The least number of steps to a node. -/
noncomputable def leastT (o : List Int) (x : Int) : Int := leastF (wantB 0 6) (rowF o x) 0 64 (-1)
structure Sp (N : Int) (ds : List (Int × Int × Int)) (ks o : List Int) (x0 : Int) (s0 : Nat) : Prop where
  len : (o.length : Int) = N * 64
  dist : ∀ (z : Int) (t : Nat), 0 ≤ z → z < N → t < 64 → IsDist ds ks x0 s0 z t (rowF o z t)
theorem Sp.least (h : VM N ds ks) {o : List Int} {x0 : Int} {s0 : Nat} (hx : 0 ≤ x0 ∧ x0 < N) (hs : s0 < 64) (S : Sp N ds ks o x0 s0) {z : Int} (hz : 0 ≤ z ∧ z < N) :
    (-1 ≤ leastT o z) ∧ (0 ≤ leastT o z → ∃ t, Rn ds ks x0 s0 (leastT o z).toNat z t) ∧ (∀ k t, Rn ds ks x0 s0 k z t → 0 ≤ leastT o z ∧ leastT o z ≤ (k : Int)) := by
  have hrow : ∀ t : Nat, t < 64 → IsDist ds ks x0 s0 z t (rowF o z t) := fun t ht => S.dist z t hz.1 hz.2 ht
  obtain ⟨r1, _, r3⟩ := leastF_min (p := wantB 0 6) (f := rowF o z) 64 0 (-1) (by omega) (fun i _ hi => ⟨want06 (by omega), by
    rcases hrow i (by omega) with ⟨g, _⟩ | ⟨g, _⟩ <;> omega⟩)
  refine ⟨?_, fun hp => ?_, fun k t hr => ?_⟩
  · rcases r1 with r1 | ⟨i, _, _, hf, r1⟩ <;> (unfold leastT; omega)
  · rcases r1 with r1 | ⟨i, _, hi, hf, r1⟩
    · unfold leastT at hp; omega
    · rcases hrow i (by omega) with ⟨_, g, _⟩ | ⟨g, _⟩
      · exact ⟨i, by unfold leastT; rw [r1]; exact g⟩
      · omega
  · have ht := (rn_range h hx hs k _ t hr).2
    rcases hrow t ht with ⟨g, _, g2⟩ | ⟨_, g⟩
    · have h3 := r3 t (by omega) (by omega) g
      have := g2 k hr
      unfold leastT
      omega
    · exact absurd hr (g k)
theorem first_sp (hn : 2000 ≤ n) (h : VM N ds ks) : ∃ o, spec_l4First.F n N ds ks = some o ∧ Sp N ds ks o 0 (k0 ks) := by
  obtain ⟨hs, h6, hx⟩ := start_set h
  have hkl := h.kl
  obtain ⟨o, p1, p2, p3⟩ := spread_dist (n := n) hn h (x := 0) (s := k0 ks) hx h6
  refine ⟨o, ?_, p2, p3⟩
  unfold spec_l4First.F
  rw [if_pos ⟨by omega, by omega⟩, hs, p1]
  rfl
/-- Reached nodes and reached states. -/
theorem states_bound (h : VM N ds ks) {o : List Int} {x0 : Int} {s0 : Nat} (hx : 0 ≤ x0 ∧ x0 < N) (hs : s0 < 64) (S : Sp N ds ks o x0 s0) : ∀ (d x : Nat), N.toNat - x = d → x ≤ N.toNat →
    (((List.range N.toNat).map (fun y : Nat => leastT o (y : Int))).drop x).countP (fun e => decide (0 ≤ e)) ≤ (o.drop (64 * x)).countP (fun e => decide (0 ≤ e)) ∧
    (o.drop (64 * x)).countP (fun e => decide (0 ≤ e)) ≤ 64 * (((List.range N.toNat).map (fun y : Nat => leastT o (y : Int))).drop x).countP (fun e => decide (0 ≤ e))
  | 0, x, hd, hxl => by
    have hlen := S.len
    rw [List.drop_of_length_le (by simp; omega), List.drop_of_length_le (by omega)]
    simp
  | d + 1, x, hd, hxl => by
    have hlen := S.len
    obtain ⟨i1, i2⟩ := states_bound h hx hs S d (x + 1) (by omega) (by omega)
    have hxN : x < N.toNat := by omega
    have htl : x < ((List.range N.toNat).map (fun y : Nat => leastT o (y : Int))).length := by rw [List.length_map, List.length_range]; exact hxN
    have hcons : ((List.range N.toNat).map (fun y : Nat => leastT o (y : Int))).drop x = leastT o (x : Int) :: ((List.range N.toNat).map (fun y : Nat => leastT o (y : Int))).drop (x + 1) := by
      rw [List.drop_eq_getElem_cons htl]
      simp
    have hsplit : o.drop (64 * x) = (o.drop (64 * x)).take 64 ++ o.drop (64 * (x + 1)) := by
      rw [show 64 * (x + 1) = 64 * x + 64 by omega, ← List.drop_drop, List.take_append_drop]
    rw [hcons, hsplit, List.countP_append, List.countP_cons]
    have hle : ((o.drop (64 * x)).take 64).countP (fun e => decide (0 ≤ e)) ≤ 64 := by
      have := List.countP_le_length (p := fun e : Int => decide (0 ≤ e)) (l := (o.drop (64 * x)).take 64)
      rw [List.length_take] at this
      omega
    obtain ⟨L1, L2, L3⟩ := S.least h hx hs (z := (x : Int)) ⟨by omega, by omega⟩
    have hget : ∀ t : Nat, t < 64 → ((o.drop (64 * x)).take 64)[t]? = some (rowF o (x : Int) t) := by
      intro t ht
      rw [List.getElem?_take_of_lt ht, List.getElem?_drop]
      have : 64 * x + t < o.length := by omega
      rw [List.getElem?_eq_getElem this]
      unfold rowF
      rw [show (idI (x : Int) (t : Int)).toNat = 64 * x + t by unfold idI; omega, List.getD_eq_getElem?_getD, List.getElem?_eq_getElem this]
      rfl
    by_cases c : 0 ≤ leastT o (x : Int)
    · have hpos : 1 ≤ ((o.drop (64 * x)).take 64).countP (fun e => decide (0 ≤ e)) := by
        obtain ⟨t, ht⟩ := L2 c
        have ht6 := (rn_range h hx hs _ _ t ht).2
        have hd := S.dist (x : Int) t (by omega) (by omega) ht6
        have hge : 0 ≤ rowF o (x : Int) t := by
          rcases hd with ⟨g, _⟩ | ⟨_, g⟩
          · exact g
          · exact absurd ht (g _)
        exact List.countP_pos_iff.2 ⟨_, List.mem_of_getElem? (hget t ht6), by simpa using hge⟩
      rw [if_pos (by simpa using c)]
      omega
    · have hzero : ((o.drop (64 * x)).take 64).countP (fun e => decide (0 ≤ e)) = 0 := by
        rw [List.countP_eq_zero]
        intro e he
        obtain ⟨t, ht, rfl⟩ := List.getElem_of_mem he
        have ht6 : t < 64 := by rw [List.length_take] at ht; omega
        have := hget t ht6
        rw [List.getElem?_eq_getElem ht] at this
        simp only [Option.some.injEq] at this
        rw [this]
        intro q
        rcases S.dist (x : Int) t (by omega) (by omega) ht6 with ⟨_, g, _⟩ | ⟨g, _⟩
        · exact c (L3 _ _ g).1
        · rw [g] at q
          simp at q
      rw [if_neg (by simpa using c)]
      omega

/-! ### A detour -/
theorem rn_full (h : VM N ds ks) {s0 : Nat} (hs : s0 < 64) : ∀ (k : Nat) (z : Int) (t : Nat), Rn ds ks 0 s0 k z t → Rn ds ks 0 63 k z 63 := by
  intro k z t hr
  have hx : (0 : Int) ≤ 0 ∧ (0 : Int) < N := ⟨by omega, by have := h.n1; omega⟩
  obtain ⟨t', h1, h2⟩ := rn_sim (ds' := ds) (ks' := ks) (s := s0) (s' := 63) (fun u u' => u < 64 ∧ u' = 63) ⟨hs, rfl⟩ (by
    rintro y u u' z ⟨hu, rfl⟩ hz
    have hzr := steps_mem h hz
    refine ⟨?_, (setK_val h hzr hu).2, full_or ks z h.keys⟩
    have e1 := mem_memL (stepsN_lt h y (u : Int)) hzr.1
    have e2 := mem_memL (stepsN_lt h y ((63 : Nat) : Int)) hzr.1
    rw [stepsN_bit h, show ((z.toNat : Nat) : Int) = z by omega] at e1 e2
    rw [decide_eq_true hz] at e1
    have p6 : (2 : Nat) ^ 6 = 64 := by decide
    have hsub : Sub u 63 := fun i hi => by
      have : i < 6 := by
        rcases Nat.lt_or_ge i 6 with q | q
        · exact q
        · have : u.testBit i = false := Nat.testBit_lt_two_pow (Nat.lt_of_lt_of_le (by omega) (Nat.pow_le_pow_right (by omega) q))
          rw [this] at hi; cases hi
      have h63 : ∀ j : Fin 6, (63 : Nat).testBit j.val = true := by decide
      exact h63 ⟨i, this⟩
    have := openB_more (More.refl h) (by omega) (by omega) hsub e1.symm
    rw [this] at e2
    exact of_decide_eq_true e2) k z t hr
  rw [h1.2] at h2
  exact h2
/-! ### The way back -/
theorem joinB_sym (x y : Int) (d : Int × Int × Int) : joinB x y d = joinB y x d := by
  unfold joinB
  rw [Bool.or_comm]
theorem open_step (h : VM N ds ks) {x z : Int} {s : Nat} (hz : 0 ≤ z) : z ∈ memL (stepsN ds x (s : Int)) ↔ openB ds x z (s : Int) = true := by
  have e := mem_memL (stepsN_lt h x (s : Int)) hz
  rw [stepsN_bit h, show ((z.toNat : Nat) : Int) = z by omega] at e
  rw [← e, decide_eq_true_eq]
/-! ### A first way -/
theorem kw_rn {s0 : Nat} : ∀ (w : List Int) (j : Nat) (x : Int) (s : Nat), Rn ds ks 0 s0 j x s → KW N ds ks x s w → ∀ i, i ≤ w.length → ∃ t, Rn ds ks 0 s0 (j + i) ((x :: w).getD i 0) t
  | [], j, x, s, hr, hk, i, hi => by
    have : i = 0 := by simpa using hi
    subst this
    exact ⟨s, hr⟩
  | z :: w, j, x, s, hr, hk, i, hi => by
    cases i with
    | zero => exact ⟨s, hr⟩
    | succ i =>
      have := kw_rn w (j + 1) z (setK ks s z) ⟨x, s, hr, hk.1, rfl⟩ hk.2 i (by simpa using hi)
      rwa [show j + 1 + i = j + (i + 1) by omega] at this
theorem kw_last : ∀ (w : List Int) (x : Int) (s : Nat), KW N ds ks x s w → (x :: w).getD w.length 0 = N - 1
  | [], x, s, hk => hk
  | z :: w, x, s, hk => kw_last w z (setK ks s z) hk.2
end
end Go.Pv
