/- Plain laws: the fewest steps in which one wins, told by walks; what they do where walks are kept. -/
import Derived.Test.YtdejcakkibabcaaPvL4
import Derived.Test.YtdejcakkibabcaaPvBfs
set_option linter.unusedVariables false
set_option linter.unusedSimpArgs false
set_option autoImplicit false
namespace Go.Pv
open Go Go.Fx Go.Pf

theorem leastF_min {p : Nat → Bool} {f : Nat → Int} : ∀ (k c : Nat) (b : Int), -1 ≤ b → (∀ i, c ≤ i → i < c + k → p i = true ∧ -1 ≤ f i) →
    (leastF p f c k b = b ∨ ∃ i, c ≤ i ∧ i < c + k ∧ 0 ≤ f i ∧ leastF p f c k b = f i) ∧ (0 ≤ b → 0 ≤ leastF p f c k b ∧ leastF p f c k b ≤ b) ∧ ∀ i, c ≤ i → i < c + k → 0 ≤ f i → 0 ≤ leastF p f c k b ∧ leastF p f c k b ≤ f i
  | 0, c, b, hb, h => by
    unfold leastF
    exact ⟨.inl rfl, fun h => ⟨h, Int.le_refl _⟩, fun i h1 h2 _ => by omega⟩
  | k + 1, c, b, hb, h => by
    unfold leastF
    obtain ⟨hc1, hc2⟩ := h c (Nat.le_refl _) (by omega)
    have hrest : ∀ i, c + 1 ≤ i → i < c + 1 + k → p i = true ∧ -1 ≤ f i := fun i h1 h2 => h i (by omega) (by omega)
    by_cases q : p c = true ∧ 0 ≤ f c ∧ (b < 0 ∨ f c < b)
    · rw [if_pos q]
      obtain ⟨r1, r2, r3⟩ := leastF_min k (c + 1) (f c) (by omega) hrest
      obtain ⟨s1, s2⟩ := r2 q.2.1
      refine ⟨?_, fun hb0 => ⟨s1, by omega⟩, fun i h1 h2 h3 => ?_⟩
      · rcases r1 with r1 | ⟨i, h1, h2, h3, h4⟩
        · exact .inr ⟨c, Nat.le_refl _, by omega, q.2.1, r1⟩
        · exact .inr ⟨i, by omega, by omega, h3, h4⟩
      · by_cases e : i = c
        · subst e; exact ⟨s1, s2⟩
        · exact r3 i (by omega) (by omega) h3
    · rw [if_neg q]
      obtain ⟨r1, r2, r3⟩ := leastF_min k (c + 1) b hb hrest
      refine ⟨?_, r2, fun i h1 h2 h3 => ?_⟩
      · rcases r1 with r1 | ⟨i, h1, h2, h3, h4⟩
        · exact .inl r1
        · exact .inr ⟨i, by omega, by omega, h3, h4⟩
      · by_cases e : i = c
        · subst e
          have hb0 : 0 ≤ b := by
            rcases Int.lt_or_le b 0 with g | g
            · exact absurd ⟨hc1, h3, .inl g⟩ q
            · exact g
          obtain ⟨s1, s2⟩ := r2 hb0
          refine ⟨s1, ?_⟩
          rcases Int.lt_or_le (f i) b with g | g
          · exact absurd ⟨hc1, h3, .inr g⟩ q
          · omega
        · exact r3 i (by omega) (by omega) h3
/-- Colours at the start. -/
def k0 (ks : List Int) : Nat := (ks.getD 0 0).toNat
/-- The least number of steps of a walk from the start to the goal, or -1. -/
def IsFew (N : Int) (ds : List (Int × Int × Int)) (ks : List Int) (v : Int) : Prop :=
  (0 ≤ v ∧ (∃ t, Rn ds ks 0 (k0 ks) v.toNat (N - 1) t) ∧ ∀ (k t : Nat), Rn ds ks 0 (k0 ks) k (N - 1) t → v ≤ (k : Int)) ∨ (v = -1 ∧ ∀ k t : Nat, ¬ Rn ds ks 0 (k0 ks) k (N - 1) t)
theorem rn_range {N : Int} {ds : List (Int × Int × Int)} {ks : List Int} (h : VM N ds ks) {x : Int} {s : Nat} (hx : 0 ≤ x ∧ x < N) (hs : s < 64) : ∀ (k : Nat) (z : Int) (t : Nat), Rn ds ks x s k z t → (0 ≤ z ∧ z < N) ∧ t < 64
  | 0, z, t, hr => by
    obtain ⟨rfl, rfl⟩ := hr
    exact ⟨hx, hs⟩
  | k + 1, z, t, hr => by
    obtain ⟨y, u, h1, h2, rfl⟩ := hr
    obtain ⟨_, h4⟩ := rn_range h hx hs k y u h1
    have hz := steps_mem h h2
    exact ⟨hz, (setK_val h hz h4).2⟩
section
variable {n : Nat} {N : Int} {ds : List (Int × Int × Int)} {ks : List Int}
theorem few_val (hn : 2000 ≤ n) (h : VM N ds ks) : ∃ v, IsFew N ds ks v ∧ spec_FewestSteps.F n N ds ks = some (if (0 : Int) > v then (0 : Int) else v, decide (v ≥ (0 : Int))) := by
  classical
  have h1 := h.n1
  have h2 := h.n2
  have hkl := h.kl
  have hk := h.keys _ (getD_mem (l := ks) (i := 0) (d := (0 : Int)) (by omega))
  have hs : ks.getD 0 0 = ((k0 ks : Nat) : Int) := by unfold k0; omega
  obtain ⟨o, p1, p2, p3⟩ := spread_dist (n := n) hn h (x := 0) (s := k0 ks) ⟨by omega, by omega⟩ (by unfold k0; omega)
  have wN : IntKind.wrap .i64 (N - 1) = N - 1 := w64s (by omega) (by omega)
  refine ⟨leastF (wantB 0 6) (rowF o (N - 1)) 0 64 (-1), ?_, ?_⟩
  · have hrow : ∀ t : Nat, t < 64 → IsDist ds ks 0 (k0 ks) (N - 1) t (rowF o (N - 1) t) := fun t ht => p3 (N - 1) t (by omega) (by omega) ht
    obtain ⟨r1, _, r3⟩ := leastF_min (p := wantB 0 6) (f := rowF o (N - 1)) 64 0 (-1) (by omega) (fun i _ hi => ⟨want06 (by omega), by
      rcases hrow i (by omega) with ⟨g, _⟩ | ⟨g, _⟩ <;> omega⟩)
    rcases r1 with r1 | ⟨i, _, hi, hf, r1⟩
    · refine .inr ⟨r1, fun k t hr => ?_⟩
      have ht := (rn_range h (x := 0) (s := k0 ks) ⟨by omega, by omega⟩ (by unfold k0; omega) k _ t hr).2
      rcases hrow t ht with ⟨g, _, _⟩ | ⟨_, g⟩
      · have := (r3 t (by omega) (by omega) g).1
        omega
      · exact g k hr
    · refine .inl ⟨by omega, ?_, fun k t hr => ?_⟩
      · rcases hrow i (by omega) with ⟨_, g, _⟩ | ⟨g, _⟩
        · exact ⟨i, by rw [r1]; exact g⟩
        · omega
      · have ht := (rn_range h (x := 0) (s := k0 ks) ⟨by omega, by omega⟩ (by unfold k0; omega) k _ t hr).2
        rcases hrow t ht with ⟨g, _, g2⟩ | ⟨_, g⟩
        · have := (r3 t (by omega) (by omega) g).2
          have := g2 k hr
          omega
        · exact absurd hr (g k)
  · unfold spec_FewestSteps.F spec_l4First.F
    rw [l2Maze_val (by omega), Option.bind_some]
    have hv : decide (VM N ds ks) = true := by simp [h]
    rw [hv]
    simp only [Bool.not_true, Bool.false_eq_true, if_false]
    rw [if_pos ⟨by omega, by omega⟩, hs, p1, Option.bind_some, Option.bind_some, wN, l4Least_eq (by omega) 0 6 p2 h2 ⟨by omega, by omega⟩, Option.bind_some, told_eq]
    rfl
end
/-- Walks are kept: what is reached in one maze is reached in the other. -/
theorem rn_sim {ds ds' : List (Int × Int × Int)} {ks ks' : List Int} {x : Int} {s s' : Nat} (R : Nat → Nat → Prop) (h0 : R s s') (hstep : ∀ (y : Int) (u u' : Nat) (z : Int), R u u' → z ∈ memL (stepsN ds y (u : Int)) → z ∈ memL (stepsN ds' y (u' : Int)) ∧ R (setK ks u z) (setK ks' u' z)) :
    ∀ (k : Nat) (z : Int) (t : Nat), Rn ds ks x s k z t → ∃ t', R t t' ∧ Rn ds' ks' x s' k z t'
  | 0, z, t, hr => by
    obtain ⟨rfl, rfl⟩ := hr
    exact ⟨s', h0, rfl, rfl⟩
  | k + 1, z, t, hr => by
    obtain ⟨y, u, h1, h2, rfl⟩ := hr
    obtain ⟨u', h3, h4⟩ := rn_sim R h0 hstep k y u h1
    obtain ⟨h5, h6⟩ := hstep y u u' z h3 h2
    exact ⟨_, h6, y, u', h4, h5, rfl⟩
theorem few_le {N : Int} {ds ds' : List (Int × Int × Int)} {ks ks' : List Int} {v v' : Int} (h : IsFew N ds ks v) (h' : IsFew N ds' ks' v') (hs : ∀ k t, Rn ds ks 0 (k0 ks) k (N - 1) t → ∃ t', Rn ds' ks' 0 (k0 ks') k (N - 1) t') (hv : 0 ≤ v) : 0 ≤ v' ∧ v' ≤ v := by
  rcases h with ⟨_, ⟨t, ht⟩, _⟩ | ⟨h1, _⟩
  · obtain ⟨t', ht'⟩ := hs _ t ht
    rcases h' with ⟨g1, _, g2⟩ | ⟨_, g2⟩
    · have := g2 _ t' ht'
      exact ⟨g1, by omega⟩
    · exact absurd ht' (g2 _ _)
  · omega
end Go.Pv
