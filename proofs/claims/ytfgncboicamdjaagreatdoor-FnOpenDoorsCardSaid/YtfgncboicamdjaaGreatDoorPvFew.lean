/- Plain laws: the fewest steps in which one wins, told by walks; what they do where walks are kept. -/
import Derived.Test.YtfgncboicamdjaaGreatDoorPvL4
import Derived.Test.YtfgncboicamdjaaGreatDoorPvBfs
set_option linter.unusedVariables false
set_option linter.unusedSimpArgs false
set_option autoImplicit false
namespace Go.Pv
open Go Go.Fx Go.Pf

theorem leastF_min {p : Nat → Bool} {f : Nat → Int} : ∀ (k c : Nat) (b : Int), -1 ≤ b → (∀ i, c ≤ i → i < c + k → p i = true ∧ -1 ≤ f i) →
    (leastF p f c k b = b ∨ ∃ i, c ≤ i ∧ i < c + k ∧ 0 ≤ f i ∧ leastF p f c k b = f i) ∧ (0 ≤ b → 0 ≤ leastF p f c k b ∧ leastF p f c k b ≤ b) ∧ ∀ i, c ≤ i → i < c + k → 0 ≤ f i → 0 ≤ leastF p f c k b ∧ leastF p f c k b ≤ f i
  | 0, c, b, hb, h => by
    unfold leastF
    exact ⟨.inl rfl, fun h => ⟨h, Int.le_refl _⟩, fun i h1 h2 _ => by omega⟩
  | k + 1, c, b, hb, h => by
    unfold leastF
    obtain ⟨hc1, hc2⟩ := h c (Nat.le_refl _) (by omega)
    have hrest : ∀ i, c + 1 ≤ i → i < c + 1 + k → p i = true ∧ -1 ≤ f i := fun i h1 h2 => h i (by omega) (by omega)
    by_cases q : p c = true ∧ 0 ≤ f c ∧ (b < 0 ∨ f c < b)
    · rw [if_pos q]
      obtain ⟨r1, r2, r3⟩ := leastF_min k (c + 1) (f c) (by omega) hrest
      obtain ⟨s1, s2⟩ := r2 q.2.1
      refine ⟨?_, fun hb0 => ⟨s1, by omega⟩, fun i h1 h2 h3 => ?_⟩
      · rcases r1 with r1 | ⟨i, h1, h2, h3, h4⟩
        · exact .inr ⟨c, Nat.le_refl _, by omega, q.2.1, r1⟩
        · exact .inr ⟨i, by omega, by omega, h3, h4⟩
      · by_cases e : i = c
        · subst e; exact ⟨s1, s2⟩
        · exact r3 i (by omega) (by omega) h3
    · rw [if_neg q]
      obtain ⟨r1, r2, r3⟩ := leastF_min k (c + 1) b hb hrest
      refine ⟨?_, r2, fun i h1 h2 h3 => ?_⟩
      · rcases r1 with r1 | ⟨i, h1, h2, h3, h4⟩
        · exact .inl r1
        · exact .inr ⟨i, by omega, by omega, h3, h4⟩
      · by_cases e : i = c
        · subst e
          have hb0 : 0 ≤ b := by
            rcases Int.lt_or_le b 0 with g | g
            · exact absurd ⟨hc1, h3, .inl g⟩ q
            · exact g
          obtain ⟨s1, s2⟩ := r2 hb0
          refine ⟨s1, ?_⟩
          rcases Int.lt_or_le (f i) b with g | g
          · exact absurd ⟨hc1, h3, .inr g⟩ q
          · omega
        · exact r3 i (by omega) (by omega) h3
/-- Colours at the start. -/
def k0 (ks : List Int) : Nat := (ks.getD 0 0).toNat
/-- The least number of steps of a walk from the start to the goal, or -1. -/
def IsFew (N : Int) (ds : List (Int × Int × Int)) (ks : List Int) (v : Int) : Prop :=
  (0 ≤ v ∧ (∃ t, Rn ds ks 0 (k0 ks) v.toNat (N - 1) t) ∧ ∀ (k t : Nat), Rn ds ks 0 (k0 ks) k (N - 1) t → v ≤ (k : Int)) ∨ (v = -1 ∧ ∀ k t : Nat, ¬ Rn ds ks 0 (k0 ks) k (N - 1) t)
theorem rn_range {N : Int} {ds : List (Int × Int × Int)} {ks : List Int} (h : VM N ds ks) {x : Int} {s : Nat} (hx : 0 ≤ x ∧ x < N) (hs : s < 64) : ∀ (k : Nat) (z : Int) (t : Nat), Rn ds ks x s k z t → (0 ≤ z ∧ z < N) ∧ t < 64
  | 0, z, t, hr => by
    obtain ⟨rfl, rfl⟩ := hr
    exact ⟨hx, hs⟩
  | k + 1, z, t, hr => by
    obtain ⟨y, u, h1, h2, rfl⟩ := hr
    obtain ⟨_, h4⟩ := rn_range h hx hs k y u h1
    have hz := steps_mem h h2
    exact ⟨hz, (setK_val h hz h4).2⟩
section
variable {n : Nat} {N : Int} {ds : List (Int × Int × Int)} {ks : List Int}
end
/-- Walks are kept: what is reached in one maze is reached in the other. -/
theorem rn_sim {ds ds' : List (Int × Int × Int)} {ks ks' : List Int} {x : Int} {s s' : Nat} (R : Nat → Nat → Prop) (h0 : R s s') (hstep : ∀ (y : Int) (u u' : Nat) (z : Int), R u u' → z ∈ memL (stepsN ds y (u : Int)) → z ∈ memL (stepsN ds' y (u' : Int)) ∧ R (setK ks u z) (setK ks' u' z)) :
    ∀ (k : Nat) (z : Int) (t : Nat), Rn ds ks x s k z t → ∃ t', R t t' ∧ Rn ds' ks' x s' k z t'
  | 0, z, t, hr => by
    obtain ⟨rfl, rfl⟩ := hr
    exact ⟨s', h0, rfl, rfl⟩
  | k + 1, z, t, hr => by
    obtain ⟨y, u, h1, h2, rfl⟩ := hr
    obtain ⟨u', h3, h4⟩ := rn_sim R h0 hstep k y u h1
    obtain ⟨h5, h6⟩ := hstep y u u' z h3 h2
    exact ⟨_, h6, y, u', h4, h5, rfl⟩
theorem few_le {N : Int} {ds ds' : List (Int × Int × Int)} {ks ks' : List Int} {v v' : Int} (h : IsFew N ds ks v) (h' : IsFew N ds' ks' v') (hs : ∀ k t, Rn ds ks 0 (k0 ks) k (N - 1) t → ∃ t', Rn ds' ks' 0 (k0 ks') k (N - 1) t') (hv : 0 ≤ v) : 0 ≤ v' ∧ v' ≤ v := by
  rcases h with ⟨_, ⟨t, ht⟩, _⟩ | ⟨h1, _⟩
  · obtain ⟨t', ht'⟩ := hs _ t ht
    rcases h' with ⟨g1, _, g2⟩ | ⟨_, g2⟩
    · have := g2 _ t' ht'
      exact ⟨g1, by omega⟩
    · exact absurd ht' (g2 _ _)
  · omega
end Go.Pv
