/- Plain laws: where each step of one maze is a step of the other, the other is won in no more steps. -/
import Derived.Test.YtdejcakkibabcaaPvFew
import Derived.Test.YtdejcakkibabcaaPvMono
set_option linter.unusedVariables false
set_option linter.unusedSimpArgs false
set_option autoImplicit false
namespace Go.Pv
open Go Go.Fx Go.Pf

section
variable {N : Int} {ds ds' : List (Int × Int × Int)} {ks ks' : List Int}
theorem step_open (h : VM N ds ks) {y z : Int} {u : Nat} : z ∈ memL (stepsN ds y (u : Int)) ↔ 0 ≤ z ∧ openB ds y z (u : Int) = true := by
  rw [memL_mem (stepsN_lt h y (u : Int))]
  constructor
  · rintro ⟨i, rfl, hb⟩
    rw [stepsN_bit h] at hb
    exact ⟨by omega, hb⟩
  · rintro ⟨h0, hb⟩
    refine ⟨z.toNat, by omega, ?_⟩
    rw [stepsN_bit h, show ((z.toNat : Nat) : Int) = z by omega]
    exact hb
theorem k0_lt (h : VM N ds ks) : k0 ks < 64 := by
  have h1 := h.n1
  have hkl := h.kl
  have hk := h.keys _ (getD_mem (l := ks) (i := 0) (d := (0 : Int)) (by omega))
  unfold k0
  omega
theorem few_map (h : VM N ds ks) (h' : VM N ds' ks') (R : Nat → Nat → Prop) (h0 : R (k0 ks) (k0 ks')) (ho : ∀ (u u' : Nat) (x y : Int), u < 64 → u' < 64 → R u u' → openB ds x y (u : Int) = true → openB ds' x y (u' : Int) = true)
    (hk : ∀ (u u' : Nat) (z : Int), u < 64 → u' < 64 → 0 ≤ z → z < N → R u u' → R (setK ks u z) (setK ks' u' z)) {v v' : Int} (hv : IsFew N ds ks v) (hv' : IsFew N ds' ks' v') (h1 : 0 ≤ v) : 0 ≤ v' ∧ v' ≤ v := by
  refine few_le hv hv' (fun k t hr => ?_) h1
  obtain ⟨t', _, ht'⟩ := rn_sim (ds' := ds') (ks' := ks') (s' := k0 ks') (fun u u' => R u u' ∧ u < 64 ∧ u' < 64) ⟨h0, k0_lt h, k0_lt h'⟩ (fun y u u' z hR hz => by
    obtain ⟨r1, r2, r3⟩ := hR
    obtain ⟨z0, zo⟩ := (step_open h).1 hz
    have zr := steps_mem h hz
    exact ⟨(step_open h').2 ⟨z0, ho u u' y z r2 r3 r1 zo⟩, hk u u' z r2 r3 zr.1 zr.2 r1, (setK_val h zr r2).2, (setK_val h' zr r3).2⟩) k _ t hr
  exact ⟨t', ht'⟩
/-- With no more doors and keys one needs no fewer steps. -/
theorem few_less (L : Less N ds' ds ks' ks) {v v' : Int} (hv : IsFew N ds ks v) (hv' : IsFew N ds' ks' v') (h1 : 0 ≤ v') : 0 ≤ v ∧ v ≤ v' := by
  refine few_map L.le L.ge Sub ?_ ?_ ?_ hv' hv h1
  · exact L.keys 0
  · exact fun u u' x y h1 h2 hs ho => openB_less L (by simpa using h1) (by simpa using h2) hs ho
  · intro u u' z _ _ _ _ hs
    unfold setK
    exact Sub.or_mono hs (L.keys z.toNat)
/-- A set of colours is enough for a door. -/
theorem hasB_iff {s : Nat} (hs : s < 64) {c : Int} (h1 : 0 ≤ c) (h2 : c ≤ 63) : hasB (s : Int) c = true ↔ Sub c.toNat s := by
  have e : c = ((c.toNat : Nat) : Int) := by omega
  have p63 : (2 : Nat) ^ 63 = 9223372036854775808 := by decide
  have e2 : hasB (s : Int) c = decide (((s &&& c.toNat : Nat) : Int) = c) := by
    unfold hasB
    conv => lhs; rw [e]
    rw [bitAnd_nat (by omega) (by omega)]
    rw [← e]
  rw [e2, decide_eq_true_eq]
  constructor
  · intro h
    have h' : c.toNat &&& s = c.toNat := by rw [Nat.and_comm]; omega
    exact Sub.of_and h'
  · intro h
    have := h.and
    rw [Nat.and_comm] at this
    omega
theorem open_iff (h : VM N ds ks) {u : Nat} (hu : u < 64) {x y : Int} : openB ds x y (u : Int) = true ↔ ∃ d ∈ ds, joinB x y d = true ∧ Sub d.2.2.toNat u := by
  unfold openB
  rw [List.any_eq_true]
  constructor
  · rintro ⟨d, hd, hj⟩
    rw [Bool.and_eq_true] at hj
    have hr := h.door d hd
    exact ⟨d, hd, hj.1, (hasB_iff hu hr.2.2.2.1 hr.2.2.2.2).1 hj.2⟩
  · rintro ⟨d, hd, hj, hs⟩
    have hr := h.door d hd
    refine ⟨d, hd, ?_⟩
    rw [Bool.and_eq_true]
    exact ⟨hj, (hasB_iff hu hr.2.2.2.1 hr.2.2.2.2).2 hs⟩
/-- Needs and keys that are turned alike by a map that keeps unions and inclusion. -/
theorem few_turn (h : VM N ds ks) (h' : VM N ds' ks') (G : Nat → Nat) (hor : ∀ a b : Nat, a < 64 → b < 64 → G (a ||| b) = G a ||| G b) (hsub : ∀ a b : Nat, a < 64 → b < 64 → Sub a b → Sub (G a) (G b))
    (hd : ∀ d ∈ ds, ∃ e ∈ ds', (∀ x y, joinB x y d = true → joinB x y e = true) ∧ e.2.2.toNat = G d.2.2.toNat) (hk : ∀ z : Nat, (z : Int) < N → (ks'.getD z 0).toNat = G (ks.getD z 0).toNat)
    {v v' : Int} (hv : IsFew N ds ks v) (hv' : IsFew N ds' ks' v') (h1 : 0 ≤ v) : 0 ≤ v' ∧ v' ≤ v := by
  have hkr : ∀ z : Nat, (z : Int) < N → (ks.getD z 0).toNat < 64 := fun z hz => by
    have hkl := h.kl
    have := h.keys _ (getD_mem (l := ks) (i := z) (d := (0 : Int)) (by omega))
    omega
  refine few_map h h' (fun u u' => Sub (G u) u') ?_ ?_ ?_ hv hv' h1
  · have hn := h.n1
    have := hk 0 (by omega)
    unfold k0
    rw [this]
    exact Sub.refl _
  · intro u u' x y hu hu' hR ho
    obtain ⟨d, h2, h3, h4⟩ := (open_iff h hu).1 ho
    obtain ⟨e, h5, h6, h7⟩ := hd d h2
    have hr := h.door d h2
    refine (open_iff h' hu').2 ⟨e, h5, h6 x y h3, ?_⟩
    rw [h7]
    exact (hsub _ _ (by omega) hu h4).trans hR
  · intro u u' z hu hu' hz0 hzN hR
    have e := hk z.toNat (by omega)
    unfold setK
    rw [hor u _ hu (hkr z.toNat (by omega)), e]
    exact Sub.or_mono hR (Sub.refl _)
end
end Go.Pv
