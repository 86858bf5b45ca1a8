/- Plain laws: two tables of the least numbers of steps. -/
import Derived.Test.YtdejcakkibabcaaPvFrom
set_option linter.unusedVariables false
set_option linter.unusedSimpArgs false
set_option autoImplicit false
namespace Go.Pv
open Go Go.Fx Go.Pf

section
variable {n : Nat} {N : Int} {ds : List (Int × Int × Int)} {ks : List Int}
/-- Both tables tell the least numbers of steps. -/
structure Tb (N : Int) (ds : List (Int × Int × Int)) (ks : List Int) (g1 g2 : List Int) : Prop where
  l1 : g1.length = 64 * N.toNat
  l2 : g2.length = 768
  t1 : ∀ q, q < 64 * N.toNat → IsRem N ds ks ((q / 64 : Nat) : Int) (hK ks q) (g1.getD q 0)
  t2 : ∀ (x : Int) (s : Nat), 0 ≤ x → x < N → s < 64 → IsRem N ds ks x s (g2.getD (ix x s) 0)
theorem Tb.same (h : VM N ds ks) {g1 g2 : List Int} (ht : Tb N ds ks g1 g2) {x : Int} {s : Nat} (hx : 0 ≤ x ∧ x < N) (hs : s < 64) (hc : setK ks s x = s) : g1.getD (idI x (s : Int)).toNat 0 = g2.getD (ix x s) 0 := by
  have h1 := ht.t1 (idI x (s : Int)).toNat (by unfold idI; omega)
  have h2 := ht.t2 x s hx.1 hx.2 hs
  have ex : (((idI x (s : Int)).toNat / 64 : Nat) : Int) = x := by unfold idI; omega
  have es : (idI x (s : Int)).toNat % 64 = s := by unfold idI; omega
  have eh : hK ks (idI x (s : Int)).toNat = s := by
    unfold hK
    rw [ex, es, hc]
  rw [ex, eh] at h1
  exact h1.unique h2
/-- From a state of so many steps there is a next state of one step less. -/
theorem rem_next (h : VM N ds ks) {g1 g2 : List Int} (ht : Tb N ds ks g1 g2) {x : Int} {s : Nat} (hx : 0 ≤ x ∧ x < N) (hs : s < 64) (hv : 0 < g2.getD (ix x s) 0) :
    ∃ z ∈ memL (stepsN ds x (s : Int)), g2.getD (ix z (setK ks s z)) 0 = g2.getD (ix x s) 0 - 1 := by
  have hr := ht.t2 x s hx.1 hx.2 hs
  generalize g2.getD (ix x s) 0 = v at *
  rcases hr with ⟨h1, h2, h3⟩ | ⟨h1, _⟩
  · obtain ⟨u, hu⟩ : ∃ u, v.toNat = u + 1 := ⟨v.toNat - 1, by omega⟩
    rw [hu] at h2
    obtain ⟨z, hz, hw⟩ := wn_succ.1 h2
    refine ⟨z, hz, ?_⟩
    have hzr := steps_mem h hz
    have hz2 := ht.t2 z (setK ks s z) hzr.1 hzr.2 (setK_val h hzr hs).2
    generalize g2.getD (ix z (setK ks s z)) 0 = w at *
    rcases hz2 with ⟨k1, k2, k3⟩ | ⟨_, k2⟩
    · have := k3 u hw
      have := h3 (w.toNat + 1) (wn_succ.2 ⟨z, hz, k2⟩)
      omega
    · exact absurd hw (k2 u)
  · omega
end
end Go.Pv
