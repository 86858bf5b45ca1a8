/- Plain laws: the table of steps from a state tells the least numbers of steps. -/
import Derived.Test.YtfgncboicamdjaaGreatDoorPvDistB
set_option linter.unusedVariables false
set_option linter.unusedSimpArgs false
set_option autoImplicit false
namespace Go.Pv
open Go Go.Fx Go.Pf

/-- A state is reached in just so many steps. -/
def Rn (ds : List (Int × Int × Int)) (ks : List Int) (x0 : Int) (s0 : Nat) : Nat → Int → Nat → Prop
  | 0, z, t => z = x0 ∧ t = s0
  | k + 1, z, t => ∃ (y : Int) (s : Nat), Rn ds ks x0 s0 k y s ∧ z ∈ memL (stepsN ds y (s : Int)) ∧ t = setK ks s z
/-- The entry of a state's number. -/
def En (o : List Int) (q : Int) : Int := o.getD q.toNat 0
theorem En_set {o : List Int} {r q : Int} {v : Int} (h : r.toNat ≠ q.toNat) : En (o.set r.toNat v) q = En o q := by
  unfold En
  exact getD_set_ne _ _ _ h
theorem En_set_same {o : List Int} {r v : Int} (h : r.toNat < o.length) : En (o.set r.toNat v) r = v := by
  unfold En
  exact set_getD' h
structure Bf (P : Nat → Int → Prop) (L : Nat) (o Q : List Int) (i : Nat) : Prop where
  len : o.length = L
  low : ∀ e ∈ o, -1 ≤ e ∧ e + (cneg o : Int) ≤ 768
  cnt : Q.length + cneg o = L
  inQ : ∀ q ∈ Q, 0 ≤ q ∧ q.toNat < L ∧ 0 ≤ En o q
  vis : ∀ p : Nat, p < L → 0 ≤ o.getD p 0 → (p : Int) ∈ Q
  mono : ∀ a b : Nat, a ≤ b → b < Q.length → En o (Q.getD a 0) ≤ En o (Q.getD b 0)
  top : i < Q.length → ∀ b : Nat, b < Q.length → En o (Q.getD b 0) ≤ En o (Q.getD i 0) + 1
  snd : ∀ q ∈ Q, P (En o q).toNat q
theorem Bf.new {P : Nat → Int → Prop} {L : Nat} {o Q : List Int} {i : Nat} (h : Bf P L o Q i) (hL : L ≤ 768) (hi : i < Q.length) {r : Int} (hr : 0 ≤ r ∧ r.toNat < L) (hn : En o r < 0) (hP : ∀ k, P k (Q.getD i 0) → P (k + 1) r) :
    Bf P L (o.set r.toNat (En o (Q.getD i 0) + 1)) (Q ++ [r]) i ∧ ∀ q ∈ Q, En (o.set r.toNat (En o (Q.getD i 0) + 1)) q = En o q := by
  have hqi := getD_mem (d := (0 : Int)) hi
  have hi0 := (h.inQ _ hqi).2.2
  have old : ∀ q ∈ Q, En (o.set r.toNat (En o (Q.getD i 0) + 1)) q = En o q := fun q hq => En_set fun e => by
    have h1 := (h.inQ q hq).2.2
    unfold En at h1 hn
    rw [e] at hn
    omega
  have hrl : r.toNat < o.length := by rw [h.len]; exact hr.2
  have same : En (o.set r.toNat (En o (Q.getD i 0) + 1)) r = En o (Q.getD i 0) + 1 := En_set_same hrl
  have hc := cneg_set o r.toNat (En o (Q.getD i 0) + 1) hrl hn (by omega)
  have hcnt := h.cnt
  have hlow := h.low _ (show En o (Q.getD i 0) ∈ o from getD_mem (by rw [h.len]; exact (h.inQ _ hqi).2.1))
  have g1 : ∀ a : Nat, a < Q.length → (Q ++ [r]).getD a 0 = Q.getD a 0 := fun a ha => by
    rw [List.getD_eq_getElem?_getD, List.getElem?_append_left ha, ← List.getD_eq_getElem?_getD]
  have g2 : (Q ++ [r]).getD Q.length 0 = r := by simp [List.getD_eq_getElem?_getD]
  have e1 : ∀ a : Nat, a < Q.length → En (o.set r.toNat (En o (Q.getD i 0) + 1)) ((Q ++ [r]).getD a 0) = En o (Q.getD a 0) := fun a ha => by
    rw [g1 a ha, old _ (getD_mem ha)]
  have e2 : En (o.set r.toNat (En o (Q.getD i 0) + 1)) ((Q ++ [r]).getD Q.length 0) = En o (Q.getD i 0) + 1 := by rw [g2, same]
  refine ⟨⟨by simpa using h.len, ?_, by simp only [List.length_append, List.length_singleton]; omega, ?_, ?_, ?_, ?_, ?_⟩, old⟩
  · intro e he
    rcases List.mem_or_eq_of_mem_set he with he | he
    · have := h.low e he; omega
    · omega
  · intro q hq
    rcases List.mem_append.1 hq with hq | hq
    · obtain ⟨k1, k2, k3⟩ := h.inQ q hq
      exact ⟨k1, k2, by rw [old q hq]; exact k3⟩
    · simp only [List.mem_singleton] at hq
      subst hq
      exact ⟨hr.1, hr.2, by rw [same]; omega⟩
  · intro p hp hv
    by_cases e : r.toNat = p
    · have : (p : Int) = r := by omega
      rw [this]
      simp
    · rw [getD_set_ne _ _ _ e] at hv
      exact List.mem_append_left _ (h.vis p hp hv)
  · intro a b hab hb
    simp only [List.length_append, List.length_singleton] at hb
    by_cases eb : b = Q.length
    · subst eb
      rw [e2]
      by_cases ea : a = Q.length
      · subst ea
        rw [e2]
        exact Int.le_refl _
      · rw [e1 a (by omega)]
        exact h.top hi a (by omega)
    · rw [e1 a (by omega), e1 b (by omega)]
      exact h.mono a b hab (by omega)
  · intro _ b hb
    simp only [List.length_append, List.length_singleton] at hb
    rw [e1 i hi]
    by_cases eb : b = Q.length
    · subst eb
      rw [e2]
      exact Int.le_refl _
    · rw [e1 b (by omega)]
      exact h.top hi b (by omega)
  · intro q hq
    rcases List.mem_append.1 hq with hq | hq
    · rw [old q hq]
      exact h.snd q hq
    · simp only [List.mem_singleton] at hq
      subst hq
      rw [same, show (En o (Q.getD i 0) + 1).toNat = (En o (Q.getD i 0)).toNat + 1 by omega]
      exact hP _ (h.snd _ hqi)

section
variable {n : Nat} {N : Int} {ds : List (Int × Int × Int)} {ks : List Int}
/-- Where a state's number leads. -/
def succI (ds : List (Int × Int × Int)) (ks : List Int) (q : Int) : List Int :=
  (memL (stepsN ds ((q.toNat / 64 : Nat) : Int) ((q.toNat % 64 : Nat) : Int))).map fun z => idI z ((setK ks (q.toNat % 64) z : Nat) : Int)
theorem succ_in (h : VM N ds ks) {q r : Int} (hr : r ∈ succI ds ks q) : 0 ≤ r ∧ r.toNat < 64 * N.toNat := by
  obtain ⟨z, hz, rfl⟩ := List.mem_map.1 hr
  have hzr := steps_mem h hz
  obtain ⟨_, o2⟩ := setK_val h hzr (s := q.toNat % 64) (Nat.mod_lt _ (by omega))
  unfold idI
  omega
/-- The table of steps tells, of each state, the least number of steps in which it is reached, or -1. -/
def IsDist (ds : List (Int × Int × Int)) (ks : List Int) (x0 : Int) (s0 : Nat) (z : Int) (t : Nat) (v : Int) : Prop :=
  (0 ≤ v ∧ Rn ds ks x0 s0 v.toNat z t ∧ ∀ k : Nat, Rn ds ks x0 s0 k z t → v ≤ (k : Int)) ∨ (v = -1 ∧ ∀ k : Nat, ¬ Rn ds ks x0 s0 k z t)
end
end Go.Pv
