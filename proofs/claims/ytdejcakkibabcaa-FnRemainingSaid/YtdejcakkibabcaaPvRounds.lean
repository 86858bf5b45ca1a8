/- Plain laws: rounds of reaching and taking keys. -/
import Derived.Test.YtdejcakkibabcaaPvReachS
import Derived.Test.YtdejcakkibabcaaPvMark
set_option linter.unusedVariables false
set_option linter.unusedSimpArgs false
set_option autoImplicit false
namespace Go.Pv
open Go Go.Fx Go.Pf

def keysF (ks : List Int) (a : Nat) (l : List Int) : Nat := l.foldl (fun a x => a ||| (ks.getD x.toNat 0).toNat) a
theorem keysF_cons (ks : List Int) (a : Nat) (x : Int) (l : List Int) : keysF ks a (x :: l) = keysF ks (a ||| (ks.getD x.toNat 0).toNat) l := rfl
theorem keysF_lt {ks : List Int} (hk : ∀ k ∈ ks, 0 ≤ k ∧ k ≤ 63) : ∀ {l : List Int} {a : Nat}, a < 2 ^ 6 → keysF ks a l < 2 ^ 6
  | [], a, h => h
  | x :: l, a, h => by
    rw [keysF_cons]
    refine keysF_lt hk (Nat.or_lt_two_pow h ?_)
    by_cases c : x.toNat < ks.length
    · have := hk _ (getD_mem (d := (0 : Int)) c)
      have p : (2 : Nat) ^ 6 = 64 := by decide
      omega
    · have : ks.getD x.toNat 0 = 0 := by rw [List.getD_eq_getElem?_getD, List.getElem?_eq_none (by omega)]; rfl
      rw [this]; decide
theorem keysF_ge (ks : List Int) : ∀ (l : List Int) (a : Nat), a ≤ keysF ks a l
  | [], a => Nat.le_refl _
  | x :: l, a => by
    rw [keysF_cons]
    exact Nat.le_trans Nat.left_le_or (keysF_ge ks l _)
theorem key_or {N : Int} {ds : List (Int × Int × Int)} {ks : List Int} (h : VM N ds ks) {x : Int} (hx : 0 ≤ x ∧ x < N) {a : Nat} (ha : a < 2 ^ 6) :
    bitOr .i64 (a : Int) (ks.getD x.toNat 0) = ((a ||| (ks.getD x.toNat 0).toNat : Nat) : Int) ∧ a ||| (ks.getD x.toNat 0).toNat < 2 ^ 6 := by
  have hkl := h.kl
  have hm := h.keys _ (getD_mem (l := ks) (i := x.toNat) (d := (0 : Int)) (by omega))
  have e : ks.getD x.toNat 0 = (((ks.getD x.toNat 0).toNat : Nat) : Int) := by omega
  have p : (2 : Nat) ^ 6 = 64 := by decide
  have p63 : (2 : Nat) ^ 63 = 9223372036854775808 := by decide
  refine ⟨?_, Nat.or_lt_two_pow ha (by omega)⟩
  conv => lhs; rw [e]
  exact bitOr_nat (by omega) (by omega)

noncomputable def nextN (ds : List (Int × Int × Int)) (ks : List Int) (s : Nat) : Nat := keysF ks s (memL (reachN ds (s : Int) 0))
theorem nextN_ge (ds : List (Int × Int × Int)) (ks : List Int) (s : Nat) : s ≤ nextN ds ks s := keysF_ge ks _ s
theorem nextN_lt {N : Int} {ds : List (Int × Int × Int)} {ks : List Int} (h : VM N ds ks) {s : Nat} (hs : s < 2 ^ 6) : nextN ds ks s < 2 ^ 6 := keysF_lt h.keys hs
/-- The sets at first and behind rounds. -/
noncomputable def roundsL (ds : List (Int × Int × Int)) (ks : List Int) (s : Nat) : List Nat :=
  if h : s < nextN ds ks s ∧ nextN ds ks s < 2 ^ 6 then s :: roundsL ds ks (nextN ds ks s) else [s]
termination_by 2 ^ 6 - s
decreasing_by omega
noncomputable def lastN (ds : List (Int × Int × Int)) (ks : List Int) (s : Nat) : Nat :=
  if h : s < nextN ds ks s ∧ nextN ds ks s < 2 ^ 6 then lastN ds ks (nextN ds ks s) else s
termination_by 2 ^ 6 - s
decreasing_by omega

section
variable {N : Int} {ds : List (Int × Int × Int)} {ks : List Int} (h : VM N ds ks)
include h
theorem roundsL_eq {s : Nat} (hs : s < 2 ^ 6) : roundsL ds ks s = if nextN ds ks s = s then [s] else s :: roundsL ds ks (nextN ds ks s) := by
  rw [roundsL]
  have h1 := nextN_ge ds ks s
  have h2 := nextN_lt h hs
  by_cases c : nextN ds ks s = s
  · rw [dif_neg (by omega), if_pos c]
  · rw [dif_pos ⟨by omega, h2⟩, if_neg c]
theorem lastN_eq {s : Nat} (hs : s < 2 ^ 6) : lastN ds ks s = if nextN ds ks s = s then s else lastN ds ks (nextN ds ks s) := by
  rw [lastN]
  have h1 := nextN_ge ds ks s
  have h2 := nextN_lt h hs
  by_cases c : nextN ds ks s = s
  · rw [dif_neg (by omega), if_pos c]
  · rw [dif_pos ⟨by omega, h2⟩, if_neg c]
theorem rounds_facts : ∀ (m s : Nat), 2 ^ 6 - s ≤ m → s < 2 ^ 6 → roundsL ds ks s ≠ [] ∧ (roundsL ds ks s).getLast? = some (lastN ds ks s) ∧ (∀ r ∈ roundsL ds ks s, r < 2 ^ 6) ∧ (roundsL ds ks s).length ≤ 2 ^ 6 - s ∧ lastN ds ks s < 2 ^ 6
  | 0, s, hm, hs => by omega
  | m + 1, s, hm, hs => by
    rw [roundsL_eq h hs, lastN_eq h hs]
    have h1 := nextN_ge ds ks s
    have h2 := nextN_lt h hs
    by_cases c : nextN ds ks s = s
    · simp only [if_pos c]
      refine ⟨by simp, by simp, by simpa using hs, by simp; omega, hs⟩
    · simp only [if_neg c]
      obtain ⟨a1, a2, a3, a4, a5⟩ := rounds_facts m (nextN ds ks s) (by omega) h2
      refine ⟨by simp, ?_, ?_, ?_, a5⟩
      · cases hr : roundsL ds ks (nextN ds ks s) with
        | nil => exact absurd hr a1
        | cons b l => rw [hr] at a2; simpa using a2
      · intro r hr
        rcases List.mem_cons.1 hr with rfl | hr
        · exact hs
        · exact a3 r hr
      · simp only [List.length_cons]; omega
theorem reach_mem {s : Int} {x : Int} (hx : x ∈ memL (reachN ds s 0)) : 0 ≤ x ∧ x < N := by
  have h0 : (0 : Int) ≤ 0 ∧ (0 : Int) < N := ⟨by omega, by have := h.n1; omega⟩
  obtain ⟨i, rfl, hb⟩ := (memL_mem (reachN_lt ds s 0)).1 hx
  exact ((reachN_bit h h0 i).1 hb).range h h0
end

/-! ### The reference -/
section
variable {n : Nat} {N : Int} {ds : List (Int × Int × Int)} {ks : List Int}
def castL (l : List Nat) : List Int := l.map fun r : Nat => (r : Int)
/-! ### The program -/
noncomputable def pairL (ds : List (Int × Int × Int)) (l : List Nat) : List (Int × Int) := l.map fun r : Nat => ((r : Int), ((reachN ds (r : Int) 0 : Nat) : Int))
noncomputable def winB (N : Int) (ds : List (Int × Int × Int)) (ks : List Int) (s : Nat) : Bool := (reachN ds ((lastN ds ks s : Nat) : Int) 0).testBit (N - 1).toNat
theorem mem_memL {S : Nat} (hS : S < 2 ^ 12) {x : Int} (hx : 0 ≤ x) : decide (x ∈ memL S) = S.testBit x.toNat := by
  have := memL_mem hS (x := x)
  by_cases c : x ∈ memL S
  · obtain ⟨i, rfl, hb⟩ := this.1 c
    rw [decide_eq_true c, Int.toNat_natCast, hb]
  · rw [decide_eq_false c]
    cases hb : S.testBit x.toNat with
    | false => rfl
    | true => exact absurd (this.2 ⟨x.toNat, by omega, hb⟩) c
open Classical in
theorem asked_eq (hn : 40 ≤ n) (s : Int) : impl_asked.F n N ds ks s = some (decide (VM N ds ks) && setB s) := by
  unfold impl_asked.F
  rw [IsMaze_val hn, Option.bind_some]
  by_cases h : VM N ds ks
  · simp [h, isSet_eq]
  · simp [h]
theorem setB_nat {s : Int} (h : setB s = true) : ∃ m : Nat, s = (m : Int) ∧ m < 2 ^ 6 := by
  have := setB_iff.1 h
  have p6 : (2 : Nat) ^ 6 = 64 := by decide
  exact ⟨s.toNat, by omega, by omega⟩
end
end Go.Pv
