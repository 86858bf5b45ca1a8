/- Plain laws: rounds of reaching and taking keys. -/
import Derived.Test.YtoppnaekfjjaaaaPvReachS
import Derived.Test.YtoppnaekfjjaaaaPvMark
set_option linter.unusedVariables false
set_option linter.unusedSimpArgs false
set_option autoImplicit false
namespace Go.Pv
open Go Go.Fx Go.Pf

def keysF (ks : List Int) (a : Nat) (l : List Int) : Nat := l.foldl (fun a x => a ||| (ks.getD x.toNat 0).toNat) a
theorem keysF_cons (ks : List Int) (a : Nat) (x : Int) (l : List Int) : keysF ks a (x :: l) = keysF ks (a ||| (ks.getD x.toNat 0).toNat) l := rfl
theorem keysF_lt {ks : List Int} (hk : ∀ k ∈ ks, 0 ≤ k ∧ k ≤ 63) : ∀ {l : List Int} {a : Nat}, a < 2 ^ 6 → keysF ks a l < 2 ^ 6
  | [], a, h => h
  | x :: l, a, h => by
    rw [keysF_cons]
    refine keysF_lt hk (Nat.or_lt_two_pow h ?_)
    by_cases c : x.toNat < ks.length
    · have := hk _ (getD_mem (d := (0 : Int)) c)
      have p : (2 : Nat) ^ 6 = 64 := by decide
      omega
    · have : ks.getD x.toNat 0 = 0 := by rw [List.getD_eq_getElem?_getD, List.getElem?_eq_none (by omega)]; rfl
      rw [this]; decide
theorem keysF_ge (ks : List Int) : ∀ (l : List Int) (a : Nat), a ≤ keysF ks a l
  | [], a => Nat.le_refl _
  | x :: l, a => by
    rw [keysF_cons]
    exact Nat.le_trans Nat.left_le_or (keysF_ge ks l _)
theorem key_or {N : Int} {ds : List (Int × Int × Int)} {ks : List Int} (h : VM N ds ks) {x : Int} (hx : 0 ≤ x ∧ x < N) {a : Nat} (ha : a < 2 ^ 6) :
    bitOr .i64 (a : Int) (ks.getD x.toNat 0) = ((a ||| (ks.getD x.toNat 0).toNat : Nat) : Int) ∧ a ||| (ks.getD x.toNat 0).toNat < 2 ^ 6 := by
  have hkl := h.kl
  have hm := h.keys _ (getD_mem (l := ks) (i := x.toNat) (d := (0 : Int)) (by omega))
  have e : ks.getD x.toNat 0 = (((ks.getD x.toNat 0).toNat : Nat) : Int) := by omega
  have p : (2 : Nat) ^ 6 = 64 := by decide
  have p63 : (2 : Nat) ^ 63 = 9223372036854775808 := by decide
  refine ⟨?_, Nat.or_lt_two_pow ha (by omega)⟩
  conv => lhs; rw [e]
  exact bitOr_nat (by omega) (by omega)

noncomputable def nextN (ds : List (Int × Int × Int)) (ks : List Int) (s : Nat) : Nat := keysF ks s (memL (reachN ds (s : Int) 0))
theorem nextN_ge (ds : List (Int × Int × Int)) (ks : List Int) (s : Nat) : s ≤ nextN ds ks s := keysF_ge ks _ s
theorem nextN_lt {N : Int} {ds : List (Int × Int × Int)} {ks : List Int} (h : VM N ds ks) {s : Nat} (hs : s < 2 ^ 6) : nextN ds ks s < 2 ^ 6 := keysF_lt h.keys hs
/-- The sets at first and behind rounds. -/
noncomputable def roundsL (ds : List (Int × Int × Int)) (ks : List Int) (s : Nat) : List Nat :=
  if h : s < nextN ds ks s ∧ nextN ds ks s < 2 ^ 6 then s :: roundsL ds ks (nextN ds ks s) else [s]
termination_by 2 ^ 6 - s
decreasing_by omega
noncomputable def lastN (ds : List (Int × Int × Int)) (ks : List Int) (s : Nat) : Nat :=
  if h : s < nextN ds ks s ∧ nextN ds ks s < 2 ^ 6 then lastN ds ks (nextN ds ks s) else s
termination_by 2 ^ 6 - s
decreasing_by omega

section
variable {N : Int} {ds : List (Int × Int × Int)} {ks : List Int} (h : VM N ds ks)
include h
theorem roundsL_eq {s : Nat} (hs : s < 2 ^ 6) : roundsL ds ks s = if nextN ds ks s = s then [s] else s :: roundsL ds ks (nextN ds ks s) := by
  rw [roundsL]
  have h1 := nextN_ge ds ks s
  have h2 := nextN_lt h hs
  by_cases c : nextN ds ks s = s
  · rw [dif_neg (by omega), if_pos c]
  · rw [dif_pos ⟨by omega, h2⟩, if_neg c]
theorem lastN_eq {s : Nat} (hs : s < 2 ^ 6) : lastN ds ks s = if nextN ds ks s = s then s else lastN ds ks (nextN ds ks s) := by
  rw [lastN]
  have h1 := nextN_ge ds ks s
  have h2 := nextN_lt h hs
  by_cases c : nextN ds ks s = s
  · rw [dif_neg (by omega), if_pos c]
  · rw [dif_pos ⟨by omega, h2⟩, if_neg c]
theorem rounds_facts : ∀ (m s : Nat), 2 ^ 6 - s ≤ m → s < 2 ^ 6 → roundsL ds ks s ≠ [] ∧ (roundsL ds ks s).getLast? = some (lastN ds ks s) ∧ (∀ r ∈ roundsL ds ks s, r < 2 ^ 6) ∧ (roundsL ds ks s).length ≤ 2 ^ 6 - s ∧ lastN ds ks s < 2 ^ 6
  | 0, s, hm, hs => by omega
  | m + 1, s, hm, hs => by
    rw [roundsL_eq h hs, lastN_eq h hs]
    have h1 := nextN_ge ds ks s
    have h2 := nextN_lt h hs
    by_cases c : nextN ds ks s = s
    · simp only [if_pos c]
      refine ⟨by simp, by simp, by simpa using hs, by simp; omega, hs⟩
    · simp only [if_neg c]
      obtain ⟨a1, a2, a3, a4, a5⟩ := rounds_facts m (nextN ds ks s) (by omega) h2
      refine ⟨by simp, ?_, ?_, ?_, a5⟩
      · cases hr : roundsL ds ks (nextN ds ks s) with
        | nil => exact absurd hr a1
        | cons b l => rw [hr] at a2; simpa using a2
      · intro r hr
        rcases List.mem_cons.1 hr with rfl | hr
        · exact hs
        · exact a3 r hr
      · simp only [List.length_cons]; omega
theorem reach_mem {s : Int} {x : Int} (hx : x ∈ memL (reachN ds s 0)) : 0 ≤ x ∧ x < N := by
  have h0 : (0 : Int) ≤ 0 ∧ (0 : Int) < N := ⟨by omega, by have := h.n1; omega⟩
  obtain ⟨i, rfl, hb⟩ := (memL_mem (reachN_lt ds s 0)).1 hx
  exact ((reachN_bit h h0 i).1 hb).range h h0
end

/-! ### The reference -/
section
variable {n : Nat} {N : Int} {ds : List (Int × Int × Int)} {ks : List Int}
def castL (l : List Nat) : List Int := l.map fun r : Nat => (r : Int)
/-! ### The program -/
theorem rounds_l2I (h : VM N ds ks) {K : Int → List (Int × Int × Int) → List Int → List (Int × Int) → Int → Int → Int → Option (List (Int × Int))} {s t : Int} {o : List (Int × Int)} {l : List Int} (hl : l.length ≤ 4398046511104) (hx : ∀ x ∈ l, 0 ≤ x ∧ x < N) : ∀ (j i a : Nat), l.length - i < j → a < 2 ^ 6 →
    impl_rounds.l2 n K j N ds ks o s t (a : Int) l l.length i = K N ds ks o s t ((keysF ks a (l.drop i) : Nat) : Int)
  | 0, i, a, hj, _ => by omega
  | j + 1, i, a, hj, ha => by
    rw [impl_rounds.l2]
    by_cases c : (i : Int) < (l.length : Int)
    · have ci : i < l.length := by omega
      have ei : (i : Int).toNat = i := by omega
      have k1 : decide ((i : Int) < (l.length : Int)) = true := by simpa using c
      have k2 : 0 ≤ (i : Int) ∧ (i : Int) < (l.length : Int) := ⟨by omega, c⟩
      have wi : IntKind.wrap .i64 ((i : Int) + 1) = ((i + 1 : Nat) : Int) := by rw [w64s (by omega) (by omega)]; omega
      have hm := hx _ (getD_mem (d := (0 : Int)) ci)
      have hkl := h.kl
      have k3 : 0 ≤ l.getD i 0 ∧ l.getD i 0 < (ks.length : Int) := ⟨hm.1, by omega⟩
      obtain ⟨o1, o2⟩ := key_or h hm ha
      rw [if_pos k1, if_pos k2, ei, if_pos k3, wi, o1, rounds_l2I h hl hx j (i + 1) _ (by omega) o2, getD_drop (d := (0 : Int)) ci, keysF_cons]
    · have k1 : ¬ decide ((i : Int) < (l.length : Int)) = true := by simpa using c
      have : l.drop i = [] := List.drop_eq_nil_of_le (by omega)
      rw [if_neg k1, this]
      rfl
noncomputable def pairL (ds : List (Int × Int × Int)) (l : List Nat) : List (Int × Int) := l.map fun r : Nat => ((r : Int), ((reachN ds (r : Int) 0 : Nat) : Int))
theorem roundsI_l0 (hn : 40 ≤ n) (h : VM N ds ks) {K : Unit → Option (List (Int × Int))} : ∀ (j s : Nat) (o : List (Int × Int)), 2 ^ 6 - s < j → s < 2 ^ 6 → o.length ≤ s →
    impl_rounds.l0 n K j N ds ks o (s : Int) = some (o ++ pairL ds (roundsL ds ks s))
  | 0, s, o, hj, _, _ => by omega
  | j + 1, s, o, hj, hs, ho => by
    rw [impl_rounds.l0]
    have p6 : (2 : Nat) ^ 6 = 64 := by decide
    rw [reach_eq hn h ⟨by omega, by have := h.n1; omega⟩, Option.bind_some, members_eq hn (reachN_lt _ _ _), Option.bind_some]
    have hml := memL_length (reachN ds (s : Int) 0)
    have := rounds_l2I (n := n) h (K := fun y3 y4 y5 y6 y7 y8 y9 =>
      if y6.length + ([(y7, y8)] : List (Int × Int)).length ≤ 4398046511104 then (if (decide (y9 = y7)) = true then
        some (y6 ++ ([(y7, y8)] : List (Int × Int)))
      else
        impl_rounds.l0 n K j y3 y4 y5 (y6 ++ ([(y7, y8)] : List (Int × Int))) y9) else none) (s := (s : Int)) (t := ((reachN ds (s : Int) 0 : Nat) : Int)) (o := o) (l := memL (reachN ds (s : Int) 0)) (by omega) (fun x hx => reach_mem h hx) n 0 s (by omega) hs
    simp only [Int.natCast_zero, List.drop_zero] at this
    rw [this]
    have e : keysF ks s (memL (reachN ds (s : Int) 0)) = nextN ds ks s := rfl
    rw [e, roundsL_eq h hs, if_pos (by simp; omega)]
    have h1 := nextN_ge ds ks s
    have h2 := nextN_lt h hs
    by_cases c : nextN ds ks s = s
    · rw [if_pos (by rw [decide_eq_true_eq, c]), if_pos c]
      rfl
    · rw [if_neg (by rw [decide_eq_true_eq]; omega), if_neg c, roundsI_l0 hn h j (nextN ds ks s) (o ++ [((s : Int), ((reachN ds (s : Int) 0 : Nat) : Int))]) (by omega) h2 (by simp; omega)]
      simp [pairL]
theorem roundsI_eq (hn : 100 ≤ n) (h : VM N ds ks) {s : Nat} (hs : s < 2 ^ 6) : impl_rounds.F n N ds ks (s : Int) = some (pairL ds (roundsL ds ks s)) := by
  unfold impl_rounds.F
  have := roundsI_l0 (n := n) (by omega) h (K := fun _ => none) n s [] (by omega) hs (by simp)
  simpa using this
theorem atLast_eq (hn : 100 ≤ n) (h : VM N ds ks) {s : Nat} (hs : s < 2 ^ 6) : impl_atLast.F n N ds ks (s : Int) = some (((lastN ds ks s : Nat) : Int), ((reachN ds ((lastN ds ks s : Nat) : Int) 0 : Nat) : Int)) := by
  unfold impl_atLast.F
  obtain ⟨f1, f2, f3, f4, f5⟩ := rounds_facts h (2 ^ 6) s (by omega) hs
  have p6 : (2 : Nat) ^ 6 = 64 := by decide
  have hpos : 0 < (roundsL ds ks s).length := List.length_pos_iff.2 f1
  have hl : (pairL ds (roundsL ds ks s)).length = (roundsL ds ks s).length := by simp [pairL]
  rw [roundsI_eq hn h hs, Option.bind_some, hl, w64s (by omega) (by omega), if_pos ⟨by omega, by omega⟩]
  have e : (((roundsL ds ks s).length : Int) - 1).toNat = (roundsL ds ks s).length - 1 := by omega
  rw [e]
  rw [List.getLast?_eq_getElem?] at f2
  have : (pairL ds (roundsL ds ks s)).getD ((roundsL ds ks s).length - 1) (0, 0) = (((lastN ds ks s : Nat) : Int), ((reachN ds ((lastN ds ks s : Nat) : Int) 0 : Nat) : Int)) := by
    rw [List.getD_eq_getElem?_getD, pairL, List.getElem?_map, f2]
    rfl
  rw [this]
noncomputable def winB (N : Int) (ds : List (Int × Int × Int)) (ks : List Int) (s : Nat) : Bool := (reachN ds ((lastN ds ks s : Nat) : Int) 0).testBit (N - 1).toNat
theorem mem_memL {S : Nat} (hS : S < 2 ^ 12) {x : Int} (hx : 0 ≤ x) : decide (x ∈ memL S) = S.testBit x.toNat := by
  have := memL_mem hS (x := x)
  by_cases c : x ∈ memL S
  · obtain ⟨i, rfl, hb⟩ := this.1 c
    rw [decide_eq_true c, Int.toNat_natCast, hb]
  · rw [decide_eq_false c]
    cases hb : S.testBit x.toNat with
    | false => rfl
    | true => exact absurd (this.2 ⟨x.toNat, by omega, hb⟩) c
open Classical in
theorem asked_eq (hn : 40 ≤ n) (s : Int) : impl_asked.F n N ds ks s = some (decide (VM N ds ks) && setB s) := by
  unfold impl_asked.F
  rw [IsMaze_val hn, Option.bind_some]
  by_cases h : VM N ds ks
  · simp [h, isSet_eq]
  · simp [h]
theorem setB_nat {s : Int} (h : setB s = true) : ∃ m : Nat, s = (m : Int) ∧ m < 2 ^ 6 := by
  have := setB_iff.1 h
  have p6 : (2 : Nat) ^ 6 = 64 := by decide
  exact ⟨s.toNat, by omega, by omega⟩
end
end Go.Pv
