/- Plain laws: what is reached from a node with a set of colours. -/
import Derived.Test.YtfgncboicamdjaaGreatDoorPvNode
import Derived.Test.YtfgncboicamdjaaGreatDoorPvMem
set_option linter.unusedVariables false
set_option linter.unusedSimpArgs false
set_option autoImplicit false
namespace Go.Pv
open Go Go.Fx Go.Pf

/-! ### What is reached -/
inductive Rch (ds : List (Int × Int × Int)) (s x : Int) : Int → Prop
  | refl : Rch ds s x x
  | step {y z : Int} : Rch ds s x y → openB ds y z s = true → Rch ds s x z
theorem Rch.range {N : Int} {ds : List (Int × Int × Int)} {ks : List Int} (h : VM N ds ks) {s x y : Int} (hx : 0 ≤ x ∧ x < N) (hr : Rch ds s x y) : 0 ≤ y ∧ y < N := by
  induction hr with
  | refl => exact hx
  | step _ ho _ => have := openB_range h ho; omega
open Classical in
noncomputable def reachN (ds : List (Int × Int × Int)) (s x : Int) : Nat := maskP fun y => decide (Rch ds s x (y : Int))
theorem reachN_lt (ds : List (Int × Int × Int)) (s x : Int) : reachN ds s x < 2 ^ 12 := maskP_lt _
theorem reachN_bit {N : Int} {ds : List (Int × Int × Int)} {ks : List Int} (h : VM N ds ks) {s x : Int} (hx : 0 ≤ x ∧ x < N) (y : Nat) : (reachN ds s x).testBit y = true ↔ Rch ds s x (y : Int) := by
  unfold reachN
  rw [maskP_bit]
  constructor
  · intro hh
    simp at hh
    exact hh.2
  · intro hr
    have := hr.range h hx
    have := h.n2
    simp [hr]
    omega

/-! ### The program's way -/
theorem countP_split {α : Type} (p q r : α → Bool) : ∀ (l : List α), (∀ a ∈ l, p a = (q a || r a)) → (∀ a ∈ l, q a = true → r a = false) → l.countP p = l.countP q + l.countP r
  | [], _, _ => rfl
  | a :: l, h1, h2 => by
    have ih := countP_split p q r l (fun b hb => h1 b (by simp [hb])) (fun b hb => h2 b (by simp [hb]))
    have e1 := h1 a (by simp)
    have e2 := h2 a (by simp)
    rw [List.countP_cons, List.countP_cons, List.countP_cons, ih, e1]
    cases hq : q a with
    | true => rw [e2 hq]; simp; omega
    | false => cases r a <;> simp <;> omega
theorem memL_count (S : Nat) : (memL S).length = (List.range 12).countP fun i => S.testBit i := by
  unfold memL memF
  rw [List.length_map, List.countP_eq_length_filter, List.range_eq_range']

theorem reach_l0 {n : Nat} (hn : 40 ≤ n) {N : Int} {ds : List (Int × Int × Int)} {ks : List Int} (h : VM N ds ks) {s x : Int} {K : Int → Option Int} (hx : 0 ≤ x ∧ x < N) :
    ∀ (j O : Nat) (todo : List Int), O < 2 ^ 12 → todo.length + (List.range 12).countP (fun i => !O.testBit i) < j → todo.length + (List.range 12).countP (fun i => !O.testBit i) ≤ 13 →
      (O.testBit x.toNat = true) → (∀ y : Nat, O.testBit y = true → Rch ds s x (y : Int)) → (∀ z ∈ todo, ∃ i : Nat, z = (i : Int) ∧ O.testBit i = true) →
      (∀ z : Nat, O.testBit z = true → (z : Int) ∈ todo ∨ ∀ y : Nat, openB ds (z : Int) (y : Int) s = true → O.testBit y = true) →
      impl_reach.l0 n K j s N ds ks (O : Int) todo = K ((reachN ds s x : Nat) : Int)
  | 0, O, todo, _, hj, _, _, _, _, _ => by omega
  | j + 1, O, todo, hO, hj, hj2, h0, h1, h2, h3 => by
    rw [impl_reach.l0]
    have p12 : (2 : Nat) ^ 12 = 4096 := by decide
    have p63 : (2 : Nat) ^ 63 = 9223372036854775808 := by decide
    cases todo with
    | nil =>
      rw [if_neg (by simp)]
      congr 2
      apply Nat.eq_of_testBit_eq
      intro y
      have clo : ∀ w, Rch ds s x w → O.testBit w.toNat = true := by
        intro w hw
        have hwr := hw.range h hx
        induction hw with
        | refl => exact h0
        | step hr ho ih =>
          rename_i y' z'
          have hy := hr.range h hx
          have ih' := ih hy
          rcases h3 y'.toNat ih' with h4 | h4
          · cases h4
          · refine h4 z'.toNat ?_
            have e1 : ((y'.toNat : Nat) : Int) = y' := by omega
            have e2 : ((z'.toNat : Nat) : Int) = z' := by omega
            rw [e1, e2]; exact ho
      have i1 := reachN_bit h (s := s) hx y
      cases hb : O.testBit y with
      | true => exact (i1.2 (h1 y hb)).symm
      | false =>
        cases hr : (reachN ds s x).testBit y with
        | false => rfl
        | true =>
          have := clo _ (i1.1 hr)
          rw [Int.toNat_natCast, hb] at this
          cases this
    | cons z todo =>
      have g1 : decide (((z :: todo).length : Int) > 0) = true := by rw [decide_eq_true_eq, List.length_cons]; omega
      have g2 : (0 : Int) ≤ 0 ∧ (0 : Int) < ((z :: todo).length : Int) := by simp only [List.length_cons]; omega
      have g3 : (0 : Int) ≤ 1 ∧ (1 : Int) ≤ ((z :: todo).length : Int) := by simp only [List.length_cons]; omega
      have ez : (z :: todo).getD 0 0 = z := rfl
      rw [if_pos g1, if_pos g2, ez, steps_eq hn h, Option.bind_some, if_pos g3]
      have hs := stepsN_lt h z s
      rw [bitClr_nat (by omega) (by omega)]
      have hcl : clrN (stepsN ds z s) O < 2 ^ 12 := clrN_lt hs
      rw [members_eq hn hcl, Option.bind_some]
      have hml := memL_length (clrN (stepsN ds z s) O)
      have hdrop : (z :: todo).drop 1 = todo := rfl
      rw [hdrop]
      generalize hC : clrN (stepsN ds z s) O = C at *
      have hCb : ∀ i, C.testBit i = (openB ds z (i : Int) s && !O.testBit i) := fun i => by
        rw [← hC, clrN_bit (by omega) (by omega), stepsN_bit h]
      have hO' : O ||| C < 2 ^ 12 := Nat.or_lt_two_pow hO hcl
      have hcnt : (List.range 12).countP (fun i => !O.testBit i) = (List.range 12).countP (fun i => !(O ||| C).testBit i) + (List.range 12).countP (fun i => C.testBit i) := by
        apply countP_split
        · intro a _
          rw [Nat.testBit_or, hCb a]
          cases O.testBit a <;> cases openB ds z (a : Int) s <;> rfl
        · intro a _ ha
          rw [Nat.testBit_or] at ha
          cases hc : C.testBit a with
          | false => rfl
          | true => rw [hc] at ha; simp at ha
      have hmc := memL_count C
      obtain ⟨iz, hiz, hizb⟩ := h2 z (by simp)
      have hcount12 : (List.range 12).countP (fun i => !O.testBit i) ≤ 12 := by
        have := List.countP_le_length (p := fun i => !O.testBit i) (l := List.range 12)
        simpa using this
      have hlen : todo.length + (memL C).length ≤ 4398046511104 := by
        simp only [List.length_cons] at hj2
        omega
      · rw [if_pos hlen, bitOr_nat (by omega) (by omega)]
        refine reach_l0 hn h hx j (O ||| C) (todo ++ memL C) hO' ?_ ?_ ?_ ?_ ?_ ?_
        · simp only [List.length_append, List.length_cons] at hj ⊢
          omega
        · simp only [List.length_append, List.length_cons] at hj2 ⊢
          omega
        · rw [Nat.testBit_or, h0]; rfl
        · intro y hy
          rw [Nat.testBit_or, Bool.or_eq_true] at hy
          rcases hy with hy | hy
          · exact h1 y hy
          · rw [hCb] at hy
            simp only [Bool.and_eq_true] at hy
            rw [hiz] at hy
            exact .step (h1 iz hizb) hy.1
        · intro w hw
          rcases List.mem_append.1 hw with hw | hw
          · obtain ⟨i, e, hb⟩ := h2 w (by simp [hw])
            exact ⟨i, e, by rw [Nat.testBit_or, hb]; rfl⟩
          · obtain ⟨i, e, hb⟩ := (memL_mem hcl).1 hw
            exact ⟨i, e, by rw [Nat.testBit_or, hb, Bool.or_true]⟩
        · intro w hw
          rw [Nat.testBit_or, Bool.or_eq_true] at hw
          rcases hw with hw | hw
          · rcases h3 w hw with h4 | h4
            · rcases List.mem_cons.1 h4 with h4 | h4
              · right
                intro y hy
                rw [Nat.testBit_or, hCb]
                rw [h4] at hy
                rw [hy]
                cases O.testBit y <;> rfl
              · left; simp [h4]
            · right
              intro y hy
              rw [Nat.testBit_or, h4 y hy]; rfl
          · left
            rw [List.mem_append]
            right
            exact (memL_mem hcl).2 ⟨w, rfl, hw⟩
theorem reach_eq {n : Nat} (hn : 40 ≤ n) {N : Int} {ds : List (Int × Int × Int)} {ks : List Int} (h : VM N ds ks) {s x : Int} (hx : 0 ≤ x ∧ x < N) : impl_reach.F n N ds ks x s = some ((reachN ds s x : Nat) : Int) := by
  unfold impl_reach.F
  have h2 := h.n2
  rw [if_neg (by omega)]
  have ex : x = ((x.toNat : Nat) : Int) := by omega
  have hp : 2 ^ x.toNat < 2 ^ 12 := Nat.pow_lt_pow_right (by omega) (by omega)
  have hsh : shL .i64 1 x = ((2 ^ x.toNat : Nat) : Int) := by
    conv => lhs; rw [ex]
    exact shL_one (by omega)
  rw [hsh]
  have hc : (List.range 12).countP (fun i => !(2 ^ x.toNat).testBit i) ≤ 12 := by
    have := List.countP_le_length (p := fun i => !(2 ^ x.toNat).testBit i) (l := List.range 12)
    simpa using this
  refine reach_l0 hn h hx n (2 ^ x.toNat) [x] hp (by simp only [List.length_singleton]; omega) (by simp only [List.length_singleton]; omega) (by simp) ?_ ?_ ?_
  · intro y hy
    rw [Nat.testBit_two_pow] at hy
    have : (y : Int) = x := by simp at hy; omega
    rw [this]
    exact .refl
  · intro z hz
    simp only [List.mem_singleton] at hz
    subst hz
    exact ⟨z.toNat, ex, by simp⟩
  · intro z hz
    rw [Nat.testBit_two_pow] at hz
    left
    have : (z : Int) = x := by simp at hz; omega
    simp [this]
end Go.Pv
