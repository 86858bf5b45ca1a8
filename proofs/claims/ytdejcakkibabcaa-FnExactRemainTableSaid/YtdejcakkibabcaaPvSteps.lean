/- Plain laws about open doors, steps and nodes. -/
import Derived.Test.YtdejcakkibabcaaPvBits
set_option linter.unusedVariables false
set_option linter.unusedSimpArgs false
set_option autoImplicit false
namespace Go.Pv
open Go Go.Fx Go.Pf

/-- Has a set all colours of another one. -/
def hasB (s c : Int) : Bool := decide (bitAnd .i64 s c = c)
theorem l2Has_eq (n : Nat) (s c : Int) : spec_l2Has.F n s c = some (hasB s c) := rfl
theorem toInt_wrap (v : BitVec 64) : IntKind.wrap .i64 ((v.toNat : Nat) : Int) = v.toInt := by
  rw [IntKind.wrap_i64, BitVec.toInt_eq_toNat_bmod]
  have := v.isLt
  rw [Int.bmod_def]
  omega
theorem clr_has {s c : Int} (h1 : -9223372036854775808 ≤ c) (h2 : c < 9223372036854775808) : decide (bitClr .i64 c s = 0) = hasB s c := by
  unfold hasB bitClr bitAnd
  show decide (IntKind.wrap .i64 (((BitVec.ofInt 64 c &&& ~~~ (BitVec.ofInt 64 s)).toNat : Nat) : Int) = 0) = decide (IntKind.wrap .i64 (((BitVec.ofInt 64 s &&& BitVec.ofInt 64 c).toNat : Nat) : Int) = c)
  rw [toInt_wrap, toInt_wrap]
  have ec : c = (BitVec.ofInt 64 c).toInt := by
    rw [BitVec.toInt_ofInt, Int.bmod_def]
    omega
  generalize BitVec.ofInt 64 s = S
  generalize hC : BitVec.ofInt 64 c = C at *
  have e0 : (0 : Int) = (0#64).toInt := by decide
  rw [decide_eq_decide]
  constructor
  · intro h
    rw [e0, BitVec.toInt_inj] at h
    have : S &&& C = C := by
      apply BitVec.eq_of_getLsbD_eq
      intro i hi
      have := congrArg (fun v : BitVec 64 => v.getLsbD i) h
      simp only [BitVec.getLsbD_and, BitVec.getLsbD_not, hi, decide_true, Bool.true_and, BitVec.getLsbD_zero] at this
      simp only [BitVec.getLsbD_and]
      revert this
      cases S.getLsbD i <;> cases C.getLsbD i <;> simp
    rw [this]; exact ec.symm
  · intro h
    rw [ec, BitVec.toInt_inj] at h
    have : C &&& ~~~ S = 0#64 := by
      apply BitVec.eq_of_getLsbD_eq
      intro i hi
      have := congrArg (fun v : BitVec 64 => v.getLsbD i) h
      simp only [BitVec.getLsbD_and] at this
      simp only [BitVec.getLsbD_and, BitVec.getLsbD_not, hi, decide_true, Bool.true_and, BitVec.getLsbD_zero]
      revert this
      cases S.getLsbD i <;> cases C.getLsbD i <;> simp
    rw [this, e0]
theorem has_eq (n : Nat) {s c : Int} (h1 : 0 ≤ c) (h2 : c ≤ 63) : impl_has.F n s c = some (hasB s c) := by
  unfold impl_has.F
  rw [clr_has (by omega) (by omega)]

/-- Is a door between two nodes, and open. -/
def joinB (x y : Int) (d : Int × Int × Int) : Bool := (decide (d.1 = x) && decide (d.2.1 = y)) || (decide (d.1 = y) && decide (d.2.1 = x))
theorem l2Joins_eq (n : Nat) (d : Int × Int × Int) (x y : Int) : spec_l2Joins.F n d.1 d.2.1 d.2.2 x y = some (joinB x y d) := by
  unfold spec_l2Joins.F joinB
  by_cases h1 : d.1 = x
  · by_cases h2 : d.2.1 = y
    · simp [h1, h2]
    · by_cases h3 : d.1 = y
      · have h4 : x = y := by rw [← h1, h3]
        simp [h1, h2, h4]
      · have h4 : ¬ x = y := by rw [← h1]; exact h3
        simp [h1, h2, h4]
  · rw [if_neg (by simpa using h1)]
    by_cases h3 : d.1 = y
    · have h5 : ¬ y = x := by rw [← h3]; exact h1
      rw [if_pos (by simpa using h3)]
      simp [h3, h5]
    · rw [if_neg (by simpa using h3)]
      simp [h1, h3]
def openB (ds : List (Int × Int × Int)) (x y s : Int) : Bool := ds.any fun d => joinB x y d && hasB s d.2.2

theorem l2Open_l0 {n : Nat} {K : Unit → Option Bool} {x y s N : Int} {ds : List (Int × Int × Int)} {ks : List Int} (hd : ds.length ≤ 4398046511104) : ∀ (j i : Nat), ds.length - i < j →
    spec_l2Open.l0 n K j x y s N ds ks i = if ((ds.drop i).any fun d => joinB x y d && hasB s d.2.2) = true then some true else K ()
  | 0, i, h => by omega
  | j + 1, i, h => by
    rw [spec_l2Open.l0]
    by_cases c : (i : Int) < (ds.length : Int)
    · have ci : i < ds.length := by omega
      have ei : (i : Int).toNat = i := by omega
      have k1 : decide ((i : Int) < (ds.length : Int)) = true := by simpa using c
      have k2 : 0 ≤ (i : Int) ∧ (i : Int) < (ds.length : Int) := ⟨by omega, c⟩
      have wi : IntKind.wrap .i64 ((i : Int) + 1) = ((i + 1 : Nat) : Int) := by rw [w64s (by omega) (by omega)]; omega
      simp only [if_pos k1, if_pos k2, wi, l2Joins_eq, l2Has_eq, Option.bind_some, ei, getD_drop (d := ((0, 0, 0) : Int × Int × Int)) ci, List.any_cons]
      rw [l2Open_l0 hd j (i + 1) (by omega)]
      generalize ((ds.drop (i + 1)).any fun d => joinB x y d && hasB s d.2.2) = R
      generalize hasB s (ds.getD i (0, 0, 0)).2.2 = H
      generalize joinB x y (ds.getD i (0, 0, 0)) = J
      cases R <;> cases J <;> cases H <;> rfl
    · have k1 : ¬ decide ((i : Int) < (ds.length : Int)) = true := by simpa using c
      have : ds.drop i = [] := List.drop_eq_nil_of_le (by omega)
      rw [if_neg k1, this]
      rfl
theorem l2Open_eq {n : Nat} {x y s N : Int} {ds : List (Int × Int × Int)} {ks : List Int} (hd : ds.length ≤ 4398046511104) (hn : ds.length < n) : spec_l2Open.F n N ds ks x y s = some (openB ds x y s) := by
  unfold spec_l2Open.F openB
  have := l2Open_l0 (n := n) (K := fun _ => some false) (x := x) (y := y) (s := s) (N := N) (ks := ks) hd n 0 (by omega)
  simp only [Int.natCast_zero, List.drop_zero] at this
  rw [this]
  cases ds.any fun d => joinB x y d && hasB s d.2.2 <;> rfl

/-! ### Steps -/
def stepU (x s : Int) (o : Nat) (d : Int × Int × Int) : Nat :=
  if hasB s d.2.2 = true then
    (if d.2.1 = x then (if d.1 = x then o ||| 2 ^ d.2.1.toNat else o) ||| 2 ^ d.1.toNat else (if d.1 = x then o ||| 2 ^ d.2.1.toNat else o))
  else o
def stepF (x s : Int) (o : Nat) (l : List (Int × Int × Int)) : Nat := l.foldl (stepU x s) o
def stepsN (ds : List (Int × Int × Int)) (x s : Int) : Nat := stepF x s 0 ds

theorem stepU_lt {x s : Int} {o : Nat} {d : Int × Int × Int} (ho : o < 2 ^ 12) (h : 0 ≤ d.1 ∧ d.1 < d.2.1 ∧ d.2.1 < 12) : stepU x s o d < 2 ^ 12 := by
  have p : ∀ k : Nat, k < 12 → 2 ^ k < 2 ^ 12 := fun k hk => Nat.pow_lt_pow_right (by omega) hk
  unfold stepU
  split
  · split
    · split
      · exact Nat.or_lt_two_pow (Nat.or_lt_two_pow ho (p _ (by omega))) (p _ (by omega))
      · exact Nat.or_lt_two_pow ho (p _ (by omega))
    · split
      · exact Nat.or_lt_two_pow ho (p _ (by omega))
      · exact ho
  · exact ho
theorem stepU_bit {x s : Int} {o : Nat} {d : Int × Int × Int} {y : Nat} (h : 0 ≤ d.1 ∧ d.1 < d.2.1) : (stepU x s o d).testBit y = (o.testBit y || (joinB x (y : Int) d && hasB s d.2.2)) := by
  unfold stepU joinB
  cases hh : hasB s d.2.2 with
  | false => simp
  | true =>
    have e1 : ∀ z : Int, 0 ≤ z → (decide (z.toNat = y)) = decide (z = (y : Int)) := fun z hz => by rw [decide_eq_decide]; omega
    by_cases h1 : d.1 = x
    · by_cases h2 : d.2.1 = x
      · omega
      · simp [h1, h2, Nat.testBit_or, Nat.testBit_two_pow, ← e1 d.2.1 (by omega)]
    · by_cases h2 : d.2.1 = x
      · simp [h1, h2, Nat.testBit_or, Nat.testBit_two_pow, ← e1 d.1 (by omega)]
      · simp [h1, h2]
theorem stepF_bit {x s : Int} {y : Nat} : ∀ {l : List (Int × Int × Int)} {o : Nat}, (∀ d ∈ l, 0 ≤ d.1 ∧ d.1 < d.2.1) → (stepF x s o l).testBit y = (o.testBit y || l.any fun d => joinB x (y : Int) d && hasB s d.2.2)
  | [], o, h => by simp [stepF]
  | d :: l, o, h => by
    have := stepF_bit (x := x) (s := s) (y := y) (l := l) (o := stepU x s o d) (fun e he => h e (by simp [he]))
    simp only [stepF, List.foldl_cons] at this ⊢
    rw [this, stepU_bit (h d (by simp)), List.any_cons, Bool.or_assoc]
theorem stepF_lt {x s : Int} : ∀ {l : List (Int × Int × Int)} {o : Nat}, o < 2 ^ 12 → (∀ d ∈ l, 0 ≤ d.1 ∧ d.1 < d.2.1 ∧ d.2.1 < 12) → stepF x s o l < 2 ^ 12
  | [], o, ho, h => ho
  | d :: l, o, ho, h => by
    simp only [stepF, List.foldl_cons]
    exact stepF_lt (stepU_lt ho (h d (by simp))) (fun e he => h e (by simp [he]))

theorem steps_l0 {n : Nat} {K : Int → Option Int} {x s : Int} {ds : List (Int × Int × Int)} (hl : ds.length ≤ 30) (hd : ∀ d ∈ ds, 0 ≤ d.1 ∧ d.1 < d.2.1 ∧ d.2.1 < 12 ∧ 0 ≤ d.2.2 ∧ d.2.2 ≤ 63) : ∀ (j i o : Nat), ds.length - i < j → o < 2 ^ 12 →
    impl_steps.l0 n K j x s (o : Int) ds ds.length i = K ((stepF x s o (ds.drop i) : Nat) : Int)
  | 0, i, o, h, _ => by omega
  | j + 1, i, o, h, ho => by
    rw [impl_steps.l0]
    by_cases c : (i : Int) < (ds.length : Int)
    · have ci : i < ds.length := by omega
      have ei : (i : Int).toNat = i := by omega
      have k1 : decide ((i : Int) < (ds.length : Int)) = true := by simpa using c
      have k2 : 0 ≤ (i : Int) ∧ (i : Int) < (ds.length : Int) := ⟨by omega, c⟩
      have wi : IntKind.wrap .i64 ((i : Int) + 1) = ((i + 1 : Nat) : Int) := by rw [w64s (by omega) (by omega)]; omega
      have hm := hd _ (getD_mem (d := ((0, 0, 0) : Int × Int × Int)) ci)
      have hs := getD_drop (d := ((0, 0, 0) : Int × Int × Int)) ci
      simp only [if_pos k1, if_pos k2, wi, ei]
      rw [hs]
      generalize ds.getD i (0, 0, 0) = d at *
      obtain ⟨m1, m2, m3, m4, m5⟩ := hm
      have ih := fun o' ho' => steps_l0 (n := n) (K := K) (x := x) (s := s) hl hd j (i + 1) o' (by omega) ho'
      have p12 : (2 : Nat) ^ 12 < 2 ^ 63 := by decide
      have sh : ∀ z : Int, 0 ≤ z → z < 12 → shL .i64 1 z = ((2 ^ z.toNat : Nat) : Int) := by
        intro z z1 z2
        have e : z = ((z.toNat : Nat) : Int) := by omega
        conv => lhs; rw [e]
        exact shL_one (by omega)
      have p : ∀ k : Nat, k < 12 → 2 ^ k < 2 ^ 12 := fun k hk => Nat.pow_lt_pow_right (by omega) hk
      have orr : ∀ a k : Nat, a < 2 ^ 12 → k < 12 → bitOr .i64 (a : Int) ((2 ^ k : Nat) : Int) = ((a ||| 2 ^ k : Nat) : Int) ∧ a ||| 2 ^ k < 2 ^ 12 := fun a k ha hk =>
        ⟨bitOr_nat (by omega) (by have := p k hk; omega), Nat.or_lt_two_pow ha (p k hk)⟩
      have n1 : ¬ d.1 < 0 := by omega
      have n2 : ¬ d.2.1 < 0 := by omega
      rw [has_eq n m4 m5, Option.bind_some, sh d.1 m1 (by omega), sh d.2.1 (by omega) m3]
      simp only [if_neg n1, if_neg n2]
      obtain ⟨o1, o2⟩ := orr o d.2.1.toNat ho (by omega)
      obtain ⟨o3, o4⟩ := orr o d.1.toNat ho (by omega)
      obtain ⟨o5, o6⟩ := orr (o ||| 2 ^ d.2.1.toNat) d.1.toNat o2 (by omega)
      rw [o1, o3, o5, ih _ ho, ih _ o2, ih _ o4, ih _ o6]
      have hfold : ∀ o', stepF x s o' (d :: ds.drop (i + 1)) = stepF x s (stepU x s o' d) (ds.drop (i + 1)) := fun _ => rfl
      rw [hfold]
      unfold stepU
      cases hasB s d.2.2 with
      | false => simp
      | true =>
        by_cases h1 : d.1 = x
        · by_cases h2 : d.2.1 = x
          · simp [h1, h2]
          · simp [h1, h2]
        · by_cases h2 : d.2.1 = x
          · simp [h1, h2]
          · simp [h1, h2]
    · have k1 : ¬ decide ((i : Int) < (ds.length : Int)) = true := by simpa using c
      have : ds.drop i = [] := List.drop_eq_nil_of_le (by omega)
      simp only [if_neg k1, this]
      rfl

theorem VM.door12 {N : Int} {ds : List (Int × Int × Int)} {ks : List Int} (h : VM N ds ks) : ∀ d ∈ ds, 0 ≤ d.1 ∧ d.1 < d.2.1 ∧ d.2.1 < 12 ∧ 0 ≤ d.2.2 ∧ d.2.2 ≤ 63 := fun d hd => by
  have := h.door d hd
  have := h.n2
  omega
theorem steps_eq {n : Nat} (hn : 40 ≤ n) {N : Int} {ds : List (Int × Int × Int)} {ks : List Int} (h : VM N ds ks) (x s : Int) : impl_steps.F n N ds ks x s = some ((stepsN ds x s : Nat) : Int) := by
  unfold impl_steps.F stepsN
  have := steps_l0 (n := n) (K := fun y2 => some y2) (x := x) (s := s) h.dl h.door12 n 0 0 (by have := h.dl; omega) (by decide)
  simp only [Int.natCast_zero, List.drop_zero] at this
  exact this
theorem stepsN_lt {N : Int} {ds : List (Int × Int × Int)} {ks : List Int} (h : VM N ds ks) (x s : Int) : stepsN ds x s < 2 ^ 12 :=
  stepF_lt (by decide) fun d hd => by have := h.door12 d hd; omega
theorem stepsN_bit {N : Int} {ds : List (Int × Int × Int)} {ks : List Int} (h : VM N ds ks) (x s : Int) (y : Nat) : (stepsN ds x s).testBit y = openB ds x (y : Int) s := by
  unfold stepsN
  rw [stepF_bit fun d hd => by have := h.door12 d hd; omega]
  simp [openB]
/-- The bit of a step. -/
theorem steps_bit1 {N : Int} {ds : List (Int × Int × Int)} {ks : List Int} (h : VM N ds ks) (x s y : Int) (h1 : 0 ≤ y) (h2 : y ≤ 12) : decide (bitAnd .i64 (shR .i64 ((stepsN ds x s : Nat) : Int) y) 1 = 1) = openB ds x y s := by
  have e : y = ((y.toNat : Nat) : Int) := by omega
  rw [e, bit_one (Nat.lt_trans (stepsN_lt h x s) (by decide)) (by omega), stepsN_bit h]
theorem steps_bit0 {N : Int} {ds : List (Int × Int × Int)} {ks : List Int} (h : VM N ds ks) (x s y : Int) (h1 : 0 ≤ y) (h2 : y ≤ 12) : decide (bitAnd .i64 (shR .i64 ((stepsN ds x s : Nat) : Int) y) 1 = 0) = !openB ds x y s := by
  have e : y = ((y.toNat : Nat) : Int) := by omega
  rw [e, bit_zero (Nat.lt_trans (stepsN_lt h x s) (by decide)) (by omega), stepsN_bit h]
end Go.Pv
