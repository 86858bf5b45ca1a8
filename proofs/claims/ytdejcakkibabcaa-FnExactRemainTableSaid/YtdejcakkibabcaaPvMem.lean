/- Plain laws: members of a set of bits. -/
import Derived.Test.YtdejcakkibabcaaPvSteps
set_option linter.unusedVariables false
set_option linter.unusedSimpArgs false
set_option autoImplicit false
namespace Go.Pv
open Go Go.Fx Go.Pf

/-! ### Strictly ascending lists -/
def Asc (l : List Int) : Prop := l.Pairwise (· < ·)
theorem asc_ext : ∀ {l m : List Int}, Asc l → Asc m → (∀ x, x ∈ l ↔ x ∈ m) → l = m
  | [], [], _, _, _ => rfl
  | [], b :: m, _, _, h => by
    have := (h b).2 (by simp)
    cases this
  | a :: l, [], _, _, h => by
    have := (h a).1 (by simp)
    cases this
  | a :: l, b :: m, hl, hm, h => by
    unfold Asc at hl hm
    rw [List.pairwise_cons] at hl hm
    have hab : a = b := by
      have h1 := (h a).1 (by simp)
      have h2 := (h b).2 (by simp)
      rcases List.mem_cons.1 h1 with h1 | h1
      · exact h1
      · rcases List.mem_cons.1 h2 with h2 | h2
        · exact h2.symm
        · have := hm.1 a h1
          have := hl.1 b h2
          omega
    subst hab
    congr 1
    refine asc_ext hl.2 hm.2 fun x => ?_
    have := h x
    simp only [List.mem_cons] at this
    constructor
    · intro hx
      rcases this.1 (.inr hx) with rfl | h3
      · have := hl.1 x hx; omega
      · exact h3
    · intro hx
      rcases this.2 (.inr hx) with rfl | h3
      · have := hm.1 x hx; omega
      · exact h3
theorem asc_length : ∀ {l : List Int} {a b : Int}, Asc l → (∀ x ∈ l, a ≤ x ∧ x < b) → (l.length : Int) ≤ max (b - a) 0
  | [], a, b, _, _ => by simp; omega
  | x :: l, a, b, hl, h => by
    unfold Asc at hl
    rw [List.pairwise_cons] at hl
    have h1 := h x (by simp)
    have := asc_length (a := x + 1) (b := b) hl.2 fun y hy => by
      have := hl.1 y hy
      have := h y (by simp [hy])
      omega
    simp only [List.length_cons]
    omega

/-! ### Members of a set -/
def memF (S c k : Nat) : List Int := ((List.range' c k).filter fun i => S.testBit i).map fun i : Nat => (i : Int)
def memL (S : Nat) : List Int := memF S 0 12
theorem memF_succ (S c k : Nat) : memF S c (k + 1) = if S.testBit c = true then (c : Int) :: memF S (c + 1) k else memF S (c + 1) k := by
  unfold memF
  rw [List.range'_succ, List.filter_cons]
  split <;> simp
theorem memF_mem {S c k : Nat} {x : Int} : x ∈ memF S c k ↔ ∃ i : Nat, x = (i : Int) ∧ c ≤ i ∧ i < c + k ∧ S.testBit i = true := by
  unfold memF
  simp only [List.mem_map, List.mem_filter, List.mem_range'_1]
  constructor
  · rintro ⟨i, ⟨⟨h1, h2⟩, h3⟩, rfl⟩
    exact ⟨i, rfl, h1, h2, h3⟩
  · rintro ⟨i, rfl, h1, h2, h3⟩
    exact ⟨i, ⟨⟨h1, h2⟩, h3⟩, rfl⟩
theorem memF_asc : ∀ (S k c : Nat), Asc (memF S c k)
  | S, 0, c => by simp [memF, Asc]
  | S, k + 1, c => by
    rw [memF_succ]
    have ih := memF_asc S k (c + 1)
    split
    · unfold Asc at *
      rw [List.pairwise_cons]
      refine ⟨fun x hx => ?_, ih⟩
      obtain ⟨i, rfl, h1, _, _⟩ := memF_mem.1 hx
      omega
    · exact ih
theorem memL_mem {S : Nat} (h : S < 2 ^ 12) {x : Int} : x ∈ memL S ↔ ∃ i : Nat, x = (i : Int) ∧ S.testBit i = true := by
  unfold memL
  rw [memF_mem]
  constructor
  · rintro ⟨i, h1, _, _, h2⟩; exact ⟨i, h1, h2⟩
  · rintro ⟨i, h1, h2⟩
    refine ⟨i, h1, by omega, ?_, h2⟩
    rcases Nat.lt_or_ge i 12 with h3 | h3
    · omega
    · have : S.testBit i = false := Nat.testBit_lt_two_pow (Nat.lt_of_lt_of_le h (Nat.pow_le_pow_right (by omega) h3))
      rw [this] at h2; cases h2
theorem memL_asc (S : Nat) : Asc (memL S) := memF_asc S 12 0
theorem memF_length (S : Nat) : ∀ (k c : Nat), (memF S c k).length ≤ k
  | 0, c => by simp [memF]
  | k + 1, c => by
    rw [memF_succ]
    have := memF_length S k (c + 1)
    split
    · simp; omega
    · omega
theorem memL_length (S : Nat) : (memL S).length ≤ 12 := memF_length S 12 0
theorem memF_zero {S : Nat} : ∀ (k c : Nat), S >>> c = 0 → memF S c k = []
  | 0, c, _ => by simp [memF]
  | k + 1, c, h => by
    rw [memF_succ, memF_zero k (c + 1) (by rw [Nat.shiftRight_add, h]; rfl)]
    have : S.testBit c = false := by
      rw [Nat.testBit_eq_decide_div_mod_eq, ← Nat.shiftRight_eq_div_pow, h]; rfl
    rw [this]; rfl

theorem members_l0 {n : Nat} {K : List Int → Option (List Int)} {S : Nat} (hS : S < 2 ^ 12) : ∀ (j c : Nat) (out : List Int), c ≤ 12 → 12 - c < j → out.length ≤ c →
    impl_members.l0 n K j (S : Int) out (c : Int) = K (out ++ memF S c (12 - c))
  | 0, c, out, _, h, _ => by omega
  | j + 1, c, out, hc, h, ho => by
    rw [impl_members.l0]
    have p12 : (2 : Nat) ^ 12 = 4096 := by decide
    have p63 : (2 : Nat) ^ 63 = 9223372036854775808 := by decide
    rw [if_neg (by omega), shR_nat (by omega)]
    by_cases c1 : S >>> c = 0
    · rw [if_neg (by rw [c1]; simp), memF_zero _ _ c1]
      simp
    · have hlt : c < 12 := by
        rcases Nat.lt_or_ge c 12 with h | h
        · exact h
        · exfalso
          apply c1
          rw [Nat.shiftRight_eq_div_pow]
          exact Nat.div_eq_of_lt (Nat.lt_of_lt_of_le hS (Nat.pow_le_pow_right (by omega) h))
      have k1 : decide (((S >>> c : Nat) : Int) > 0) = true := by
        have : 0 < S >>> c := Nat.pos_of_ne_zero c1
        rw [decide_eq_true_eq]
        exact_mod_cast this
      have wi : IntKind.wrap .i64 ((c : Int) + 1) = ((c + 1 : Nat) : Int) := by rw [w64s (by omega) (by omega)]; omega
      have hb := bit_one (a := S) (k := c) (by omega) (by omega)
      rw [shR_nat (by omega)] at hb
      have e : 12 - c = (12 - (c + 1)) + 1 := by omega
      rw [if_pos k1, if_neg (by omega), hb, wi, e, memF_succ]
      have hlen : out.length + ([(c : Int)] : List Int).length ≤ 4398046511104 := by simp; omega
      cases S.testBit c with
      | true =>
        simp only [if_true, if_pos hlen]
        rw [members_l0 hS j (c + 1) (out ++ [(c : Int)]) (by omega) (by omega) (by simp; omega)]
        simp
      | false =>
        simp only [Bool.false_eq_true, if_false]
        rw [members_l0 hS j (c + 1) out (by omega) (by omega) (by omega)]
theorem members_eq {n S : Nat} (hn : 40 ≤ n) (hS : S < 2 ^ 12) : impl_members.F n (S : Int) = some (memL S) := by
  unfold impl_members.F
  have := members_l0 (n := n) (K := fun y1 => some y1) hS n 0 [] (by omega) (by omega) (by simp)
  simpa [memL] using this

/-! ### Sets of bits by a predicate -/
def maskF (p : Nat → Bool) : Nat → Nat
  | 0 => 0
  | k + 1 => if p k then maskF p k ||| 2 ^ k else maskF p k
def maskP (p : Nat → Bool) : Nat := maskF p 12
theorem maskF_bit (p : Nat → Bool) : ∀ (k i : Nat), (maskF p k).testBit i = (decide (i < k) && p i)
  | 0, i => by simp [maskF]
  | k + 1, i => by
    unfold maskF
    by_cases e : i = k
    · subst e
      split
      · rename_i h; simp [Nat.testBit_or, Nat.testBit_two_pow, h]
      · rename_i h
        rw [maskF_bit p i i]
        simp [h]
    · have e2 : (decide (i < k + 1)) = decide (i < k) := by rw [decide_eq_decide]; omega
      have e3 : ¬ k = i := fun h => e h.symm
      rw [e2]
      split
      · rw [Nat.testBit_or, maskF_bit p k i, Nat.testBit_two_pow]
        simp [e3]
      · exact maskF_bit p k i
theorem maskP_bit (p : Nat → Bool) (i : Nat) : (maskP p).testBit i = (decide (i < 12) && p i) := maskF_bit p 12 i
theorem lt12_of_bits {S : Nat} (h : ∀ i, S.testBit i = true → i < 12) : S < 2 ^ 12 := by
  apply Nat.lt_pow_two_of_testBit
  intro i hi
  cases hb : S.testBit i with
  | false => rfl
  | true => have := h i hb; omega
theorem maskP_lt (p : Nat → Bool) : maskP p < 2 ^ 12 := lt12_of_bits fun i hi => by
  rw [maskP_bit] at hi
  simp at hi
  exact hi.1


theorem openB_range {N : Int} {ds : List (Int × Int × Int)} {ks : List Int} (h : VM N ds ks) {x y s : Int} (ho : openB ds x y s = true) : 0 ≤ x ∧ x < N ∧ 0 ≤ y ∧ y < N := by
  unfold openB at ho
  obtain ⟨d, hd, h1⟩ := List.any_eq_true.1 ho
  have := h.door d hd
  simp only [joinB, Bool.and_eq_true, Bool.or_eq_true, decide_eq_true_eq] at h1
  omega
end Go.Pv
