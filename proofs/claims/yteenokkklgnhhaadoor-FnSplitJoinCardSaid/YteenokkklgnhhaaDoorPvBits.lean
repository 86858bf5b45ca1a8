/- Plain laws about bits of numbers and about mazes: open doors, steps, nodes. -/
import Derived.Test.YteenokkklgnhhaaDoorPvIsMaze
set_option linter.unusedVariables false
set_option linter.unusedSimpArgs false
set_option autoImplicit false
namespace Go.Pv
open Go Go.Fx Go.Pf

theorem bitAnd_nat {a b : Nat} (ha : a < 2 ^ 63) (hb : b < 2 ^ 63) : bitAnd .i64 (a : Int) (b : Int) = ((a &&& b : Nat) : Int) := by
  unfold bitAnd
  show IntKind.wrap .i64 (((BitVec.ofInt 64 a &&& BitVec.ofInt 64 b).toNat : Nat) : Int) = _
  rw [BitVec.toNat_and, BitVec.ofInt_natCast, BitVec.ofInt_natCast, BitVec.toNat_ofNat, BitVec.toNat_ofNat, Nat.mod_eq_of_lt (by omega), Nat.mod_eq_of_lt (by omega)]
  have : a &&& b ≤ a := Nat.and_le_left
  exact w64 (by omega) (by omega)
theorem bitOr_nat {a b : Nat} (ha : a < 2 ^ 63) (hb : b < 2 ^ 63) : bitOr .i64 (a : Int) (b : Int) = ((a ||| b : Nat) : Int) := by
  unfold bitOr
  show IntKind.wrap .i64 (((BitVec.ofInt 64 a ||| BitVec.ofInt 64 b).toNat : Nat) : Int) = _
  rw [BitVec.toNat_or, BitVec.ofInt_natCast, BitVec.ofInt_natCast, BitVec.toNat_ofNat, BitVec.toNat_ofNat, Nat.mod_eq_of_lt (by omega), Nat.mod_eq_of_lt (by omega)]
  have : a ||| b < 2 ^ 63 := Nat.or_lt_two_pow ha hb
  exact w64 (by omega) (by omega)
def clrN (a b : Nat) : Nat := a &&& (2 ^ 64 - (b + 1))
theorem bitClr_nat {a b : Nat} (ha : a < 2 ^ 63) (hb : b < 2 ^ 63) : bitClr .i64 (a : Int) (b : Int) = ((clrN a b : Nat) : Int) := by
  unfold bitClr clrN
  show IntKind.wrap .i64 (((BitVec.ofInt 64 a &&& ~~~ (BitVec.ofInt 64 b)).toNat : Nat) : Int) = _
  rw [BitVec.toNat_and, BitVec.toNat_not, BitVec.ofInt_natCast, BitVec.ofInt_natCast, BitVec.toNat_ofNat, BitVec.toNat_ofNat, Nat.mod_eq_of_lt (by omega), Nat.mod_eq_of_lt (by omega)]
  have e : 2 ^ 64 - 1 - b = 2 ^ 64 - (b + 1) := by omega
  rw [e]
  have : a &&& (2 ^ 64 - (b + 1)) ≤ a := Nat.and_le_left
  exact w64 (by omega) (by omega)
theorem clrN_bit {a b : Nat} (ha : a < 2 ^ 63) (hb : b < 2 ^ 63) (i : Nat) : (clrN a b).testBit i = (a.testBit i && !b.testBit i) := by
  unfold clrN
  rw [Nat.testBit_and, Nat.testBit_two_pow_sub_succ (by omega)]
  by_cases h : i < 64
  · simp [h]
  · have : a.testBit i = false := Nat.testBit_lt_two_pow (Nat.lt_of_lt_of_le ha (Nat.pow_le_pow_right (by omega) (by omega)))
    simp [this]
theorem clrN_lt {a b m : Nat} (h : a < m) : clrN a b < m := Nat.lt_of_le_of_lt Nat.and_le_left h
theorem shL_nat {a k : Nat} (hk : k ≤ 62) (h : a * 2 ^ k < 2 ^ 63) : shL .i64 (a : Int) (k : Int) = ((a * 2 ^ k : Nat) : Int) := by
  unfold shL
  have e : min (k : Int).toNat (IntKind.bits .i64) = k := by
    show min (k : Int).toNat 64 = k
    omega
  rw [e]
  have e2 : (a : Int) * 2 ^ k = ((a * 2 ^ k : Nat) : Int) := by simp
  rw [e2]
  exact w64 (by omega) (by omega)
theorem shL_one {k : Nat} (hk : k ≤ 62) : shL .i64 1 (k : Int) = ((2 ^ k : Nat) : Int) := by
  have h : 2 ^ k < 2 ^ 63 := Nat.pow_lt_pow_right (by omega) (by omega)
  have := shL_nat (a := 1) hk (by omega)
  simpa using this
theorem shR_nat {a k : Nat} (hk : k ≤ 64) : shR .i64 (a : Int) (k : Int) = ((a >>> k : Nat) : Int) := by
  unfold shR
  have e : min (k : Int).toNat (IntKind.bits .i64) = k := by
    show min (k : Int).toNat 64 = k
    omega
  rw [e, Nat.shiftRight_eq_div_pow]
  rw [Int.fdiv_eq_ediv_of_nonneg _ (by exact_mod_cast Nat.zero_le (2 ^ k))]
  simp
theorem bitAnd_one {a : Nat} (ha : a < 2 ^ 63) : bitAnd .i64 (a : Int) 1 = ((a % 2 : Nat) : Int) := by
  have := bitAnd_nat (b := 1) ha (by decide)
  rw [Nat.and_one_is_mod] at this
  exact this
theorem bit_val {a k : Nat} (ha : a < 2 ^ 63) (hk : k ≤ 64) : bitAnd .i64 (shR .i64 (a : Int) (k : Int)) 1 = if a.testBit k then 1 else 0 := by
  rw [shR_nat hk, bitAnd_one (Nat.lt_of_le_of_lt (Nat.shiftRight_le a k) ha)]
  have : a.testBit k = decide (a >>> k % 2 = 1) := by
    rw [Nat.testBit_eq_decide_div_mod_eq, Nat.shiftRight_eq_div_pow]
  rw [this]
  by_cases h : a >>> k % 2 = 1
  · simp [h]
  · have : a >>> k % 2 = 0 := by omega
    simp [this]
theorem bit_one {a k : Nat} (ha : a < 2 ^ 63) (hk : k ≤ 64) : decide (bitAnd .i64 (shR .i64 (a : Int) (k : Int)) 1 = 1) = a.testBit k := by
  rw [bit_val ha hk]
  cases a.testBit k <;> simp
theorem bit_zero {a k : Nat} (ha : a < 2 ^ 63) (hk : k ≤ 64) : decide (bitAnd .i64 (shR .i64 (a : Int) (k : Int)) 1 = 0) = !a.testBit k := by
  rw [bit_val ha hk]
  cases a.testBit k <;> simp

/-! ### Mazes -/
structure VM (N : Int) (ds : List (Int × Int × Int)) (ks : List Int) : Prop where
  n1 : 1 ≤ N
  n2 : N ≤ 12
  dl : ds.length ≤ 30
  kl : (ks.length : Int) = N
  door : ∀ d ∈ ds, 0 ≤ d.1 ∧ d.1 < d.2.1 ∧ d.2.1 < N ∧ 0 ≤ d.2.2 ∧ d.2.2 ≤ 63
  sorted : ∀ i, i + 1 < ds.length → lex3 (ds.getD i (0, 0, 0)) (ds.getD (i + 1) (0, 0, 0)) = true
  keys : ∀ k ∈ ks, 0 ≤ k ∧ k ≤ 63

theorem nin_false {x lo hi : Int} (h : lo ≤ x ∧ x ≤ hi) : (!(decide (lo ≤ x) && decide (x ≤ hi))) = false := by simp [h.1, h.2]
theorem nin_true {x lo hi : Int} (h : ¬ (lo ≤ x ∧ x ≤ hi)) : (!(decide (lo ≤ x) && decide (x ≤ hi))) = true := by
  by_cases h1 : lo ≤ x
  · have : ¬ x ≤ hi := fun h2 => h ⟨h1, h2⟩
    simp [this]
  · simp [h1]
theorem setB_iff {x : Int} : setB x = true ↔ 0 ≤ x ∧ x ≤ 63 := by simp [setB]

end Go.Pv
