/- Plain laws about bits of numbers and about mazes: open doors, steps, nodes. -/
import Derived.Test.YtdejcakkibabcaaPvIsMaze
set_option linter.unusedVariables false
set_option linter.unusedSimpArgs false
set_option autoImplicit false
namespace Go.Pv
open Go Go.Fx Go.Pf

theorem bitAnd_nat {a b : Nat} (ha : a < 2 ^ 63) (hb : b < 2 ^ 63) : bitAnd .i64 (a : Int) (b : Int) = ((a &&& b : Nat) : Int) := by
  unfold bitAnd
  show IntKind.wrap .i64 (((BitVec.ofInt 64 a &&& BitVec.ofInt 64 b).toNat : Nat) : Int) = _
  rw [BitVec.toNat_and, BitVec.ofInt_natCast, BitVec.ofInt_natCast, BitVec.toNat_ofNat, BitVec.toNat_ofNat, Nat.mod_eq_of_lt (by omega), Nat.mod_eq_of_lt (by omega)]
  have : a &&& b ≤ a := Nat.and_le_left
  exact w64 (by omega) (by omega)
theorem bitOr_nat {a b : Nat} (ha : a < 2 ^ 63) (hb : b < 2 ^ 63) : bitOr .i64 (a : Int) (b : Int) = ((a ||| b : Nat) : Int) := by
  unfold bitOr
  show IntKind.wrap .i64 (((BitVec.ofInt 64 a ||| BitVec.ofInt 64 b).toNat : Nat) : Int) = _
  rw [BitVec.toNat_or, BitVec.ofInt_natCast, BitVec.ofInt_natCast, BitVec.toNat_ofNat, BitVec.toNat_ofNat, Nat.mod_eq_of_lt (by omega), Nat.mod_eq_of_lt (by omega)]
  have : a ||| b < 2 ^ 63 := Nat.or_lt_two_pow ha hb
  exact w64 (by omega) (by omega)
def clrN (a b : Nat) : Nat := a &&& (2 ^ 64 - (b + 1))
theorem bitClr_nat {a b : Nat} (ha : a < 2 ^ 63) (hb : b < 2 ^ 63) : bitClr .i64 (a : Int) (b : Int) = ((clrN a b : Nat) : Int) := by
  unfold bitClr clrN
  show IntKind.wrap .i64 (((BitVec.ofInt 64 a &&& ~~~ (BitVec.ofInt 64 b)).toNat : Nat) : Int) = _
  rw [BitVec.toNat_and, BitVec.toNat_not, BitVec.ofInt_natCast, BitVec.ofInt_natCast, BitVec.toNat_ofNat, BitVec.toNat_ofNat, Nat.mod_eq_of_lt (by omega), Nat.mod_eq_of_lt (by omega)]
  have e : 2 ^ 64 - 1 - b = 2 ^ 64 - (b + 1) := by omega
  rw [e]
  have : a &&& (2 ^ 64 - (b + 1)) ≤ a := Nat.and_le_left
  exact w64 (by omega) (by omega)
theorem clrN_bit {a b : Nat} (ha : a < 2 ^ 63) (hb : b < 2 ^ 63) (i : Nat) : (clrN a b).testBit i = (a.testBit i && !b.testBit i) := by
  unfold clrN
  rw [Nat.testBit_and, Nat.testBit_two_pow_sub_succ (by omega)]
  by_cases h : i < 64
  · simp [h]
  · have : a.testBit i = false := Nat.testBit_lt_two_pow (Nat.lt_of_lt_of_le ha (Nat.pow_le_pow_right (by omega) (by omega)))
    simp [this]
theorem clrN_lt {a b m : Nat} (h : a < m) : clrN a b < m := Nat.lt_of_le_of_lt Nat.and_le_left h
theorem shL_nat {a k : Nat} (hk : k ≤ 62) (h : a * 2 ^ k < 2 ^ 63) : shL .i64 (a : Int) (k : Int) = ((a * 2 ^ k : Nat) : Int) := by
  unfold shL
  have e : min (k : Int).toNat (IntKind.bits .i64) = k := by
    show min (k : Int).toNat 64 = k
    omega
  rw [e]
  have e2 : (a : Int) * 2 ^ k = ((a * 2 ^ k : Nat) : Int) := by simp
  rw [e2]
  exact w64 (by omega) (by omega)
theorem shL_one {k : Nat} (hk : k ≤ 62) : shL .i64 1 (k : Int) = ((2 ^ k : Nat) : Int) := by
  have h : 2 ^ k < 2 ^ 63 := Nat.pow_lt_pow_right (by omega) (by omega)
  have := shL_nat (a := 1) hk (by omega)
  simpa using this
theorem shR_nat {a k : Nat} (hk : k ≤ 64) : shR .i64 (a : Int) (k : Int) = ((a >>> k : Nat) : Int) := by
  unfold shR
  have e : min (k : Int).toNat (IntKind.bits .i64) = k := by
    show min (k : Int).toNat 64 = k
    omega
  rw [e, Nat.shiftRight_eq_div_pow]
  rw [Int.fdiv_eq_ediv_of_nonneg _ (by exact_mod_cast Nat.zero_le (2 ^ k))]
  simp
theorem bitAnd_one {a : Nat} (ha : a < 2 ^ 63) : bitAnd .i64 (a : Int) 1 = ((a % 2 : Nat) : Int) := by
  have := bitAnd_nat (b := 1) ha (by decide)
  rw [Nat.and_one_is_mod] at this
  exact this
theorem bit_val {a k : Nat} (ha : a < 2 ^ 63) (hk : k ≤ 64) : bitAnd .i64 (shR .i64 (a : Int) (k : Int)) 1 = if a.testBit k then 1 else 0 := by
  rw [shR_nat hk, bitAnd_one (Nat.lt_of_le_of_lt (Nat.shiftRight_le a k) ha)]
  have : a.testBit k = decide (a >>> k % 2 = 1) := by
    rw [Nat.testBit_eq_decide_div_mod_eq, Nat.shiftRight_eq_div_pow]
  rw [this]
  by_cases h : a >>> k % 2 = 1
  · simp [h]
  · have : a >>> k % 2 = 0 := by omega
    simp [this]
theorem bit_one {a k : Nat} (ha : a < 2 ^ 63) (hk : k ≤ 64) : decide (bitAnd .i64 (shR .i64 (a : Int) (k : Int)) 1 = 1) = a.testBit k := by
  rw [bit_val ha hk]
  cases a.testBit k <;> simp
theorem bit_zero {a k : Nat} (ha : a < 2 ^ 63) (hk : k ≤ 64) : decide (bitAnd .i64 (shR .i64 (a : Int) (k : Int)) 1 = 0) = !a.testBit k := by
  rw [bit_val ha hk]
  cases a.testBit k <;> simp

/-! ### Mazes -/
structure VM (N : Int) (ds : List (Int × Int × Int)) (ks : List Int) : Prop where
  n1 : 1 ≤ N
  n2 : N ≤ 12
  dl : ds.length ≤ 30
  kl : (ks.length : Int) = N
  door : ∀ d ∈ ds, 0 ≤ d.1 ∧ d.1 < d.2.1 ∧ d.2.1 < N ∧ 0 ≤ d.2.2 ∧ d.2.2 ≤ 63
  sorted : ∀ i, i + 1 < ds.length → lex3 (ds.getD i (0, 0, 0)) (ds.getD (i + 1) (0, 0, 0)) = true
  keys : ∀ k ∈ ks, 0 ≤ k ∧ k ≤ 63

theorem nin_false {x lo hi : Int} (h : lo ≤ x ∧ x ≤ hi) : (!(decide (lo ≤ x) && decide (x ≤ hi))) = false := by simp [h.1, h.2]
theorem nin_true {x lo hi : Int} (h : ¬ (lo ≤ x ∧ x ≤ hi)) : (!(decide (lo ≤ x) && decide (x ≤ hi))) = true := by
  by_cases h1 : lo ≤ x
  · have : ¬ x ≤ hi := fun h2 => h ⟨h1, h2⟩
    simp [this]
  · simp [h1]
theorem setB_iff {x : Int} : setB x = true ↔ 0 ≤ x ∧ x ≤ 63 := by simp [setB]

theorem doors_valid {n : Nat} {N : Int} (h1 : 1 ≤ N) (h2 : N ≤ 12) {ds : List (Int × Int × Int)} (hd : ds.length ≤ 30) {ks : List Int} {K : Int → List (Int × Int × Int) → List Int → Option Bool} {V : Prop} [Decidable V]
    (hV : V ↔ ((∀ d ∈ ds, 0 ≤ d.1 ∧ d.1 < d.2.1 ∧ d.2.1 < N ∧ 0 ≤ d.2.2 ∧ d.2.2 ≤ 63) ∧ ∀ i, i + 1 < ds.length → lex3 (ds.getD i (0, 0, 0)) (ds.getD (i + 1) (0, 0, 0)) = true)) :
    ∀ (j i : Nat), ds.length - i < j → (∀ m, m < i → m < ds.length → (0 ≤ (ds.getD m (0, 0, 0)).1 ∧ (ds.getD m (0, 0, 0)).1 < (ds.getD m (0, 0, 0)).2.1 ∧ (ds.getD m (0, 0, 0)).2.1 < N ∧ 0 ≤ (ds.getD m (0, 0, 0)).2.2 ∧ (ds.getD m (0, 0, 0)).2.2 ≤ 63)) →
    (∀ m, m + 1 < i → m + 1 < ds.length → lex3 (ds.getD m (0, 0, 0)) (ds.getD (m + 1) (0, 0, 0)) = true) → spec_l2Maze.l0 n K j N ds ks i = if V then K N ds ks else some false
  | 0, i, h, _, _ => by omega
  | j + 1, i, h, g1, g2 => by
    rw [spec_l2Maze.l0]
    by_cases c : (i : Int) < (ds.length : Int)
    · have ci : i < ds.length := by omega
      have k1 : decide ((i : Int) < (ds.length : Int)) = true := by simpa using c
      have k2 : 0 ≤ (i : Int) ∧ (i : Int) < (ds.length : Int) := ⟨by omega, c⟩
      have wi : IntKind.wrap .i64 ((i : Int) + 1) = ((i + 1 : Nat) : Int) := by rw [w64s (by omega) (by omega)]; omega
      have wN : IntKind.wrap .i64 (N - 1) = N - 1 := w64s (by omega) (by omega)
      simp only [if_pos k1, if_pos k2, l1In_eq, Option.bind_some, l2Set_eq, wi, wN]
      have hin : ds.getD (i : Int).toNat (0, 0, 0) ∈ ds := by
        have : (i : Int).toNat = i := by omega
        rw [this, List.getD_eq_getElem?_getD, List.getElem?_eq_getElem ci]
        exact List.getElem_mem ci
      have ei : (i : Int).toNat = i := by omega
      have noV : ¬ (0 ≤ (ds.getD i (0, 0, 0)).1 ∧ (ds.getD i (0, 0, 0)).1 < (ds.getD i (0, 0, 0)).2.1 ∧ (ds.getD i (0, 0, 0)).2.1 < N ∧ 0 ≤ (ds.getD i (0, 0, 0)).2.2 ∧ (ds.getD i (0, 0, 0)).2.2 ≤ 63) → ¬ V := by
        intro hn hv
        exact hn ((hV.1 hv).1 _ (by rw [ei] at hin; exact hin))
      by_cases c0 : (0 ≤ (ds.getD i (0, 0, 0)).1 ∧ (ds.getD i (0, 0, 0)).1 < (ds.getD i (0, 0, 0)).2.1 ∧ (ds.getD i (0, 0, 0)).2.1 < N ∧ 0 ≤ (ds.getD i (0, 0, 0)).2.2 ∧ (ds.getD i (0, 0, 0)).2.2 ≤ 63)
      · have g1' : ∀ m, m < i + 1 → m < ds.length → (0 ≤ (ds.getD m (0, 0, 0)).1 ∧ (ds.getD m (0, 0, 0)).1 < (ds.getD m (0, 0, 0)).2.1 ∧ (ds.getD m (0, 0, 0)).2.1 < N ∧ 0 ≤ (ds.getD m (0, 0, 0)).2.2 ∧ (ds.getD m (0, 0, 0)).2.2 ≤ 63) := by
          intro m hm hm2
          by_cases e : m = i
          · subst e; exact c0
          · exact g1 m (by omega) hm2
        have wp : IntKind.wrap .i64 ((ds.getD i (0, 0, 0)).1 + 1) = (ds.getD i (0, 0, 0)).1 + 1 := w64s (by omega) (by omega)
        have b1 : (!(decide (0 ≤ (ds.getD i (0, 0, 0)).1) && decide ((ds.getD i (0, 0, 0)).1 ≤ N - 1))) = false := nin_false ⟨by omega, by omega⟩
        have b2 : (!(decide ((ds.getD i (0, 0, 0)).1 + 1 ≤ (ds.getD i (0, 0, 0)).2.1) && decide ((ds.getD i (0, 0, 0)).2.1 ≤ N - 1))) = false := nin_false ⟨by omega, by omega⟩
        have b3 : (!setB (ds.getD i (0, 0, 0)).2.2) = false := by rw [setB_iff.2 ⟨c0.2.2.2.1, c0.2.2.2.2⟩]; rfl
        simp only [ei, b1, b2, b3, wp, Bool.false_eq_true, if_false]
        by_cases c4 : (i : Int) > 0
        · have g3 : decide ((i : Int) > 0) = true := by simpa using c4
          have g4 : IntKind.wrap .i64 ((i : Int) - 1) = (i : Int) - 1 := w64s (by omega) (by omega)
          have g5 : 0 ≤ (i : Int) - 1 ∧ (i : Int) - 1 < (ds.length : Int) := ⟨by omega, by omega⟩
          have e5 : ((i : Int) - 1).toNat = i - 1 := by omega
          simp only [if_pos g3, g4, if_pos g5, l2Before_eq, Option.bind_some, e5]
          cases c5 : lex3 (ds.getD (i - 1) (0, 0, 0)) (ds.getD i (0, 0, 0)) with
          | true =>
            simp only [Bool.not_true, Bool.false_eq_true, if_false]
            refine doors_valid h1 h2 hd hV j (i + 1) (by omega) g1' ?_
            intro m hm hm2
            by_cases e : m + 1 = i
            · have : m = i - 1 := by omega
              subst this
              have e3 : i - 1 + 1 = i := by omega
              rw [e3]; exact c5
            · exact g2 m (by omega) hm2
          | false =>
            have : ¬ V := by
              intro hv
              have := (hV.1 hv).2 (i - 1) (by omega)
              have e3 : i - 1 + 1 = i := by omega
              rw [e3, c5] at this
              cases this
            simp [this]
        · have g3 : ¬ decide ((i : Int) > 0) = true := by simpa using c4
          simp only [if_neg g3]
          exact doors_valid h1 h2 hd hV j (i + 1) (by omega) g1' (fun m hm hm2 => by omega)
      · have := noV c0
        rw [if_neg this, ei]
        by_cases c1 : 0 ≤ (ds.getD i (0, 0, 0)).1 ∧ (ds.getD i (0, 0, 0)).1 ≤ N - 1
        · have wp : IntKind.wrap .i64 ((ds.getD i (0, 0, 0)).1 + 1) = (ds.getD i (0, 0, 0)).1 + 1 := w64s (by omega) (by omega)
          have b1 : (!(decide (0 ≤ (ds.getD i (0, 0, 0)).1) && decide ((ds.getD i (0, 0, 0)).1 ≤ N - 1))) = false := nin_false ⟨by omega, by omega⟩
          simp only [b1, wp, Bool.false_eq_true, if_false]
          by_cases c2 : (ds.getD i (0, 0, 0)).1 + 1 ≤ (ds.getD i (0, 0, 0)).2.1 ∧ (ds.getD i (0, 0, 0)).2.1 ≤ N - 1
          · have b2 : (!(decide ((ds.getD i (0, 0, 0)).1 + 1 ≤ (ds.getD i (0, 0, 0)).2.1) && decide ((ds.getD i (0, 0, 0)).2.1 ≤ N - 1))) = false := nin_false ⟨by omega, by omega⟩
            have b3 : (!setB (ds.getD i (0, 0, 0)).2.2) = true := by
              cases hs : setB (ds.getD i (0, 0, 0)).2.2 with
              | false => rfl
              | true =>
                have := setB_iff.1 hs
                exact absurd ⟨c1.1, by omega, by omega, this.1, this.2⟩ c0
            simp only [b2, b3, Bool.false_eq_true, if_false, if_true]
          · have b2 : (!(decide ((ds.getD i (0, 0, 0)).1 + 1 ≤ (ds.getD i (0, 0, 0)).2.1) && decide ((ds.getD i (0, 0, 0)).2.1 ≤ N - 1))) = true := nin_true (by omega)
            simp only [b2, if_true]
        · have b1 : (!(decide (0 ≤ (ds.getD i (0, 0, 0)).1) && decide ((ds.getD i (0, 0, 0)).1 ≤ N - 1))) = true := nin_true (by omega)
          simp only [b1, if_true]
    · have k1 : ¬ decide ((i : Int) < (ds.length : Int)) = true := by simpa using c
      simp only [if_neg k1]
      rw [if_pos]
      refine hV.2 ⟨?_, ?_⟩
      · intro d hd
        obtain ⟨m, hm, rfl⟩ := List.getElem_of_mem hd
        have := g1 m (by omega) hm
        rw [List.getD_eq_getElem?_getD, List.getElem?_eq_getElem hm] at this
        exact this
      · intro m hm
        exact g2 m (by omega) hm

theorem keys_valid {n : Nat} {N : Int} {ds : List (Int × Int × Int)} {ks : List Int} (hk : (ks.length : Int) = N) (hN : N ≤ 12) {K : Unit → Option Bool} {V : Prop} [Decidable V] (hV : V ↔ ∀ k ∈ ks, 0 ≤ k ∧ k ≤ 63) :
    ∀ (j i : Nat), ks.length - i < j → (∀ m, m < i → m < ks.length → 0 ≤ ks.getD m 0 ∧ ks.getD m 0 ≤ 63) → spec_l2Maze.l2 n K j N ds ks i = if V then K () else some false
  | 0, i, h, _ => by omega
  | j + 1, i, h, g => by
    rw [spec_l2Maze.l2]
    by_cases c : (i : Int) < (ks.length : Int)
    · have ci : i < ks.length := by omega
      have ei : (i : Int).toNat = i := by omega
      have k1' : decide ((i : Int) < N) = true := by simp; omega
      have k2 : 0 ≤ (i : Int) ∧ (i : Int) < (ks.length : Int) := ⟨by omega, c⟩
      have wi : IntKind.wrap .i64 ((i : Int) + 1) = ((i + 1 : Nat) : Int) := by rw [w64s (by omega) (by omega)]; omega
      simp only [if_pos k1', if_pos k2, wi, l2Set_eq, Option.bind_some, ei]
      cases c3 : setB (ks.getD i 0) with
      | true =>
        simp only [Bool.not_true, Bool.false_eq_true, if_false]
        refine keys_valid hk hN hV j (i + 1) (by omega) fun m hm hm2 => ?_
        by_cases e : m = i
        · subst e; exact setB_iff.1 c3
        · exact g m (by omega) hm2
      | false =>
        have : ¬ V := by
          intro hv
          have := setB_iff.2 (hV.1 hv (ks.getD i 0) (by rw [List.getD_eq_getElem?_getD, List.getElem?_eq_getElem ci]; exact List.getElem_mem ci))
          rw [c3] at this
          cases this
        simp [this]
    · have k1' : ¬ decide ((i : Int) < N) = true := by simp; omega
      simp only [if_neg k1']
      rw [if_pos]
      refine hV.2 fun k hk2 => ?_
      obtain ⟨m, hm, rfl⟩ := List.getElem_of_mem hk2
      have := g m (by omega) hm
      rw [List.getD_eq_getElem?_getD, List.getElem?_eq_getElem hm] at this
      exact this

open Classical in
theorem l2Maze_val {n : Nat} (hn : 40 ≤ n) (N : Int) (ds : List (Int × Int × Int)) (ks : List Int) : spec_l2Maze.F n N ds ks = some (decide (VM N ds ks)) := by
  unfold spec_l2Maze.F
  simp only [l1In_eq, Option.bind_some]
  by_cases c1 : 1 ≤ N ∧ N ≤ 12
  · have hw : (!(decide (1 ≤ N) && decide (N ≤ 12))) = false := by simp [c1]
    simp only [hw, Bool.false_eq_true, if_false]
    by_cases c2 : (ds.length : Int) > 30
    · have : ¬ VM N ds ks := fun h => by have := h.dl; omega
      simp [c2, this]
    · simp only [decide_eq_true_eq, if_neg c2]
      by_cases c3 : (ks.length : Int) = N
      · have h3 : (!decide ((ks.length : Int) = N)) = false := by simp [c3]
        simp only [h3, Bool.false_eq_true, if_false]
        have hd := doors_valid (n := n) c1.1 c1.2 (ds := ds) (by omega) (ks := ks) (K := fun y6 y7 y8 => spec_l2Maze.l2 n (fun _ => some true) n y6 y7 y8 0) Iff.rfl n 0 (by omega) (fun m hm => by omega) (fun m hm => by omega)
        simp only [Int.natCast_zero] at hd
        rw [hd]
        by_cases c4 : ((∀ d ∈ ds, 0 ≤ d.1 ∧ d.1 < d.2.1 ∧ d.2.1 < N ∧ 0 ≤ d.2.2 ∧ d.2.2 ≤ 63) ∧ ∀ i, i + 1 < ds.length → lex3 (ds.getD i (0, 0, 0)) (ds.getD (i + 1) (0, 0, 0)) = true)
        · rw [if_pos c4]
          have hk := keys_valid (n := n) (ds := ds) c3 c1.2 (K := fun _ => some true) Iff.rfl n 0 (by omega) (fun m hm => by omega)
          simp only [Int.natCast_zero] at hk
          rw [hk]
          by_cases c5 : ∀ k ∈ ks, 0 ≤ k ∧ k ≤ 63
          · rw [if_pos c5]
            have : VM N ds ks := ⟨c1.1, c1.2, by omega, c3, c4.1, c4.2, c5⟩
            simp [this]
          · rw [if_neg c5]
            have : ¬ VM N ds ks := fun h => c5 h.keys
            simp [this]
        · rw [if_neg c4]
          have : ¬ VM N ds ks := fun h => c4 ⟨h.door, h.sorted⟩
          simp [this]
      · have : ¬ VM N ds ks := fun h => c3 h.kl
        simp [c3, this]
  · have : ¬ VM N ds ks := fun h => c1 ⟨h.n1, h.n2⟩
    have hw : (!(decide (1 ≤ N) && decide (N ≤ 12))) = true := by simp; omega
    simp [hw, this]

open Classical in
theorem IsMaze_val {n : Nat} (hn : 40 ≤ n) (N : Int) (ds : List (Int × Int × Int)) (ks : List Int) : impl_IsMaze.F n N ds ks = some (decide (VM N ds ks)) := by
  obtain ⟨b, h1, h2⟩ := isMaze_same hn N ds ks
  have h3 := h1
  rw [l2Maze_val hn] at h3
  rw [h2, ← h3]
end Go.Pv
