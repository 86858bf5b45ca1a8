/- Plain laws: nodes that can be entered next. -/
import Derived.Test.YtnnonephkmikmaaPvRounds
set_option linter.unusedVariables false
set_option linter.unusedSimpArgs false
set_option autoImplicit false
namespace Go.Pv
open Go Go.Fx Go.Pf

section
variable {n : Nat} {N : Int} {ds : List (Int × Int × Int)} {ks : List Int}
/-- A set of nodes. -/
def SN (N : Int) (c : Nat) : Prop := ∀ i : Nat, c.testBit i = true → (i : Int) < N
theorem SN.lt (h : VM N ds ks) {c : Nat} (hc : SN N c) : c < 2 ^ 12 := lt12_of_bits fun i hi => by
  have := hc i hi
  have := h.n2
  omega
theorem SN.mem (h : VM N ds ks) {c : Nat} (hc : SN N c) {x : Int} (hx : x ∈ memL c) : 0 ≤ x ∧ x < N := by
  obtain ⟨i, rfl, hb⟩ := (memL_mem (hc.lt h)).1 hx
  have := hc i hb
  omega
def keysC (ks : List Int) (c : Nat) : Nat := keysF ks 0 (memL c)
theorem keysC_lt (h : VM N ds ks) (c : Nat) : keysC ks c < 2 ^ 6 := keysF_lt h.keys (by decide)
/-- The nodes that can be entered behind some. -/
def nextsC (ds : List (Int × Int × Int)) (ks : List Int) (c : Nat) : Nat := maskP fun y => !c.testBit y && (memL c).any fun x => openB ds x (y : Int) ((keysC ks c : Nat) : Int)
theorem nextsC_bit (h : VM N ds ks) {c : Nat} (y : Nat) : (nextsC ds ks c).testBit y = (!c.testBit y && (memL c).any fun x => openB ds x (y : Int) ((keysC ks c : Nat) : Int)) := by
  unfold nextsC
  rw [maskP_bit]
  by_cases hy : y < 12
  · simp [hy]
  · have : ((memL c).any fun x => openB ds x (y : Int) ((keysC ks c : Nat) : Int)) = false := by
      rw [List.any_eq_false]
      intro x hx hb
      have := openB_range h hb
      have := h.n2
      omega
    rw [this]
    simp
theorem nextsC_SN (h : VM N ds ks) {c : Nat} : SN N (nextsC ds ks c) := by
  intro i hi
  rw [nextsC_bit h] at hi
  simp only [Bool.and_eq_true, List.any_eq_true] at hi
  obtain ⟨_, x, _, hb⟩ := hi
  have := openB_range h hb
  omega
theorem nextsC_lt (ds : List (Int × Int × Int)) (ks : List Int) (c : Nat) : nextsC ds ks c < 2 ^ 12 := maskP_lt _

theorem keysOf_l0 (h : VM N ds ks) {K : Int → Option Int} {l : List Int} (hl : l.length ≤ 12) (hx : ∀ x ∈ l, 0 ≤ x ∧ x < N) : ∀ (j i a : Nat), l.length - i < j → a < 2 ^ 6 →
    impl_keysOf.l0 n K j N ds ks (a : Int) l l.length i = K ((keysF ks a (l.drop i) : Nat) : Int)
  | 0, i, a, hj, _ => by omega
  | j + 1, i, a, hj, ha => by
    rw [impl_keysOf.l0]
    by_cases c : (i : Int) < (l.length : Int)
    · have ci : i < l.length := by omega
      have ei : (i : Int).toNat = i := by omega
      have k1 : decide ((i : Int) < (l.length : Int)) = true := by simpa using c
      have k2 : 0 ≤ (i : Int) ∧ (i : Int) < (l.length : Int) := ⟨by omega, c⟩
      have wi : IntKind.wrap .i64 ((i : Int) + 1) = ((i + 1 : Nat) : Int) := by rw [w64s (by omega) (by omega)]; omega
      have hm := hx _ (getD_mem (d := (0 : Int)) ci)
      have hkl := h.kl
      have k3 : 0 ≤ l.getD i 0 ∧ l.getD i 0 < (ks.length : Int) := ⟨hm.1, by omega⟩
      obtain ⟨o1, o2⟩ := key_or h hm ha
      rw [if_pos k1, if_pos k2, ei, if_pos k3, wi, o1, keysOf_l0 h hl hx j (i + 1) _ (by omega) o2, getD_drop (d := (0 : Int)) ci, keysF_cons]
    · have k1 : ¬ decide ((i : Int) < (l.length : Int)) = true := by simpa using c
      have : l.drop i = [] := List.drop_eq_nil_of_le (by omega)
      rw [if_neg k1, this]
      rfl
theorem keysOf_eq (hn : 40 ≤ n) (h : VM N ds ks) {c : Nat} (hc : SN N c) : impl_keysOf.F n N ds ks (c : Int) = some ((keysC ks c : Nat) : Int) := by
  unfold impl_keysOf.F
  have hml := memL_length c
  rw [members_eq hn (hc.lt h), Option.bind_some]
  have := keysOf_l0 (n := n) h (K := fun y2 => some y2) hml (fun x hx => hc.mem h hx) n 0 0 (by omega) (by decide)
  simpa [keysC] using this
def orF (ds : List (Int × Int × Int)) (k : Int) (a : Nat) (l : List Int) : Nat := l.foldl (fun a x => a ||| stepsN ds x k) a
theorem orF_lt (h : VM N ds ks) (k : Int) : ∀ (l : List Int) (a : Nat), a < 2 ^ 12 → orF ds k a l < 2 ^ 12
  | [], a, ha => ha
  | x :: l, a, ha => orF_lt h k l _ (Nat.or_lt_two_pow ha (stepsN_lt h x k))
theorem orF_bit (h : VM N ds ks) (k : Int) (y : Nat) : ∀ (l : List Int) (a : Nat), (orF ds k a l).testBit y = (a.testBit y || l.any fun x => openB ds x (y : Int) k)
  | [], a => by simp [orF]
  | x :: l, a => by
    have := orF_bit h k y l (a ||| stepsN ds x k)
    show (orF ds k (a ||| stepsN ds x k) l).testBit y = _
    rw [this, Nat.testBit_or, stepsN_bit h, List.any_cons, Bool.or_assoc]
theorem nexts_l0 (hn : 40 ≤ n) (h : VM N ds ks) {K : Int → Int → Option Int} {c k : Int} {l : List Int} (hl : l.length ≤ 12) : ∀ (j i a : Nat), l.length - i < j → a < 2 ^ 12 →
    impl_nexts.l0 n K j c N ds ks k (a : Int) l l.length i = K c ((orF ds k a (l.drop i) : Nat) : Int)
  | 0, i, a, hj, _ => by omega
  | j + 1, i, a, hj, ha => by
    rw [impl_nexts.l0]
    by_cases cc : (i : Int) < (l.length : Int)
    · have ci : i < l.length := by omega
      have ei : (i : Int).toNat = i := by omega
      have k1 : decide ((i : Int) < (l.length : Int)) = true := by simpa using cc
      have k2 : 0 ≤ (i : Int) ∧ (i : Int) < (l.length : Int) := ⟨by omega, cc⟩
      have wi : IntKind.wrap .i64 ((i : Int) + 1) = ((i + 1 : Nat) : Int) := by rw [w64s (by omega) (by omega)]; omega
      have p12 : (2 : Nat) ^ 12 < 2 ^ 63 := by decide
      have hs := stepsN_lt h (l.getD i 0) k
      rw [if_pos k1, if_pos k2, ei, steps_eq hn h, Option.bind_some, wi, bitOr_nat (by omega) (by omega), nexts_l0 hn h hl j (i + 1) _ (by omega) (Nat.or_lt_two_pow ha hs), getD_drop (d := (0 : Int)) ci]
      rfl
    · have k1 : ¬ decide ((i : Int) < (l.length : Int)) = true := by simpa using cc
      have : l.drop i = [] := List.drop_eq_nil_of_le (by omega)
      rw [if_neg k1, this]
      rfl
theorem nexts_eq (hn : 40 ≤ n) (h : VM N ds ks) {c : Nat} (hc : SN N c) : impl_nexts.F n N ds ks (c : Int) = some ((nextsC ds ks c : Nat) : Int) := by
  unfold impl_nexts.F
  have hml := memL_length c
  rw [keysOf_eq hn h hc, Option.bind_some, members_eq hn (hc.lt h), Option.bind_some]
  have := nexts_l0 (n := n) hn h (K := fun y4 y5 => some (bitClr .i64 y5 y4)) (c := (c : Int)) (k := ((keysC ks c : Nat) : Int)) hml n 0 0 (by omega) (by decide)
  simp only [Int.natCast_zero, List.drop_zero] at this
  rw [this]
  have p12 : (2 : Nat) ^ 12 < 2 ^ 63 := by decide
  have hcl := hc.lt h
  have hol := orF_lt h ((keysC ks c : Nat) : Int) (memL c) 0 (by decide)
  rw [bitClr_nat (by omega) (by omega)]
  congr 2
  apply Nat.eq_of_testBit_eq
  intro y
  rw [clrN_bit (by omega) (by omega), orF_bit h, nextsC_bit h]
  simp [Bool.and_comm]

/-! ### The reference -/
theorem l5Next_l0 (h : VM N ds ks) {K : Int → Int → List (Int × Int × Int) → List Int → List Int → Int → Option (List Int)} {c : Nat} (hc : SN N c) {o : List Int} : ∀ (j x a : Nat), N.toNat - x < j → (x : Int) ≤ N → a < 2 ^ 6 →
    spec_l5Next.l0 n K j c N ds ks o (a : Int) x = K c N ds ks o ((keysF ks a (memF c x (N.toNat - x)) : Nat) : Int)
  | 0, x, a, hj, _, _ => by omega
  | j + 1, x, a, hj, hx, ha => by
    rw [spec_l5Next.l0]
    have h1 := h.n1
    have h2 := h.n2
    have p12 : (2 : Nat) ^ 12 < 2 ^ 63 := by decide
    have hcl := hc.lt h
    by_cases cc : (x : Int) < N
    · have k1 : decide ((x : Int) < N) = true := by simpa using cc
      have hkl := h.kl
      have k2 : 0 ≤ (x : Int) ∧ (x : Int) < (ks.length : Int) := ⟨by omega, by omega⟩
      have wx : IntKind.wrap .i64 ((x : Int) + 1) = ((x + 1 : Nat) : Int) := by rw [w64s (by omega) (by omega)]; omega
      have e : N.toNat - x = (N.toNat - (x + 1)) + 1 := by omega
      obtain ⟨o1, o2⟩ := key_or h (x := (x : Int)) ⟨by omega, cc⟩ ha
      rw [if_pos k1, if_neg (by omega), bit_one (by omega) (by omega), if_pos k2, wx, o1, l5Next_l0 h hc j (x + 1) _ (by omega) (by omega) o2, l5Next_l0 h hc j (x + 1) a (by omega) (by omega) ha, e, memF_succ]
      cases c.testBit x with
      | true => rfl
      | false => rfl
    · have k1 : ¬ decide ((x : Int) < N) = true := by simpa using cc
      have e : N.toNat - x = 0 := by omega
      rw [if_neg k1, e]
      rfl
theorem memF_cut' {S : Nat} : ∀ (k m c : Nat), (∀ i, c + k ≤ i → S.testBit i = false) → memF S c (k + m) = memF S c k
  | 0, 0, c, h => rfl
  | 0, m + 1, c, h => by
    have hz : S.testBit c = false := h c (by omega)
    have := memF_cut' 0 m (c + 1) (fun i hi => h i (by omega))
    rw [show 0 + (m + 1) = (0 + m) + 1 by omega, memF_succ, hz, this]
    simp [memF]
  | k + 1, m, c, h => by
    have ih := memF_cut' k m (c + 1) (fun i hi => h i (by omega))
    rw [show k + 1 + m = (k + m) + 1 by omega, memF_succ, memF_succ, ih]
theorem memL_N (h : VM N ds ks) {c : Nat} (hc : SN N c) : memL c = memF c 0 N.toNat := by
  have h1 := h.n1
  have h2 := h.n2
  unfold memL
  rw [show (12 : Nat) = N.toNat + (12 - N.toNat) by omega]
  apply memF_cut'
  intro i hi
  cases hb : c.testBit i with
  | false => rfl
  | true =>
    have := hc i hb
    omega
theorem l5Next_l4 (h : VM N ds ks) {K : Int → Int → List (Int × Int × Int) → List Int → List Int → Int → Int → Option (List Int)} {c : Nat} (hc : SN N c) {o : List Int} (ho : o.length ≤ 100) {k : Int} {y : Nat} (hy : (y : Int) < N) (hn : 40 ≤ n) : ∀ (j x : Nat), N.toNat - x < j → (x : Int) ≤ N →
    spec_l5Next.l4 n K j c N ds ks o k y x = K c N ds ks (if (!c.testBit y && (memF c x (N.toNat - x)).any fun z => openB ds z (y : Int) k) = true then o ++ [(y : Int)] else o) k y
  | 0, x, hj, _ => by omega
  | j + 1, x, hj, hx => by
    rw [spec_l5Next.l4]
    have h1 := h.n1
    have h2 := h.n2
    have p12 : (2 : Nat) ^ 12 < 2 ^ 63 := by decide
    have hcl := hc.lt h
    by_cases cc : (x : Int) < N
    · have k1 : decide ((x : Int) < N) = true := by simpa using cc
      have wx : IntKind.wrap .i64 ((x : Int) + 1) = ((x + 1 : Nat) : Int) := by rw [w64s (by omega) (by omega)]; omega
      have e : N.toNat - x = (N.toNat - (x + 1)) + 1 := by omega
      have k3 : o.length + ([(y : Int)] : List Int).length ≤ 4398046511104 := by simp only [List.length_singleton]; omega
      have nx : ¬ (x : Int) < 0 := by omega
      have ny : ¬ (y : Int) < 0 := by omega
      rw [if_pos k1, if_neg ny, bit_zero (by omega) (by omega), e, memF_succ]
      simp only [if_neg nx, bit_one (a := c) (k := x) (by omega) (by omega), wx]
      rw [l2Open_eq (by have := h.dl; omega) (by have := h.dl; omega)]
      simp only [Option.bind_some, if_pos k3]
      rw [l5Next_l4 h hc ho hy hn j (x + 1) (by omega) (by omega)]
      cases hb : c.testBit y with
      | true => simp
      | false =>
        cases c.testBit x with
        | false => simp
        | true =>
          cases hop : openB ds (x : Int) (y : Int) k with
          | true => simp [hop]
          | false => simp [hop]
    · have k1 : ¬ decide ((x : Int) < N) = true := by simpa using cc
      have e : N.toNat - x = 0 := by omega
      rw [if_neg k1, e]
      simp [memF]
theorem l5Next_l2 (hn : 40 ≤ n) (h : VM N ds ks) {K : List Int → Option (List Int)} {c : Nat} (hc : SN N c) : ∀ (j y : Nat) (o : List Int), N.toNat - y < j → (y : Int) ≤ N → o.length ≤ y →
    spec_l5Next.l2 n K j c N ds ks o ((keysC ks c : Nat) : Int) y = K (o ++ memF (nextsC ds ks c) y (N.toNat - y))
  | 0, y, o, hj, _, _ => by omega
  | j + 1, y, o, hj, hy, ho => by
    rw [spec_l5Next.l2]
    have h1 := h.n1
    have h2 := h.n2
    by_cases cc : (y : Int) < N
    · have k1 : decide ((y : Int) < N) = true := by simpa using cc
      have wy : IntKind.wrap .i64 ((y : Int) + 1) = ((y + 1 : Nat) : Int) := by rw [w64s (by omega) (by omega)]; omega
      have e : N.toNat - y = (N.toNat - (y + 1)) + 1 := by omega
      have e4 := l5Next_l4 (n := n) h (K := fun y8 y9 y10 y11 y12 y13 y14 => spec_l5Next.l2 n K j y8 y9 y10 y11 y12 y13 (IntKind.wrap .i64 (y14 + (1 : Int)))) hc (o := o) (by omega) (k := ((keysC ks c : Nat) : Int)) cc hn n 0 (by omega) (by omega)
      simp only [Int.natCast_zero, Nat.sub_zero] at e4
      have hcond : (!c.testBit y && (memF c 0 N.toNat).any fun z => openB ds z (y : Int) ((keysC ks c : Nat) : Int)) = (nextsC ds ks c).testBit y := by rw [nextsC_bit h, memL_N h hc]
      rw [if_pos k1, e4, wy]
      simp only [Nat.sub_zero, hcond]
      rw [e, memF_succ]
      cases (nextsC ds ks c).testBit y with
      | true =>
        rw [if_pos rfl, if_pos rfl, l5Next_l2 hn h hc j (y + 1) _ (by omega) (by omega) (by simp; omega)]
        simp
      | false =>
        rw [if_neg (by simp), if_neg (by simp), l5Next_l2 hn h hc j (y + 1) _ (by omega) (by omega) (by omega)]
    · have k1 : ¬ decide ((y : Int) < N) = true := by simpa using cc
      have e : N.toNat - y = 0 := by omega
      rw [if_neg k1, e]
      simp [memF]
theorem l5Next_eq (hn : 40 ≤ n) (h : VM N ds ks) {c : Nat} (hc : SN N c) : spec_l5Next.F n N ds ks (c : Int) = some (memL (nextsC ds ks c)) := by
  unfold spec_l5Next.F
  have h1 := h.n1
  have h2 := h.n2
  have e0 := l5Next_l0 (n := n) h (K := fun y1 y2 y3 y4 y5 y6 => spec_l5Next.l2 n (fun y15 => some y15) n y1 y2 y3 y4 y5 y6 (0 : Int)) hc (o := []) n 0 0 (by omega) (by omega) (by decide)
  simp only [Int.natCast_zero, Nat.sub_zero] at e0
  rw [e0, ← memL_N h hc]
  have e2 := l5Next_l2 hn h (K := fun y15 => some y15) hc n 0 [] (by omega) (by omega) (by simp)
  simp only [Int.natCast_zero, Nat.sub_zero, List.nil_append] at e2
  have hk : keysF ks 0 (memL c) = keysC ks c := rfl
  rw [hk, e2, ← memL_N h (nextsC_SN h)]
theorem SN_or {a b : Nat} (ha : SN N a) (hb : SN N b) : SN N (a ||| b) := by
  intro i hi
  rw [Nat.testBit_or, Bool.or_eq_true] at hi
  rcases hi with h | h
  · exact ha i h
  · exact hb i h
theorem SN_bit {x : Nat} (hx : (x : Int) < N) : SN N (2 ^ x) := by
  intro i hi
  rw [Nat.testBit_two_pow] at hi
  have : x = i := by simpa using hi
  omega
theorem shl_node (h : VM N ds ks) {x : Int} (hx : 0 ≤ x ∧ x < N) : shL .i64 1 x = ((2 ^ x.toNat : Nat) : Int) ∧ SN N (2 ^ x.toNat) := by
  have h2 := h.n2
  have e : x = ((x.toNat : Nat) : Int) := by omega
  refine ⟨?_, SN_bit (by omega)⟩
  conv => lhs; rw [e]
  exact shL_one (by omega)
theorem or_nodes (h : VM N ds ks) {a b : Nat} (ha : SN N a) (hb : SN N b) : bitOr .i64 (a : Int) (b : Int) = ((a ||| b : Nat) : Int) := by
  have p12 : (2 : Nat) ^ 12 < 2 ^ 63 := by decide
  have := ha.lt h
  have := hb.lt h
  exact bitOr_nat (by omega) (by omega)
theorem next_mem (h : VM N ds ks) {c : Nat} {x : Int} (hx : 0 ≤ x) : decide (x ∈ memL (nextsC ds ks c)) = (nextsC ds ks c).testBit x.toNat := mem_memL (nextsC_lt _ _ _) hx

/-! ### Entry orders -/
theorem order_loop (hn : 2000000 ≤ n) (h : VM N ds ks) {ws : List Int} (hw : ws.length ≤ 1048576) {K : Int → Option (Int × Bool)} {K' : List Int → Int → Option (Int × Bool)} : ∀ (j j' i c : Nat), ws.length - i < j → ws.length - i < j' → 0 < i → i ≤ ws.length → SN N c →
    ∃ r : Option Nat, spec_l5Order.l0 n K j ws N ds ks (c : Int) i = (match r with | some d => K d | none => some (0, false)) ∧ impl_isEntryOrder.l0 n K' j' ws N ds ks (c : Int) ws.length i = (match r with | some d => K' ws d | none => some (0, false))
  | 0, j', i, c, hj, _, _, _, _ => by omega
  | j + 1, 0, i, c, _, hj, _, _, _ => by omega
  | j + 1, j' + 1, i, c, hj, hj', hi0, hi, hc => by
    rw [spec_l5Order.l0, impl_isEntryOrder.l0]
    have h1 := h.n1
    have h2 := h.n2
    by_cases cc : (i : Int) < (ws.length : Int)
    · have ci : i < ws.length := by omega
      have ei : (i : Int).toNat = i := by omega
      have k1 : decide ((i : Int) < (ws.length : Int)) = true := by simpa using cc
      have k2 : 0 ≤ (i : Int) ∧ (i : Int) < (ws.length : Int) := ⟨by omega, cc⟩
      have wi : IntKind.wrap .i64 ((i : Int) + 1) = ((i + 1 : Nat) : Int) := by rw [w64s (by omega) (by omega)]; omega
      have wN : IntKind.wrap .i64 (N - 1) = N - 1 := w64s (by omega) (by omega)
      have g0 : ¬ decide ((i : Int) = 0) = true := by rw [decide_eq_true_eq]; omega
      have g1 : decide ((i : Int) > 0) = true := by rw [decide_eq_true_eq]; omega
      have hml := memL_length (nextsC ds ks c)
      rw [if_pos k1, if_pos k1, l5Next_eq (by omega) h hc, Option.bind_some, if_pos k2, if_pos k2, ei, l1Has_eq (by omega) (by omega), Option.bind_some, if_pos k2, wi, within_eq, wN, Option.bind_some, if_neg g0, if_pos g1, nexts_eq (by omega) h hc, Option.bind_some]
      generalize ws.getD i 0 = x
      by_cases c1 : 0 ≤ x ∧ x ≤ N - 1
      · have nx : ¬ x < 0 := by omega
        have p12 : (2 : Nat) ^ 12 < 2 ^ 63 := by decide
        have e : x = ((x.toNat : Nat) : Int) := by omega
        have hb := bit_zero (a := nextsC ds ks c) (k := x.toNat) (Nat.lt_trans (nextsC_lt _ _ _) p12) (by omega)
        rw [← e] at hb
        obtain ⟨s1, s2⟩ := shl_node h (x := x) ⟨c1.1, by omega⟩
        simp only [nin_false c1, Bool.false_eq_true, if_false, if_neg nx, hb, next_mem h c1.1, s1, or_nodes h hc s2]
        cases (nextsC ds ks c).testBit x.toNat with
        | true =>
          simp only [Bool.not_true, Bool.false_eq_true, if_false]
          exact order_loop hn h hw j j' (i + 1) _ (by omega) (by omega) (by omega) (by omega) (SN_or hc s2)
        | false =>
          exact ⟨none, by simp, by simp⟩
      · have : ¬ x ∈ memL (nextsC ds ks c) := fun hx => c1 (by have := (nextsC_SN h).mem h hx; omega)
        simp only [nin_true c1, if_true, decide_eq_false this, Bool.not_false]
        exact ⟨none, rfl, rfl⟩
    · have k1 : ¬ decide ((i : Int) < (ws.length : Int)) = true := by simpa using cc
      rw [if_neg k1, if_neg k1]
      exact ⟨some c, rfl, rfl⟩
theorem order_same (hn : 2000000 ≤ n) (h : VM N ds ks) {ws : List Int} (hw : ws.length ≤ 1048576) : ∃ r, spec_l5Order.F n N ds ks ws = some r ∧ impl_isEntryOrder.F n N ds ks ws = some r := by
  unfold spec_l5Order.F impl_isEntryOrder.F
  have h1 := h.n1
  have h2 := h.n2
  obtain ⟨m, rfl⟩ : ∃ m, n = m + 1 := ⟨n - 1, by omega⟩
  by_cases c : ws.length = 0
  · have : ws = [] := List.length_eq_zero_iff.1 c
    subst this
    rw [impl_isEntryOrder.l0]
    exact ⟨(0, false), by simp, by simp⟩
  · have k0 : ¬ decide ((ws.length : Int) = 0) = true := by rw [decide_eq_true_eq]; omega
    have k1 : decide ((0 : Int) < (ws.length : Int)) = true := by rw [decide_eq_true_eq]; omega
    have k2 : (0 : Int) ≤ 0 ∧ (0 : Int) < (ws.length : Int) := by omega
    have z : (0 : Int).toNat = 0 := rfl
    have wN : IntKind.wrap .i64 (N - 1) = N - 1 := w64s (by omega) (by omega)
    rw [if_neg k0, if_pos k2, impl_isEntryOrder.l0, if_pos k1, if_pos k2, z, within_eq, wN, Option.bind_some]
    by_cases h0 : ws.getD 0 0 = 0
    · rw [h0]
      have g1 : ¬ decide ((0 : Int) > 0) = true := by simp
      have sh : shL .i64 1 0 = 1 := by decide
      have ob : bitOr .i64 0 1 = 1 := by decide
      have w1 : IntKind.wrap .i64 ((0 : Int) + 1) = 1 := by decide
      have n0 : ¬ (0 : Int) < 0 := by omega
      simp only [decide_true, Bool.not_true, Bool.false_eq_true, if_false, if_true, nin_false (show (0 : Int) ≤ 0 ∧ (0 : Int) ≤ N - 1 by omega), if_neg g1, if_neg n0, sh, ob, w1]
      obtain ⟨r, e1, e2⟩ := order_loop (n := m + 1) hn h hw (K := fun y3 => some (y3, true)) (K' := fun y4 y5 => some (y5, (decide ((y4.length : Int) > (0 : Int))))) (m + 1) m 1 1 (by omega) (by omega) (by omega) (by omega) (SN_bit (x := 0) (by omega))
      have c1 : ((1 : Nat) : Int) = 1 := rfl
      rw [c1] at e1 e2
      rw [e1, e2]
      cases r with
      | none => exact ⟨_, rfl, rfl⟩
      | some d =>
        have : decide ((ws.length : Int) > 0) = true := by rw [decide_eq_true_eq]; omega
        exact ⟨_, rfl, by simp only [this]⟩
    · have hd : decide (ws.getD 0 0 = 0) = false := decide_eq_false h0
      simp only [hd, Bool.not_false, if_true, decide_true]
      refine ⟨(0, false), rfl, ?_⟩
      split
      · rfl
      · rfl
theorem IsEntryOrder_same (hn : 2000000 ≤ n) {ws : List Int} (hw : ws.length ≤ 1048576) : ∃ q, spec_IsEntryOrder.F n N ds ks ws = some q ∧ impl_IsEntryOrder.F n N ds ks ws = some q := by
  classical
  unfold spec_IsEntryOrder.F impl_IsEntryOrder.F
  rw [l2Maze_val (by omega), IsMaze_val (by omega), Option.bind_some, Option.bind_some]
  by_cases h : VM N ds ks
  · obtain ⟨r, e1, e2⟩ := order_same hn h hw
    rw [e1, e2]
    exact ⟨(r.2, true), by simp [h], by simp [h]⟩
  · exact ⟨(false, false), by simp [h], by simp [h]⟩

/-! ### The first complete order -/
theorem memL_head {S : Nat} (hS : S < 2 ^ 12) (h0 : S ≠ 0) : ∃ (x : Int) (l : List Int), memL S = x :: l ∧ 0 ≤ x ∧ S.testBit x.toNat = true := by
  cases hm : memL S with
  | nil =>
    exfalso
    apply h0
    apply Nat.eq_of_testBit_eq
    intro i
    rw [Nat.zero_testBit]
    cases hb : S.testBit i with
    | false => rfl
    | true =>
      have := (memL_mem hS (x := (i : Int))).2 ⟨i, rfl, hb⟩
      rw [hm] at this
      cases this
  | cons x l =>
    obtain ⟨i, rfl, hb⟩ := (memL_mem hS (x := x)).1 (by rw [hm]; simp)
    exact ⟨_, l, rfl, by omega, by simpa using hb⟩
theorem min_l0 {K : Int → Option Int} {l : List Int} {x : Int} (hl : l.length ≤ 100) (hx : ∀ y ∈ l, x ≤ y) : ∀ (j i : Nat), l.length - i < j → slices_Min_int_int.l0 n K j l x i = K x
  | 0, i, h => by omega
  | j + 1, i, h => by
    rw [slices_Min_int_int.l0]
    by_cases c : (i : Int) < (l.length : Int)
    · have ci : i < l.length := by omega
      have ei : (i : Int).toNat = i := by omega
      have k1 : decide ((i : Int) < (l.length : Int)) = true := by simpa using c
      have k2 : 0 ≤ (i : Int) ∧ (i : Int) < (l.length : Int) := ⟨by omega, c⟩
      have wi : IntKind.wrap .i64 ((i : Int) + 1) = ((i + 1 : Nat) : Int) := by rw [w64s (by omega) (by omega)]; omega
      have hm := hx _ (getD_mem (d := (0 : Int)) ci)
      rw [if_pos k1, if_pos k2, ei, if_neg (by omega), wi]
      exact min_l0 hl hx j (i + 1) (by omega)
    · have k1 : ¬ decide ((i : Int) < (l.length : Int)) = true := by simpa using c
      rw [if_neg k1]
theorem min_eq (hn : 1000 ≤ n) {S : Nat} {x : Int} {l : List Int} (hm : memL S = x :: l) : slices_Min_int_int.F n (memL S) = some x := by
  unfold slices_Min_int_int.F
  have hml := memL_length S
  have ha := memL_asc S
  rw [hm] at hml ha ⊢
  have k1 : ¬ decide (((x :: l).length : Int) < 1) = true := by rw [decide_eq_true_eq, List.length_cons]; omega
  have k2 : (0 : Int) ≤ 0 ∧ (0 : Int) < ((x :: l).length : Int) := by rw [List.length_cons]; omega
  rw [if_neg k1, if_pos k2]
  have hx : ∀ y ∈ x :: l, x ≤ y := by
    intro y hy
    unfold Asc at ha
    rw [List.pairwise_cons] at ha
    rcases List.mem_cons.1 hy with rfl | hy
    · omega
    · have := ha.1 y hy; omega
  exact min_l0 (n := n) (K := fun y1 => some y1) (by omega) hx n 1 (by omega)
def unset (c : Nat) : Nat := (List.range 12).countP fun i => !c.testBit i
theorem unset_lt {c y : Nat} (hy : y < 12) (hb : c.testBit y = false) : unset (c ||| 2 ^ y) < unset c := by
  unfold unset
  have : (List.range 12).countP (fun i => !c.testBit i) = (List.range 12).countP (fun i => !(c ||| 2 ^ y).testBit i) + (List.range 12).countP (fun i => decide (i = y)) := by
    apply countP_split
    · intro a _
      rw [Nat.testBit_or, Nat.testBit_two_pow]
      by_cases e : a = y
      · subst e; simp [hb]
      · have e2 : ¬ y = a := fun q => e q.symm
        simp [e, e2]
    · intro a _ ha
      rw [Nat.testBit_or, Nat.testBit_two_pow] at ha
      by_cases e : a = y
      · subst e; simp at ha
      · simp [e]
  have h1 : 0 < (List.range 12).countP (fun i => decide (i = y)) := List.countP_pos_iff.2 ⟨y, List.mem_range.2 hy, by simp⟩
  omega
theorem unset_le (c : Nat) : unset c ≤ 12 := by
  have := List.countP_le_length (p := fun i => !c.testBit i) (l := List.range 12)
  simpa [unset] using this
/-- Both go through the same orders; at the end nothing more can be entered, and all that has been entered lies in every set that is closed. -/
theorem full_loop (hn : 1000 ≤ n) (h : VM N ds ks) {K : Unit → Option (List Int)} {K' : List Int → Option (List Int)} : ∀ (j c : Nat) (o : List Int), unset c < j → o.length + unset c ≤ 100 → SN N c → (∀ x, x ∈ o ↔ 0 ≤ x ∧ c.testBit x.toNat = true) →
    ∃ (o' : List Int) (c' : Nat), o'.length ≤ 100 ∧ SN N c' ∧ nextsC ds ks c' = 0 ∧ (∀ i, c.testBit i = true → c'.testBit i = true) ∧ (∀ x, x ∈ o' ↔ 0 ≤ x ∧ c'.testBit x.toNat = true) ∧
      (∀ P : Nat → Prop, P c → (∀ d y, P d → (nextsC ds ks d).testBit y = true → P (d ||| 2 ^ y)) → P c') ∧
      spec_l5Full.l0 n K j false N ds ks o (c : Int) = some o' ∧ impl_entryOrder_cslices_Min_int_int.l0 n K' j N ds ks o (c : Int) ((nextsC ds ks c : Nat) : Int) = K' o'
  | 0, c, o, hj, _, _, _ => by omega
  | j + 1, c, o, hj, hol, hc, ho => by
    rw [spec_l5Full.l0, impl_entryOrder_cslices_Min_int_int.l0, l5Next_eq (by omega) h hc, Option.bind_some]
    have hnl := nextsC_lt ds ks c
    by_cases h0 : nextsC ds ks c = 0
    · have e1 : memL (nextsC ds ks c) = [] := by
        rw [h0]
        apply List.eq_nil_iff_forall_not_mem.2
        intro x hx
        obtain ⟨i, _, hb⟩ := (memL_mem (by decide)).1 hx
        rw [Nat.zero_testBit] at hb
        cases hb
      rw [e1, if_pos (by simp), h0, if_neg (by simp)]
      exact ⟨o, c, by omega, hc, h0, fun _ hi => hi, ho, fun P hP _ => hP, rfl, rfl⟩
    · obtain ⟨x, l, hm, hx0, hxb⟩ := memL_head hnl h0
      have hxm : x ∈ memL (nextsC ds ks c) := by rw [hm]; simp
      have hxr := (nextsC_SN h).mem h hxm
      have h2 := h.n2
      obtain ⟨s1, s2⟩ := shl_node h hxr
      have hcb : c.testBit x.toNat = false := by
        rw [nextsC_bit h] at hxb
        simp only [Bool.and_eq_true, Bool.not_eq_true'] at hxb
        exact hxb.1
      have hun := unset_lt (c := c) (y := x.toNat) (by omega) hcb
      have k1 : ¬ decide (((memL (nextsC ds ks c)).length : Int) = 0) = true := by rw [hm, decide_eq_true_eq, List.length_cons]; omega
      have k2 : (0 : Int) ≤ 0 ∧ (0 : Int) < ((memL (nextsC ds ks c)).length : Int) := by rw [hm, List.length_cons]; omega
      have k3 : (!decide (((nextsC ds ks c : Nat) : Int) = 0)) = true := by
        have : ¬ ((nextsC ds ks c : Nat) : Int) = 0 := by omega
        rw [decide_eq_false this]; rfl
      have gx : (memL (nextsC ds ks c)).getD 0 0 = x := by rw [hm]; rfl
      have nx : ¬ x < 0 := by omega
      have k4 : o.length + ([x] : List Int).length ≤ 4398046511104 := by simp only [List.length_singleton]; omega
      rw [if_neg k1, if_pos k2, if_neg (by simp), gx, if_pos k4, if_neg nx, if_pos k3, members_eq (by omega) hnl, Option.bind_some, min_eq hn hm, Option.bind_some, if_pos k4, if_neg nx, s1, or_nodes h hc s2, nexts_eq (by omega) h (SN_or hc s2), Option.bind_some]
      obtain ⟨o', c', q1, q2, q3, q4, q5, q6, q7, q8⟩ := full_loop hn h (K := K) (K' := K') j (c ||| 2 ^ x.toNat) (o ++ [x]) (by omega) (by simp; omega) (SN_or hc s2) (by
        intro z
        rw [List.mem_append, List.mem_singleton, ho z, Nat.testBit_or, Nat.testBit_two_pow]
        constructor
        · rintro (⟨a, b⟩ | rfl)
          · exact ⟨a, by rw [b]; rfl⟩
          · exact ⟨hx0, by simp⟩
        · rintro ⟨a, b⟩
          rw [Bool.or_eq_true] at b
          rcases b with b | b
          · exact .inl ⟨a, b⟩
          · right
            simp at b
            omega)
      refine ⟨o', c', q1, q2, q3, fun i hi => q4 i (by rw [Nat.testBit_or, hi]; rfl), q5, fun P hP hs => q6 P (hs c _ hP hxb) hs, q7, q8⟩
theorem full_same (hn : 1000 ≤ n) (h : VM N ds ks) : ∃ (o' : List Int) (c' : Nat), o'.length ≤ 100 ∧ SN N c' ∧ nextsC ds ks c' = 0 ∧ c'.testBit 0 = true ∧ (∀ x, x ∈ o' ↔ 0 ≤ x ∧ c'.testBit x.toNat = true) ∧
      (∀ P : Nat → Prop, P 1 → (∀ d y, P d → (nextsC ds ks d).testBit y = true → P (d ||| 2 ^ y)) → P c') ∧
      spec_l5Full.F n N ds ks false = some o' ∧ impl_entryOrder_cslices_Min_int_int.F n N ds ks = some o' := by
  unfold spec_l5Full.F impl_entryOrder_cslices_Min_int_int.F
  have h1 := h.n1
  have hs : SN N 1 := SN_bit (x := 0) (by omega)
  have hu := unset_le 1
  obtain ⟨o', c', q1, q2, q3, q4, q5, q6, q7, q8⟩ := full_loop hn h (K := fun _ => none) (K' := fun y5 => some y5) n 1 [0] (by omega) (by simp only [List.length_singleton]; omega) hs (by
    intro x
    rw [List.mem_singleton]
    have : Nat.testBit 1 x.toNat = decide (0 = x.toNat) := Nat.testBit_two_pow (n := 0) (m := x.toNat)
    rw [this]
    simp
    omega)
  have c1 : ((1 : Nat) : Int) = 1 := rfl
  have en := nexts_eq (n := n) (by omega) h hs
  rw [c1] at q7 q8 en
  rw [en, Option.bind_some]
  exact ⟨o', c', q1, q2, q3, q4 0 (by decide), q5, q6, q7, q8⟩
theorem FirstEntryOrder_same (hn : 1000 ≤ n) : ∃ q : List Int × Bool, q.1.length ≤ 1048576 ∧ spec_FirstEntryOrder.F n N ds ks = some q ∧ impl_FirstEntryOrder.F n N ds ks = some q := by
  classical
  unfold spec_FirstEntryOrder.F impl_FirstEntryOrder.F
  rw [l2Maze_val (by omega), IsMaze_val (by omega), Option.bind_some, Option.bind_some]
  by_cases h : VM N ds ks
  · obtain ⟨o, c, q1, _, _, _, _, _, q7, q8⟩ := full_same hn h
    rw [q7, q8]
    exact ⟨(o, true), by simp only; omega, by simp [h], by simp [h]⟩
  · exact ⟨([], false), by simp, by simp [h], by simp [h]⟩
end
end Go.Pv
