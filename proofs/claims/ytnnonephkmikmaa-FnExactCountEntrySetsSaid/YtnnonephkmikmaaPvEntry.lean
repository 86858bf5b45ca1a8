/- Plain laws: entry sets, and which node precedes which. -/
import Derived.Test.YtnnonephkmikmaaPvNext
set_option linter.unusedVariables false
set_option linter.unusedSimpArgs false
set_option autoImplicit false
namespace Go.Pv
open Go Go.Fx Go.Pf

section
variable {n : Nat} {N : Int} {ds : List (Int × Int × Int)} {ks : List Int}
theorem SN_and {a b : Nat} (ha : SN N a) : SN N (a &&& b) := by
  intro i hi
  rw [Nat.testBit_and, Bool.and_eq_true] at hi
  exact ha i hi.1
theorem unset_or {c m y : Nat} (hy : y < 12) (hb : c.testBit y = false) (hm : m.testBit y = true) : unset (c ||| m) < unset c := by
  unfold unset
  have : (List.range 12).countP (fun i => !c.testBit i) = (List.range 12).countP (fun i => !(c ||| m).testBit i) + (List.range 12).countP (fun i => m.testBit i && !c.testBit i) := by
    apply countP_split
    · intro a _
      rw [Nat.testBit_or]
      cases c.testBit a <;> cases m.testBit a <;> rfl
    · intro a _ ha
      rw [Nat.testBit_or] at ha
      revert ha
      cases c.testBit a <;> cases m.testBit a <;> simp
  have h1 : 0 < (List.range 12).countP (fun i => m.testBit i && !c.testBit i) := List.countP_pos_iff.2 ⟨y, List.mem_range.2 hy, by simp [hb, hm]⟩
  omega
theorem and_nodes (h : VM N ds ks) {a b : Nat} (ha : SN N a) (hb : SN N b) : bitAnd .i64 (a : Int) (b : Int) = ((a &&& b : Nat) : Int) := by
  have p12 : (2 : Nat) ^ 12 < 2 ^ 63 := by decide
  have := ha.lt h
  have := hb.lt h
  exact bitAnd_nat (by omega) (by omega)
/-- The nodes of a list that lie in a set, put to another one. -/
def pickC (code a : Nat) (l : List Int) : Nat := l.foldl (fun a x => if code.testBit x.toNat = true then a ||| 2 ^ x.toNat else a) a
theorem pickC_bit (code : Nat) (y : Nat) : ∀ (l : List Int) (a : Nat), (∀ x ∈ l, 0 ≤ x) → (pickC code a l).testBit y = (a.testBit y || (code.testBit y && decide ((y : Int) ∈ l)))
  | [], a, _ => by simp [pickC]
  | x :: l, a, hx => by
    have h0 := hx x (by simp)
    have ih := pickC_bit code y l (if code.testBit x.toNat = true then a ||| 2 ^ x.toNat else a) (fun z hz => hx z (by simp [hz]))
    show (pickC code (if code.testBit x.toNat = true then a ||| 2 ^ x.toNat else a) l).testBit y = _
    rw [ih]
    by_cases e : (y : Int) = x
    · have ey : x.toNat = y := by omega
      have em : decide ((y : Int) ∈ x :: l) = true := by rw [e]; simp
      rw [ey, em]
      cases hc : code.testBit y with
      | true => simp
      | false => simp
    · have ey : ¬ x.toNat = y := by omega
      have em : decide ((y : Int) ∈ x :: l) = decide ((y : Int) ∈ l) := by
        rw [decide_eq_decide]
        simp [e]
      rw [em]
      split
      · rw [Nat.testBit_or, Nat.testBit_two_pow]
        simp [ey]
      · rfl
theorem pick_l2 (h : VM N ds ks) {K : Int → Int → List (Int × Int × Int) → List Int → Int → Int → Option Int} {code : Nat} (hcode : SN N code) {l : List Int} (hl : l.length ≤ 12) (hx : ∀ x ∈ l, 0 ≤ x ∧ x < N) {b : Int} : ∀ (j i a : Nat), l.length - i < j → SN N a →
    spec_l5Largest.l2 n K j code N ds ks (a : Int) l b i = K code N ds ks ((pickC code a (l.drop i) : Nat) : Int) b
  | 0, i, a, hj, _ => by omega
  | j + 1, i, a, hj, ha => by
    rw [spec_l5Largest.l2]
    have h2 := h.n2
    by_cases c : (i : Int) < (l.length : Int)
    · have ci : i < l.length := by omega
      have ei : (i : Int).toNat = i := by omega
      have k1 : decide ((i : Int) < (l.length : Int)) = true := by simpa using c
      have k2 : 0 ≤ (i : Int) ∧ (i : Int) < (l.length : Int) := ⟨by omega, c⟩
      have wi : IntKind.wrap .i64 ((i : Int) + 1) = ((i + 1 : Nat) : Int) := by rw [w64s (by omega) (by omega)]; omega
      have hm := hx _ (getD_mem (d := (0 : Int)) ci)
      have hs := getD_drop (d := (0 : Int)) ci
      have p12 : (2 : Nat) ^ 12 < 2 ^ 63 := by decide
      have hcl := hcode.lt h
      simp only [if_pos k1, if_pos k2, ei, wi]
      rw [hs]
      generalize l.getD i 0 = x at *
      have nx : ¬ x < 0 := by omega
      obtain ⟨s1, s2⟩ := shl_node h hm
      have ex : x = ((x.toNat : Nat) : Int) := by omega
      have hb := bit_one (a := code) (k := x.toNat) (by omega) (by omega)
      rw [← ex] at hb
      simp only [if_neg nx, hb, s1, or_nodes h ha s2]
      have hp : pickC code a (x :: l.drop (i + 1)) = pickC code (if code.testBit x.toNat = true then a ||| 2 ^ x.toNat else a) (l.drop (i + 1)) := rfl
      rw [hp, pick_l2 h hcode hl hx j (i + 1) _ (by omega) (SN_or ha s2), pick_l2 h hcode hl hx j (i + 1) a (by omega) ha]
      cases code.testBit x.toNat with
      | true => rfl
      | false => rfl
    · have k1 : ¬ decide ((i : Int) < (l.length : Int)) = true := by simpa using c
      have : l.drop i = [] := List.drop_eq_nil_of_le (by omega)
      rw [if_neg k1, this]
      rfl
theorem pick_all {code S a : Nat} (hS : S < 2 ^ 12) : pickC code a (memL S) = a ||| (S &&& code) := by
  apply Nat.eq_of_testBit_eq
  intro y
  rw [pickC_bit _ _ _ _ (fun x hx => by obtain ⟨i, rfl, _⟩ := (memL_mem hS).1 hx; omega), mem_memL hS (by omega), Int.toNat_natCast, Nat.testBit_or, Nat.testBit_and]
  cases a.testBit y <;> cases S.testBit y <;> cases code.testBit y <;> rfl
/-- Both find the same set; it is closed, and grew by what can be entered. -/
theorem largest_loop (hn : 40 ≤ n) (h : VM N ds ks) {code : Nat} (hcode : SN N code) {K : Unit → Option Int} {K' : Int → Option Int} : ∀ (j j' c : Nat), unset c < j → unset c < j' → SN N c →
    ∃ c' : Nat, SN N c' ∧ nextsC ds ks c' &&& code = 0 ∧ (∀ i, c.testBit i = true → c'.testBit i = true) ∧ (∀ P : Nat → Prop, P c → (∀ d, P d → P (d ||| (nextsC ds ks d &&& code))) → P c') ∧
      spec_l5Largest.l0 n K j code N ds ks (c : Int) = some (c' : Int) ∧ impl_largest.l0 n K' j' code N ds ks (c : Int) ((nextsC ds ks c &&& code : Nat) : Int) = K' (c' : Int)
  | 0, j', c, hj, _, _ => by omega
  | j + 1, 0, c, _, hj, _ => by omega
  | j + 1, j' + 1, c, hj, hj', hc => by
    rw [spec_l5Largest.l0, impl_largest.l0, l5Next_eq hn h hc, Option.bind_some]
    have hml := memL_length (nextsC ds ks c)
    have e2 := pick_l2 (n := n) h (K := fun y2 y3 y4 y5 y6 y7 =>
      if (decide (y6 = y7)) = true then
        some y6
      else
        spec_l5Largest.l0 n K j y2 y3 y4 y5 y6) hcode (l := memL (nextsC ds ks c)) hml (fun x hx => (nextsC_SN h).mem h hx) (b := (c : Int)) n 0 c (by omega) hc
    simp only [Int.natCast_zero, List.drop_zero, pick_all (nextsC_lt ds ks c)] at e2
    rw [e2]
    have hnx : SN N (nextsC ds ks c &&& code) := SN_and (nextsC_SN h)
    by_cases h0 : nextsC ds ks c &&& code = 0
    · rw [h0, Nat.or_zero, if_pos (by simp), if_neg (by simp)]
      exact ⟨c, hc, h0, fun _ hi => hi, fun P hP _ => hP, rfl, rfl⟩
    · obtain ⟨x, l, hm, hx0, hxb⟩ := memL_head (hnx.lt h) h0
      have hx12 : x.toNat < 12 := by
        have := hnx x.toNat hxb
        have := h.n2
        omega
      have hcb : c.testBit x.toNat = false := by
        rw [Nat.testBit_and, Bool.and_eq_true, nextsC_bit h] at hxb
        have := hxb.1
        simp only [Bool.and_eq_true, Bool.not_eq_true'] at this
        exact this.1
      have hun := unset_or hx12 hcb hxb
      have hne : ¬ ((c ||| (nextsC ds ks c &&& code) : Nat) : Int) = (c : Int) := by
        intro e
        have e' : c ||| (nextsC ds ks c &&& code) = c := by exact_mod_cast e
        rw [e'] at hun
        omega
      have k3 : (!decide (((nextsC ds ks c &&& code : Nat) : Int) = 0)) = true := by
        have : ¬ ((nextsC ds ks c &&& code : Nat) : Int) = 0 := by omega
        rw [decide_eq_false this]; rfl
      rw [if_neg (by rw [decide_eq_true_eq]; exact hne), if_pos k3, or_nodes h hc hnx, nexts_eq hn h (SN_or hc hnx), Option.bind_some, and_nodes h (nextsC_SN h) hcode]
      obtain ⟨c', q1, q2, q3, q4, q5, q6⟩ := largest_loop hn h hcode (K := K) (K' := K') j j' _ (by omega) (by omega) (SN_or hc hnx)
      exact ⟨c', q1, q2, fun i hi => q3 i (by rw [Nat.testBit_or, hi]; rfl), fun P hP hs => q4 P (hs c hP) hs, q5, q6⟩
theorem one_SN (h : VM N ds ks) : SN N 1 := SN_bit (x := 0) (by have := h.n1; omega)
theorem and_one (h : VM N ds ks) {code : Nat} (hcode : SN N code) : bitAnd .i64 (code : Int) 1 = ((if code.testBit 0 = true then 1 else 0 : Nat) : Int) := by
  have p12 : (2 : Nat) ^ 12 < 2 ^ 63 := by decide
  have := hcode.lt h
  rw [bitAnd_one (by omega)]
  have e : code.testBit 0 = decide (code % 2 = 1) := by rw [Nat.testBit_zero]
  rw [e]
  by_cases c : code % 2 = 1
  · simp [c]
  · have : code % 2 = 0 := by omega
    simp [this]
theorem nexts_zero (h : VM N ds ks) : nextsC ds ks 0 = 0 := by
  apply Nat.eq_of_testBit_eq
  intro y
  rw [nextsC_bit h, Nat.zero_testBit]
  have : memL 0 = [] := by
    apply List.eq_nil_iff_forall_not_mem.2
    intro x hx
    obtain ⟨i, _, hb⟩ := (memL_mem (by decide)).1 hx
    rw [Nat.zero_testBit] at hb
    cases hb
  rw [this]
  rfl
theorem zero_SN : SN N 0 := fun i hi => by rw [Nat.zero_testBit] at hi; cases hi
theorem largest_same (hn : 40 ≤ n) (h : VM N ds ks) {code : Nat} (hcode : SN N code) (h0 : code.testBit 0 = true) : ∃ c' : Nat, SN N c' ∧ nextsC ds ks c' &&& code = 0 ∧ c'.testBit 0 = true ∧ (∀ P : Nat → Prop, P 1 → (∀ d, P d → P (d ||| (nextsC ds ks d &&& code))) → P c') ∧
    spec_l5Largest.F n N ds ks (code : Int) = some (c' : Int) ∧ impl_largest.F n N ds ks (code : Int) = some (c' : Int) := by
  unfold spec_l5Largest.F impl_largest.F
  have hu := unset_le 1
  obtain ⟨c', q1, q2, q3, q4, q5, q6⟩ := largest_loop hn h hcode (K := fun _ => none) (K' := fun y3 => some y3) n n 1 (by omega) (by omega) (one_SN h)
  have en := nexts_eq (n := n) hn h (one_SN h)
  have c1 : ((1 : Nat) : Int) = 1 := rfl
  rw [c1] at q5 q6 en
  rw [and_one h hcode, if_pos h0, c1, en, Option.bind_some, and_nodes h (nextsC_SN h) hcode]
  exact ⟨c', q1, q2, q3 0 (by decide), q4, q5, q6⟩
theorem largest_none (hn : 40 ≤ n) (h : VM N ds ks) {code : Nat} (hcode : SN N code) (h0 : code.testBit 0 = false) : impl_largest.F n N ds ks (code : Int) = some 0 := by
  unfold impl_largest.F
  have en := nexts_eq (n := n) hn h (zero_SN (N := N))
  have c0 : ((0 : Nat) : Int) = 0 := rfl
  rw [c0] at en
  rw [and_one h hcode, if_neg (by rw [h0]; simp), c0, en, Option.bind_some, nexts_zero h, and_nodes h zero_SN hcode, Nat.zero_and]
  obtain ⟨m, rfl⟩ : ∃ m, n = m + 1 := ⟨n - 1, by omega⟩
  rw [impl_largest.l0]
  simp

/-! ### Lists that rise -/
def codeC (a : Nat) (l : List Int) : Nat := l.foldl (fun a x => a ||| 2 ^ x.toNat) a
theorem rise_loop (h : VM N ds ks) {ws : List Int} (hw : ws.length ≤ 1048576) {K : Unit → Option Bool} {K' : Int → Option (Int × Bool)} {K2 : Int → Option Int} : ∀ (j i c : Nat), ws.length - i < j → i ≤ ws.length → SN N c →
    ∃ r : Option Nat, spec_l1Rising.l0 n K j ws 0 (N - 1) i = (match r with | some _ => K () | none => some false) ∧ impl_ascending.l0 n K' j ws N ds ks (c : Int) ws.length i = (match r with | some d => K' d | none => some (0, false)) ∧
      (∀ d, r = some d → SN N d ∧ (∀ y, d.testBit y = (c.testBit y || decide ((y : Int) ∈ ws.drop i))) ∧ spec_l5Code.l0 n K2 j ws (c : Int) i = K2 d)
  | 0, i, c, hj, _, _ => by omega
  | j + 1, i, c, hj, hi, hc => by
    rw [spec_l1Rising.l0, impl_ascending.l0, spec_l5Code.l0]
    have h1 := h.n1
    have h2 := h.n2
    by_cases cc : (i : Int) < (ws.length : Int)
    · have ci : i < ws.length := by omega
      have ei : (i : Int).toNat = i := by omega
      have k1 : decide ((i : Int) < (ws.length : Int)) = true := by simpa using cc
      have k2 : 0 ≤ (i : Int) ∧ (i : Int) < (ws.length : Int) := ⟨by omega, cc⟩
      have wi : IntKind.wrap .i64 ((i : Int) + 1) = ((i + 1 : Nat) : Int) := by rw [w64s (by omega) (by omega)]; omega
      have wN : IntKind.wrap .i64 (N - 1) = N - 1 := w64s (by omega) (by omega)
      have hs := getD_drop (d := (0 : Int)) ci
      simp only [if_pos k1, if_pos k2, ei, l1In_eq, within_eq, wN, wi, Option.bind_some]
      rw [hs]
      by_cases c1 : 0 ≤ ws.getD i 0 ∧ ws.getD i 0 ≤ N - 1
      · have nx : ¬ ws.getD i 0 < 0 := by omega
        obtain ⟨s1, s2⟩ := shl_node h (x := ws.getD i 0) ⟨c1.1, by omega⟩
        simp only [nin_false c1, Bool.false_eq_true, if_false, if_neg nx, s1, or_nodes h hc s2]
        have ih : ∃ r : Option Nat, spec_l1Rising.l0 n K j ws 0 (N - 1) ((i + 1 : Nat) : Int) = (match r with | some _ => K () | none => some false) ∧ impl_ascending.l0 n K' j ws N ds ks ((c ||| 2 ^ (ws.getD i 0).toNat : Nat) : Int) ws.length ((i + 1 : Nat) : Int) = (match r with | some d => K' d | none => some (0, false)) ∧
            (∀ d, r = some d → SN N d ∧ (∀ y, d.testBit y = (c.testBit y || decide ((y : Int) ∈ ws.getD i 0 :: ws.drop (i + 1)))) ∧ spec_l5Code.l0 n K2 j ws ((c ||| 2 ^ (ws.getD i 0).toNat : Nat) : Int) ((i + 1 : Nat) : Int) = K2 d) := by
          obtain ⟨r, a1, a2, a3⟩ := rise_loop h hw (K := K) (K' := K') (K2 := K2) j (i + 1) (c ||| 2 ^ (ws.getD i 0).toNat) (by omega) (by omega) (SN_or hc s2)
          refine ⟨r, a1, a2, fun d hd => ?_⟩
          obtain ⟨b1, b2, b3⟩ := a3 d hd
          refine ⟨b1, fun y => ?_, b3⟩
          rw [b2 y, Nat.testBit_or, Nat.testBit_two_pow, Bool.or_assoc]
          congr 1
          by_cases e : (y : Int) = ws.getD i 0
          · have e2 : (ws.getD i 0).toNat = y := by omega
            have e3 : (y : Int) ∈ ws.getD i 0 :: ws.drop (i + 1) := by rw [e]; simp
            rw [decide_eq_true e2, decide_eq_true e3]; rfl
          · have e2 : ¬ (ws.getD i 0).toNat = y := by omega
            rw [decide_eq_false e2, Bool.false_or, decide_eq_decide, List.mem_cons]
            constructor
            · exact fun q => .inr q
            · rintro (q | q)
              · exact absurd q e
              · exact q
        by_cases c2 : i = 0
        · have g1 : ¬ decide ((i : Int) > 0) = true := by rw [decide_eq_true_eq]; omega
          simp only [if_neg g1]
          exact ih
        · have g1 : decide ((i : Int) > 0) = true := by rw [decide_eq_true_eq]; omega
          have wi2 : IntKind.wrap .i64 ((i : Int) - 1) = (i : Int) - 1 := w64s (by omega) (by omega)
          have k3 : 0 ≤ (i : Int) - 1 ∧ (i : Int) - 1 < (ws.length : Int) := by omega
          simp only [if_pos g1, wi2, if_pos k3]
          by_cases c3 : ws.getD i 0 ≤ ws.getD ((i : Int) - 1).toNat 0
          · rw [if_pos (by rw [decide_eq_true_eq]; exact c3), if_pos (by rw [decide_eq_true_eq]; exact c3)]
            exact ⟨none, rfl, rfl, by simp⟩
          · rw [if_neg (by rw [decide_eq_true_eq]; exact c3), if_neg (by rw [decide_eq_true_eq]; exact c3)]
            exact ih
      · simp only [nin_true c1, if_true]
        exact ⟨none, rfl, rfl, by simp⟩
    · have k1 : ¬ decide ((i : Int) < (ws.length : Int)) = true := by simpa using cc
      have : ws.drop i = [] := List.drop_eq_nil_of_le (by omega)
      rw [if_neg k1, if_neg k1, if_neg k1, this]
      exact ⟨some c, rfl, rfl, by intro d hd; cases hd; exact ⟨hc, fun y => by simp, rfl⟩⟩
open Classical in
theorem IsEntrySet_same (hn : 2000000 ≤ n) {ws : List Int} (hw : ws.length ≤ 1048576) : ∃ q, spec_IsEntrySet.F n N ds ks ws = some q ∧ impl_IsEntrySet.F n N ds ks ws = some q := by
  unfold spec_IsEntrySet.F impl_IsEntrySet.F spec_l5List.F spec_l1Rising.F impl_ascending.F spec_l5Code.F
  rw [l2Maze_val (by omega), IsMaze_val (by omega), Option.bind_some, Option.bind_some]
  by_cases h : VM N ds ks
  · have hv : decide (VM N ds ks) = true := by simp [h]
    have h1 := h.n1
    have h2 := h.n2
    have wN : IntKind.wrap .i64 (N - 1) = N - 1 := w64s (by omega) (by omega)
    simp only [hv, if_true, Bool.not_true, Bool.false_eq_true, if_false, wN]
    obtain ⟨r, e1, e2, e3⟩ := rise_loop (n := n) h hw (K := fun _ => some true) (K' := fun y2 => some (y2, true)) (K2 := fun y1 => some y1) n 0 0 (by omega) (by omega) zero_SN
    simp only [Int.natCast_zero] at e1 e2 e3
    rw [e1, e2]
    cases r with
    | none => exact ⟨(false, false), rfl, rfl⟩
    | some d =>
      obtain ⟨f1, f2, f3⟩ := e3 d rfl
      simp only [Option.bind_some, Bool.not_true, Bool.false_eq_true, if_false, if_true]
      rw [l1Has_eq (by omega) (by omega), Option.bind_some, f3, Option.bind_some]
      have h0 : d.testBit 0 = decide ((0 : Int) ∈ ws) := by
        have := f2 0
        rw [Nat.zero_testBit] at this
        simpa using this
      rw [← h0]
      cases hb : d.testBit 0 with
      | true =>
        obtain ⟨c', _, _, _, _, g1, g2⟩ := largest_same (n := n) (by omega) h f1 hb
        have hd : ¬ (d : Int) = 0 := by
          intro e
          have : d = 0 := by omega
          rw [this, Nat.zero_testBit] at hb
          cases hb
        rw [if_pos rfl, g1, g2, decide_eq_false hd]
        exact ⟨_, rfl, rfl⟩
      | false =>
        rw [if_neg (by simp), largest_none (by omega) h f1 hb]
        by_cases hd : (d : Int) = 0
        · rw [hd]; exact ⟨(false, true), rfl, rfl⟩
        · have hd2 : ¬ (0 : Int) = (d : Int) := fun e => hd e.symm
          simp only [decide_eq_false hd, decide_eq_false hd2, Option.bind_some]
          exact ⟨(false, true), rfl, rfl⟩
  · have hv : decide (VM N ds ks) = false := by simp [h]
    simp only [hv, Bool.false_eq_true, if_false, Bool.not_false, if_true, Option.bind_some]
    exact ⟨(false, false), rfl, rfl⟩

theorem subsub_w {P Q : Nat} (h : Q < P) (hP : P ≤ 4096) : IntKind.wrap .i64 (((P - 1 : Nat) : Int) - (Q : Int)) = ((P - 1 - Q : Nat) : Int) := by
  rw [w64s (by omega) (by omega)]
  omega
theorem clrN_sub {n k : Nat} (hn : n < 13) (hk : k < n) : clrN (2 ^ n - 1) (2 ^ k) = 2 ^ n - 1 - 2 ^ k := by
  have hall : ∀ n ∈ List.range 13, ∀ k ∈ List.range n, clrN (2 ^ n - 1) (2 ^ k) = 2 ^ n - 1 - 2 ^ k := by decide
  exact hall n (List.mem_range.mpr hn) k (List.mem_range.mpr hk)

/-! ### What can be entered -/
theorem hasB_mono {a b : Nat} (ha : a < 2 ^ 6) (hb : b < 2 ^ 6) (hab : ∀ i, a.testBit i = true → b.testBit i = true) {q : Int} (hq : 0 ≤ q ∧ q ≤ 63) (h : hasB (a : Int) q = true) : hasB (b : Int) q = true := by
  have p6 : (2 : Nat) ^ 6 = 64 := by decide
  have p63 : (2 : Nat) ^ 63 = 9223372036854775808 := by decide
  have eq : q = ((q.toNat : Nat) : Int) := by omega
  unfold hasB at *
  rw [decide_eq_true_eq] at *
  rw [eq, bitAnd_nat (by omega) (by omega)] at h ⊢
  have h' : a &&& q.toNat = q.toNat := by exact_mod_cast h
  have : b &&& q.toNat = q.toNat := by
    apply Nat.eq_of_testBit_eq
    intro i
    have e := congrArg (fun z => Nat.testBit z i) h'
    simp only [Nat.testBit_and] at e ⊢
    revert e
    have := hab i
    cases ha : a.testBit i with
    | true => rw [this ha]; exact id
    | false =>
      cases q.toNat.testBit i with
      | true => simp
      | false => simp
  exact_mod_cast this
theorem keysF_bit (ks : List Int) (y : Nat) : ∀ (l : List Int) (a : Nat), (keysF ks a l).testBit y = (a.testBit y || l.any fun x => (ks.getD x.toNat 0).toNat.testBit y)
  | [], a => by simp [keysF]
  | x :: l, a => by
    rw [keysF_cons, keysF_bit ks y l, Nat.testBit_or, List.any_cons, Bool.or_assoc]
theorem next_mono (h : VM N ds ks) {c d : Nat} (hc : SN N c) (hd : SN N d) (hcd : ∀ i, c.testBit i = true → d.testBit i = true) {y : Nat} (hy : (nextsC ds ks c).testBit y = true) (hyd : d.testBit y = false) : (nextsC ds ks d).testBit y = true := by
  rw [nextsC_bit h] at *
  simp only [Bool.and_eq_true, List.any_eq_true] at *
  obtain ⟨_, x, hx, ho⟩ := hy
  refine ⟨by simp [hyd], x, ?_, ?_⟩
  · obtain ⟨i, e, hb⟩ := (memL_mem (hc.lt h)).1 hx
    exact (memL_mem (hd.lt h)).2 ⟨i, e, hcd i hb⟩
  · unfold openB at *
    obtain ⟨q, hq, hj⟩ := List.any_eq_true.1 ho
    rw [Bool.and_eq_true] at hj
    refine List.any_eq_true.2 ⟨q, hq, ?_⟩
    rw [Bool.and_eq_true]
    have hqd := h.door q hq
    refine ⟨hj.1, hasB_mono (keysC_lt h c) (keysC_lt h d) (fun i hi => ?_) ⟨by omega, by omega⟩ hj.2⟩
    unfold keysC at *
    rw [keysF_bit] at *
    rw [Nat.zero_testBit, Bool.false_or, List.any_eq_true] at *
    obtain ⟨z, hz, hzb⟩ := hi
    obtain ⟨m, e, hb⟩ := (memL_mem (hc.lt h)).1 hz
    exact ⟨z, (memL_mem (hd.lt h)).2 ⟨m, e, hcd m hb⟩, hzb⟩
theorem all_SN (h : VM N ds ks) : impl_allNodes.F n N ds ks = some ((2 ^ N.toNat - 1 : Nat) : Int) ∧ SN N (2 ^ N.toNat - 1) := by
  have h1 := h.n1
  have h2 := h.n2
  have p : 2 ^ N.toNat ≤ 2 ^ 12 := Nat.pow_le_pow_right (by omega) (by omega)
  have p1 : 1 ≤ 2 ^ N.toNat := Nat.one_le_two_pow
  have p12 : (2 : Nat) ^ 12 = 4096 := by decide
  refine ⟨?_, ?_⟩
  · unfold impl_allNodes.F
    have e : N = ((N.toNat : Nat) : Int) := by omega
    have s : shL .i64 1 N = ((2 ^ N.toNat : Nat) : Int) := by
      conv => lhs; rw [e]
      exact shL_one (by omega)
    rw [if_neg (by omega), s, w64s (by omega) (by omega)]
    congr 1
    omega
  · intro i hi
    rw [Nat.testBit_two_pow_sub_one] at hi
    simp at hi
    omega
theorem and_all {c : Nat} (hc : SN N c) : c &&& (2 ^ N.toNat - 1) = c := by
  apply Nat.eq_of_testBit_eq
  intro i
  rw [Nat.testBit_and, Nat.testBit_two_pow_sub_one]
  cases hb : c.testBit i with
  | false => rfl
  | true =>
    have := hc i hb
    have : i < N.toNat := by omega
    simp [this]
/-- Whichever way all nodes are entered, they are the same. -/
theorem entered_all (hn : 2000000 ≤ n) (h : VM N ds ks) : ∃ (o : List Int) (E : Nat), o.length ≤ 100 ∧ SN N E ∧ (∀ x, x ∈ o ↔ 0 ≤ x ∧ E.testBit x.toNat = true) ∧ spec_l5Full.F n N ds ks false = some o ∧ impl_entered.F n N ds ks = some (E : Int) := by
  obtain ⟨o, c, q1, q2, q3, q4, q5, q6, q7, q8⟩ := full_same (n := n) (by omega) h
  obtain ⟨a1, a2⟩ := all_SN (n := n) h
  have h1 := h.n1
  have a3 : (2 ^ N.toNat - 1).testBit 0 = true := by
    rw [Nat.testBit_two_pow_sub_one]
    simp
    omega
  obtain ⟨E, r1, r2, r3, r4, r5, r6⟩ := largest_same (n := n) (by omega) h a2 a3
  rw [and_all (nextsC_SN h)] at r2
  have closed : ∀ D : Nat, SN N D → nextsC ds ks D = 0 → D.testBit 0 = true → ∀ d, SN N d → (∀ i, d.testBit i = true → D.testBit i = true) → ∀ y, (nextsC ds ks d).testBit y = true → D.testBit y = true := by
    intro D hD h0 hD0 d hd hsub y hy
    cases hb : D.testBit y with
    | true => rfl
    | false =>
      have := next_mono h hd hD hsub hy hb
      rw [h0, Nat.zero_testBit] at this
      cases this
  have one : ∀ D : Nat, D.testBit 0 = true → ∀ i, Nat.testBit 1 i = true → D.testBit i = true := by
    intro D hD i hi
    have : Nat.testBit 1 i = decide (0 = i) := Nat.testBit_two_pow (n := 0) (m := i)
    rw [this, decide_eq_true_eq] at hi
    rw [← hi]; exact hD
  have s1 := q6 (fun d => SN N d ∧ ∀ i, d.testBit i = true → E.testBit i = true) ⟨one_SN h, one E r3⟩ (by
    rintro d y ⟨hd, hs⟩ hy
    have hyN := nextsC_SN h y hy
    refine ⟨SN_or hd (SN_bit hyN), fun i hi => ?_⟩
    rw [Nat.testBit_or, Bool.or_eq_true, Nat.testBit_two_pow, decide_eq_true_eq] at hi
    rcases hi with hi | rfl
    · exact hs i hi
    · exact closed E r1 r2 r3 d hd hs y hy)
  have s2 := r4 (fun d => SN N d ∧ ∀ i, d.testBit i = true → c.testBit i = true) ⟨one_SN h, one c q4⟩ (by
    rintro d ⟨hd, hs⟩
    refine ⟨SN_or hd (SN_and (nextsC_SN h)), fun i hi => ?_⟩
    rw [Nat.testBit_or, Bool.or_eq_true] at hi
    rcases hi with hi | hi
    · exact hs i hi
    · rw [Nat.testBit_and, Bool.and_eq_true] at hi
      exact closed c q2 q3 q4 d hd hs i hi.1)
  have e : E = c := by
    apply Nat.eq_of_testBit_eq
    intro i
    have x1 := s1.2 i
    have x2 := s2.2 i
    cases hE : E.testBit i with
    | true => exact (x2 hE).symm
    | false =>
      cases hC : c.testBit i with
      | true => rw [x1 hC] at hE; cases hE
      | false => rfl
  refine ⟨o, E, q1, r1, by rw [e]; exact q5, q7, ?_⟩
  unfold impl_entered.F
  rw [a1, Option.bind_some, r6]
  rfl
theorem mem_full {o : List Int} {E : Nat} (ho : ∀ x, x ∈ o ↔ 0 ≤ x ∧ E.testBit x.toNat = true) {x : Int} (hx : 0 ≤ x) : decide (x ∈ o) = E.testBit x.toNat := by
  have := ho x
  cases hb : E.testBit x.toNat with
  | true => exact decide_eq_true (this.2 ⟨hx, hb⟩)
  | false => exact decide_eq_false fun h => by rw [(this.1 h).2] at hb; cases hb
open Classical in
theorem Precedes_same (hn : 2000000 ≤ n) (x y : Int) : ∃ q, spec_Precedes.F n N ds ks x y = some q ∧ impl_Precedes.F n N ds ks x y = some q := by
  unfold spec_Precedes.F impl_Precedes.F
  rw [isNode_eq (by omega) (by simp; omega) (by simp)]
  simp only [l2Node_eq (n := n) (by omega : 40 ≤ n), Option.bind_some, List.all_cons, List.all_nil, Bool.and_true]
  by_cases h : VM N ds ks
  · have hv : decide (VM N ds ks) = true := by simp [h]
    rw [hv, Bool.true_and, Bool.true_and, Bool.true_and]
    cases hx : inB x 0 (N - 1) with
    | false => exact ⟨(false, false), rfl, rfl⟩
    | true =>
      cases hy : inB y 0 (N - 1) with
      | false => exact ⟨(false, false), rfl, rfl⟩
      | true =>
        simp only [Bool.and_self, Bool.not_true, Bool.false_eq_true, if_false]
        by_cases hxy : x = y
        · simp only [hxy, decide_true, if_true, Bool.not_true, Bool.false_eq_true, if_false]
          exact ⟨(false, true), rfl, rfl⟩
        · simp only [decide_eq_false hxy, Bool.false_eq_true, if_false, Bool.not_false, if_true]
          simp only [inB, Bool.and_eq_true, decide_eq_true_eq] at hx hy
          have h1 := h.n1
          have h2 := h.n2
          obtain ⟨o, E, q1, q2, q3, q4, q5⟩ := entered_all (n := n) hn h
          have p12 : (2 : Nat) ^ 12 < 2 ^ 63 := by decide
          have hEl := q2.lt h
          have ent : ∀ z, inB z 0 (N - 1) = true → spec_l5Entered.F n N ds ks z = some (E.testBit z.toNat) ∧ impl_canEnter.F n N ds ks z = some (E.testBit z.toNat) := by
            intro z hz
            unfold spec_l5Entered.F impl_canEnter.F
            have hz2 := hz
            simp only [inB, Bool.and_eq_true, decide_eq_true_eq] at hz2
            have ez : z = ((z.toNat : Nat) : Int) := by omega
            have hb := bit_one (a := E) (k := z.toNat) (by omega) (by omega)
            rw [← ez] at hb
            rw [isNode_eq (by omega) (by simp; omega) (by simp), l2Node_eq (by omega)]
            simp only [hv, hz, List.all_cons, List.all_nil, Bool.and_true, Bool.and_self, Option.bind_some, if_true]
            rw [q4, q5, Option.bind_some, Option.bind_some, l1Has_eq (by omega) (by omega), Option.bind_some, mem_full q3 hz2.1, if_neg (by omega), hb]
            exact ⟨rfl, rfl⟩
          obtain ⟨ex1, ex2⟩ := ent x (by simp [inB, hx])
          obtain ⟨ey1, ey2⟩ := ent y (by simp [inB, hy])
          rw [ex1, ex2, ey1, ey2]
          simp only [Option.bind_some]
          cases E.testBit x.toNat with
          | false => exact ⟨(false, true), rfl, rfl⟩
          | true =>
            cases E.testBit y.toNat with
            | false => exact ⟨(false, true), rfl, rfl⟩
            | true =>
              simp only [Bool.not_true, Bool.false_eq_true, if_false, if_true]
              have hxN : 0 ≤ x ∧ x < N := by omega
              obtain ⟨s1, s2⟩ := shl_node h hxN
              obtain ⟨a1, a2⟩ := all_SN (n := n) h
              have ny : ¬ y < 0 := by omega
              have nx : ¬ x < 0 := by omega
              have nN : ¬ N < 0 := by omega
              have eN : N = ((N.toNat : Nat) : Int) := by omega
              have sN : shL .i64 1 N = ((2 ^ N.toNat : Nat) : Int) := by
                conv => lhs; rw [eN]
                exact shL_one (by omega)
              have pN : 2 ^ N.toNat ≤ 2 ^ 12 := Nat.pow_le_pow_right (by omega) (by omega)
              have pn4 : (2 : Nat) ^ 12 = 4096 := by decide
              have px : 2 ^ x.toNat < 2 ^ N.toNat := Nat.pow_lt_pow_right (by omega) (by omega)
              have p1 : 1 ≤ 2 ^ N.toNat := Nat.one_le_two_pow
              -- the nodes without x
              generalize hW : clrN (2 ^ N.toNat - 1) (2 ^ x.toNat) = W
              have hWb : ∀ i, W.testBit i = (decide (i < N.toNat) && !decide (x.toNat = i)) := by
                intro i
                rw [← hW, clrN_bit (by omega) (by omega), Nat.testBit_two_pow_sub_one, Nat.testBit_two_pow]
              have hWS : SN N W := by
                intro i hi
                rw [hWb, Bool.and_eq_true, decide_eq_true_eq] at hi
                omega
              have hcl : bitClr .i64 ((2 ^ N.toNat - 1 : Nat) : Int) ((2 ^ x.toNat : Nat) : Int) = (W : Int) := by rw [bitClr_nat (by omega) (by omega), hW]
              have hsub : W = 2 ^ N.toNat - 1 - 2 ^ x.toNat := by
                rw [← hW]
                exact clrN_sub (by omega) (by omega)
              have w1 : IntKind.wrap .i64 (((2 ^ N.toNat : Nat) : Int) - 1) = ((2 ^ N.toNat - 1 : Nat) : Int) := by rw [w64s (by omega) (by omega)]; omega
              have w2 : IntKind.wrap .i64 (((2 ^ N.toNat - 1 : Nat) : Int) - ((2 ^ x.toNat : Nat) : Int)) = (W : Int) := by
                rw [hsub]
                exact subsub_w px (by omega)
              unfold impl_without.F
              rw [a1, Option.bind_some, if_neg nx, s1, hcl]
              by_cases x0 : x = 0
              · have hW0 : W.testBit 0 = false := by rw [hWb, x0]; simp
                rw [if_pos (by rw [decide_eq_true_eq]; exact x0), largest_none (by omega) h hWS hW0, if_neg nx, Option.bind_some, Option.bind_some, if_neg ny]
                have hb := bit_zero (a := 0) (k := y.toNat) (by decide) (by omega)
                have ey : y = ((y.toNat : Nat) : Int) := by omega
                rw [← ey, Nat.zero_testBit] at hb
                have c0 : ((0 : Nat) : Int) = 0 := rfl
                rw [c0] at hb
                rw [hb]
                exact ⟨(true, true), rfl, rfl⟩
              · have hW0 : W.testBit 0 = true := by
                  rw [hWb]
                  rw [decide_eq_true (show 0 < N.toNat by omega), decide_eq_false (show ¬ x.toNat = 0 by omega)]
                  rfl
                obtain ⟨c', _, _, _, _, g1, g2⟩ := largest_same (n := n) (by omega) h hWS hW0
                rw [if_neg (by rw [decide_eq_true_eq]; exact x0), if_neg nN, sN, w1, w2, g1, g2, Option.bind_some, if_neg ny, if_neg nx]
                simp only [Option.bind_some, if_neg ny]
                exact ⟨_, rfl, rfl⟩
  · have hv : decide (VM N ds ks) = false := by simp [h]
    rw [hv]
    exact ⟨(false, false), rfl, rfl⟩
end
end Go.Pv
