/- Plain laws: how many entry sets there are. -/
import Derived.Test.YtnnonephkmikmaaPvEntry
set_option linter.unusedVariables false
set_option linter.unusedSimpArgs false
set_option autoImplicit false
namespace Go.Pv
open Go Go.Fx Go.Pf

section
variable {n : Nat} {N : Int} {ds : List (Int × Int × Int)} {ks : List Int}
/-- Sets that are entered one node after the other. -/
inductive Ent (ds : List (Int × Int × Int)) (ks : List Int) : Nat → Prop
  | one : Ent ds ks 1
  | step {d y : Nat} : Ent ds ks d → (nextsC ds ks d).testBit y = true → Ent ds ks (d ||| 2 ^ y)
theorem next_new (h : VM N ds ks) {d y : Nat} (hy : (nextsC ds ks d).testBit y = true) : d.testBit y = false ∧ y < 12 ∧ (y : Int) < N := by
  have := nextsC_SN h y hy
  have := h.n2
  rw [nextsC_bit h, Bool.and_eq_true, Bool.not_eq_true'] at hy
  exact ⟨hy.1, by omega, by omega⟩
theorem Ent.sn (h : VM N ds ks) {d : Nat} (hd : Ent ds ks d) : SN N d := by
  induction hd with
  | one => exact one_SN h
  | step _ hy ih => exact SN_or ih (SN_bit (next_new h hy).2.2)
theorem Ent.zero {d : Nat} (hd : Ent ds ks d) : d.testBit 0 = true := by
  induction hd with
  | one => decide
  | step _ hy ih => rw [Nat.testBit_or, ih]; rfl
theorem or_lt_self {d y : Nat} (hb : d.testBit y = false) : d < d ||| 2 ^ y := by
  have h1 : d ≤ d ||| 2 ^ y := Nat.left_le_or
  have h2 : d ≠ d ||| 2 ^ y := by
    intro e
    have : (d ||| 2 ^ y).testBit y = false := by rw [← e]; exact hb
    rw [Nat.testBit_or, Nat.testBit_two_pow_self] at this
    simp at this
  omega
def From (ds : List (Int × Int × Int)) (ks : List Int) (c j : Nat) : Prop := j = 1 ∨ ∃ d y : Nat, d < c ∧ Ent ds ks d ∧ (nextsC ds ks d).testBit y = true ∧ j = d ||| 2 ^ y
theorem From.ent {c j : Nat} (hf : From ds ks c j) : Ent ds ks j := by
  rcases hf with rfl | ⟨d, y, _, h1, h2, rfl⟩
  · exact .one
  · exact .step h1 h2
theorem Ent.from (h : VM N ds ks) {j c : Nat} (he : Ent ds ks j) (hc : j ≤ c) : From ds ks c j := by
  cases he with
  | one => exact .inl rfl
  | step h1 h2 => exact .inr ⟨_, _, Nat.lt_of_lt_of_le (or_lt_self (next_new h h2).1) hc, h1, h2, rfl⟩
theorem From.next (h : VM N ds ks) {c j : Nat} : From ds ks (c + 1) j ↔ From ds ks c j ∨ (Ent ds ks c ∧ ∃ y : Nat, (nextsC ds ks c).testBit y = true ∧ j = c ||| 2 ^ y) := by
  constructor
  · rintro (rfl | ⟨d, y, h0, h1, h2, h3⟩)
    · exact .inl (.inl rfl)
    · by_cases e : d = c
      · subst e
        exact .inr ⟨h1, y, h2, h3⟩
      · exact .inl (.inr ⟨d, y, by omega, h1, h2, h3⟩)
  · rintro ((rfl | ⟨d, y, h0, h1, h2, h3⟩) | ⟨h1, y, h2, h3⟩)
    · exact .inl rfl
    · exact .inr ⟨d, y, by omega, h1, h2, h3⟩
    · exact .inr ⟨c, y, by omega, h1, h2, h3⟩

/-! ### The greatest entry set of an entry set -/
theorem ent_more (h : VM N ds ks) : ∀ (m d e : Nat), unset d < m → Ent ds ks d → (∀ i, d.testBit i = true → e.testBit i = true) → (∀ i, e.testBit i = true → d.testBit i = true ∨ (nextsC ds ks d).testBit i = true) → Ent ds ks e
  | 0, d, e, hm, _, _, _ => by omega
  | m + 1, d, e, hm, hd, h1, h2 => by
    by_cases c : ∃ y, e.testBit y = true ∧ d.testBit y = false
    · obtain ⟨y, hy1, hy2⟩ := c
      have hny : (nextsC ds ks d).testBit y = true := (h2 y hy1).resolve_left (by simp [hy2])
      obtain ⟨_, y12, yN⟩ := next_new h hny
      have hsub : ∀ i, d.testBit i = true → (d ||| 2 ^ y).testBit i = true := fun i hi => by rw [Nat.testBit_or, hi]; rfl
      have hu := unset_lt y12 hy2
      refine ent_more h m (d ||| 2 ^ y) e (by omega) (.step hd hny) ?_ ?_
      · intro i hi
        rw [Nat.testBit_or, Bool.or_eq_true] at hi
        rcases hi with hi | hi
        · exact h1 i hi
        · rw [Nat.testBit_two_pow, decide_eq_true_eq] at hi
          rw [← hi]; exact hy1
      · intro i hi
        cases hdi : (d ||| 2 ^ y).testBit i with
        | true => exact .inl rfl
        | false =>
          right
          rcases h2 i hi with h3 | h3
          · rw [hsub i h3] at hdi; cases hdi
          · exact next_mono h (hd.sn h) ((Ent.step hd hny).sn h) hsub h3 hdi
    · have : d = e := by
        apply Nat.eq_of_testBit_eq
        intro i
        cases h3 : e.testBit i with
        | true =>
          cases h4 : d.testBit i with
          | true => rfl
          | false => exact absurd ⟨i, h3, h4⟩ c
        | false =>
          cases h4 : d.testBit i with
          | false => rfl
          | true => rw [h1 i h4] at h3; cases h3
      exact this ▸ hd
theorem largest_ent (hn : 40 ≤ n) (h : VM N ds ks) {code : Nat} (hc : SN N code) (h0 : code.testBit 0 = true) : ∃ c' : Nat, impl_largest.F n N ds ks (code : Int) = some (c' : Int) ∧ (c' = code ↔ Ent ds ks code) := by
  obtain ⟨c', q1, q2, q3, q4, _, g2⟩ := largest_same (n := n) hn h hc h0
  refine ⟨c', g2, ?_⟩
  have hin : ∀ i, c'.testBit i = true → code.testBit i = true := by
    apply q4 (fun d => ∀ i, d.testBit i = true → code.testBit i = true)
    · intro i hi
      have : Nat.testBit 1 i = decide (0 = i) := Nat.testBit_two_pow (n := 0) (m := i)
      rw [this, decide_eq_true_eq] at hi
      rw [← hi]; exact h0
    · intro d hd i hi
      rw [Nat.testBit_or, Nat.testBit_and, Bool.or_eq_true, Bool.and_eq_true] at hi
      rcases hi with hi | hi
      · exact hd i hi
      · exact hi.2
  constructor
  · intro e
    have : Ent ds ks c' := by
      apply q4 (fun d => Ent ds ks d)
      · exact .one
      · intro d hd
        refine ent_more h (unset d + 1) d _ (by omega) hd (fun i hi => by rw [Nat.testBit_or, hi]; rfl) (fun i hi => ?_)
        rw [Nat.testBit_or, Nat.testBit_and, Bool.or_eq_true, Bool.and_eq_true] at hi
        rcases hi with hi | hi
        · exact .inl hi
        · exact .inr hi.1
    rw [← e]; exact this
  · intro he
    have hall : ∀ d, Ent ds ks d → (∀ i, d.testBit i = true → code.testBit i = true) → ∀ i, d.testBit i = true → c'.testBit i = true := by
      intro d hd
      induction hd with
      | one =>
        intro _ i hi
        have : Nat.testBit 1 i = decide (0 = i) := Nat.testBit_two_pow (n := 0) (m := i)
        rw [this, decide_eq_true_eq] at hi
        rw [← hi]; exact q3
      | @step d y hd hy ih =>
        intro hsub i hi
        have hsd : ∀ i, d.testBit i = true → code.testBit i = true := fun i hi => hsub i (by rw [Nat.testBit_or, hi]; rfl)
        rw [Nat.testBit_or, Bool.or_eq_true] at hi
        rcases hi with hi | hi
        · exact ih hsd i hi
        · rw [Nat.testBit_two_pow, decide_eq_true_eq] at hi
          subst hi
          cases hcy : c'.testBit y with
          | true => rfl
          | false =>
            have := next_mono h (hd.sn h) q1 (ih hsd) hy hcy
            have hz : (nextsC ds ks c' &&& code).testBit y = false := by rw [q2, Nat.zero_testBit]
            rw [Nat.testBit_and, this, hsub y (by rw [Nat.testBit_or, Nat.testBit_two_pow_self]; simp)] at hz
            cases hz
    apply Nat.eq_of_testBit_eq
    intro i
    cases h3 : code.testBit i with
    | true => exact hall code he (fun _ hi => hi) i h3
    | false =>
      cases h4 : c'.testBit i with
      | false => rfl
      | true => rw [hin i h4] at h3; cases h3

/-! ### The table -/
def popC (j : Nat) : Nat := (List.range 12).countP fun y => j.testBit y
def cntC (j c : Nat) : Nat := (List.range 12).countP fun y => j.testBit y && decide (j ^^^ 2 ^ y < c)
theorem cntC_le (j c : Nat) : cntC j c ≤ 12 := by
  have := List.countP_le_length (p := fun y => j.testBit y && decide (j ^^^ 2 ^ y < c)) (l := List.range 12)
  rw [List.length_range] at this
  exact this
theorem popC_le (j : Nat) : popC j ≤ 12 := by
  have := List.countP_le_length (p := fun y => j.testBit y) (l := List.range 12)
  rw [List.length_range] at this
  exact this
theorem popC_or {c y : Nat} (hy : y < 12) (hb : c.testBit y = false) : popC c + 1 ≤ popC (c ||| 2 ^ y) := by
  unfold popC
  have : (List.range 12).countP (fun i => (c ||| 2 ^ y).testBit i) = (List.range 12).countP (fun i => c.testBit i) + (List.range 12).countP (fun i => (2 ^ y).testBit i && !c.testBit i) := by
    apply countP_split
    · intro a _
      rw [Nat.testBit_or]
      cases c.testBit a <;> cases (2 ^ y).testBit a <;> rfl
    · intro a _ ha
      rw [ha]; simp
  have h1 : 0 < (List.range 12).countP (fun i => (2 ^ y).testBit i && !c.testBit i) := List.countP_pos_iff.2 ⟨y, List.mem_range.2 hy, by simp [hb]⟩
  omega
theorem or_sub {c y : Nat} (hb : c.testBit y = false) : (c ||| 2 ^ y) ^^^ 2 ^ y = c := by
  apply Nat.eq_of_testBit_eq
  intro i
  rw [Nat.testBit_xor, Nat.testBit_or, Nat.testBit_two_pow]
  by_cases e : y = i
  · subst e; simp [hb]
  · simp [e]
theorem cntC_mono (j : Nat) {c c' : Nat} (h : c ≤ c') : cntC j c ≤ cntC j c' := by
  apply List.countP_mono_left
  intro y _ hy
  simp only [Bool.and_eq_true, decide_eq_true_eq] at hy ⊢
  exact ⟨hy.1, by omega⟩
theorem set_at {o : List Int} {i : Nat} {v : Int} (h : i < o.length) : (o.set i v).getD i 0 = v := by
  simp [List.getD, h]
theorem set_off (o : List Int) {i k : Nat} (v : Int) (h : i ≠ k) : (o.set i v).getD k 0 = o.getD k 0 := by
  simp [List.getD, List.getElem?_set_ne h]
theorem cntC_or {c y : Nat} (hy : y < 12) (hb : c.testBit y = false) : cntC (c ||| 2 ^ y) c + 1 ≤ cntC (c ||| 2 ^ y) (c + 1) := by
  unfold cntC
  have hsub := or_sub hb
  have : (List.range 12).countP (fun i => (c ||| 2 ^ y).testBit i && decide ((c ||| 2 ^ y) ^^^ 2 ^ i < c + 1)) = (List.range 12).countP (fun i => (c ||| 2 ^ y).testBit i && decide ((c ||| 2 ^ y) ^^^ 2 ^ i < c)) + (List.range 12).countP (fun i => (c ||| 2 ^ y).testBit i && decide ((c ||| 2 ^ y) ^^^ 2 ^ i = c)) := by
    apply countP_split
    · intro a _
      cases (c ||| 2 ^ y).testBit a
      · rfl
      · simp only [Bool.true_and]
        rw [← Bool.decide_or, decide_eq_decide]
        omega
    · intro a _ ha
      simp only [Bool.and_eq_true, decide_eq_true_eq] at ha
      rw [ha.1, decide_eq_false (by omega)]
      rfl
  have h1 : 0 < (List.range 12).countP (fun i => (c ||| 2 ^ y).testBit i && decide ((c ||| 2 ^ y) ^^^ 2 ^ i = c)) := List.countP_pos_iff.2 ⟨y, List.mem_range.2 hy, by
    rw [Nat.testBit_or, Nat.testBit_two_pow_self, hsub]; simp⟩
  omega
/-- The table behind some of the steps of c: Q has been reached by these. -/
structure TabI (ds : List (Int × Int × Int)) (ks : List Int) (M c : Nat) (Q : Nat → Prop) (t : List Int) : Prop where
  len : t.length = M
  nn : ∀ j, j < M → 0 ≤ t.getD j 0
  pos : ∀ j, j < M → (0 < t.getD j 0 ↔ From ds ks c j ∨ Q j)
  low : ∀ j, j < M → ¬ Q j → 16 * t.getD j 0 ≤ (((cntC j c + 4) * 16 ^ popC j : Nat) : Int)
  high : ∀ j, j < M → 16 * t.getD j 0 ≤ (((cntC j (c + 1) + 4) * 16 ^ popC j : Nat) : Int)
theorem bound_pop {k p : Nat} (hk : k ≤ 12) : (k + 4) * 16 ^ p ≤ 16 * 16 ^ p := Nat.mul_le_mul_right _ (by omega)
theorem TabI.le {M c : Nat} {Q : Nat → Prop} {t : List Int} (ht : TabI ds ks M c Q t) {j : Nat} (hj : j < M) : t.getD j 0 ≤ ((16 ^ popC j : Nat) : Int) := by
  have h1 := ht.high j hj
  have h2 := bound_pop (p := popC j) (cntC_le j (c + 1))
  omega
theorem pow_pop_le (j : Nat) : 16 ^ popC j ≤ 2 ^ 48 := by
  have : (16 : Nat) ^ popC j ≤ 16 ^ 12 := Nat.pow_le_pow_right (by omega) (popC_le j)
  have e : (16 : Nat) ^ 12 = 2 ^ 48 := by decide
  omega
theorem TabI.add (h : VM N ds ks) {M c : Nat} {Q : Nat → Prop} {t : List Int} (ht : TabI ds ks M c Q t) {y : Nat} (hy : (nextsC ds ks c).testBit y = true) (hM : c ||| 2 ^ y < M) (hc : 0 < t.getD c 0) (hQ : ¬ Q (c ||| 2 ^ y)) :
    t.getD (c ||| 2 ^ y) 0 + t.getD c 0 ≤ 2 ^ 50 ∧ TabI ds ks M c (fun j => Q j ∨ j = c ||| 2 ^ y) (t.set (c ||| 2 ^ y) (t.getD (c ||| 2 ^ y) 0 + t.getD c 0)) ∧ 0 < (t.set (c ||| 2 ^ y) (t.getD (c ||| 2 ^ y) 0 + t.getD c 0)).getD c 0 := by
  obtain ⟨hb, y12, _⟩ := next_new h hy
  have hlt := or_lt_self hb
  have hl1 := ht.le hM
  have hl2 := ht.le (j := c) (by omega)
  have p1 := pow_pop_le (c ||| 2 ^ y)
  have p2 := pow_pop_le c
  have pp : 16 * 16 ^ popC c ≤ 16 ^ popC (c ||| 2 ^ y) := by
    have : (16 : Nat) ^ (popC c + 1) ≤ 16 ^ popC (c ||| 2 ^ y) := Nat.pow_le_pow_right (by omega) (popC_or y12 hb)
    rw [Nat.pow_succ] at this
    omega
  have hcnt := cntC_or y12 hb
  have hlow := ht.low _ hM hQ
  have hmul : (cntC (c ||| 2 ^ y) c + 1 + 4) * 16 ^ popC (c ||| 2 ^ y) ≤ (cntC (c ||| 2 ^ y) (c + 1) + 4) * 16 ^ popC (c ||| 2 ^ y) := Nat.mul_le_mul_right _ (by omega)
  rw [show cntC (c ||| 2 ^ y) c + 1 + 4 = (cntC (c ||| 2 ^ y) c + 4) + 1 by omega, Nat.add_mul (cntC (c ||| 2 ^ y) c + 4) 1, Nat.one_mul] at hmul
  have hn0 := ht.nn _ hM
  have hcl := ht.len
  refine ⟨by omega, ⟨?_, ?_, ?_, ?_, ?_⟩, ?_⟩
  · rw [List.length_set]; exact ht.len
  · intro j hj
    by_cases e : c ||| 2 ^ y = j
    · subst e
      rw [set_at (by omega)]; omega
    · rw [set_off _ _ e]; exact ht.nn j hj
  · intro j hj
    by_cases e : c ||| 2 ^ y = j
    · subst e
      rw [set_at (by omega)]
      exact ⟨fun _ => .inr (.inr rfl), fun _ => by omega⟩
    · rw [set_off _ _ e, ht.pos j hj]
      constructor
      · rintro (h | h)
        · exact .inl h
        · exact .inr (.inl h)
      · rintro (h | h | h)
        · exact .inl h
        · exact .inr h
        · exact absurd h.symm e
  · intro j hj hq
    have e : c ||| 2 ^ y ≠ j := fun e => hq (.inr e.symm)
    rw [set_off _ _ e]
    exact ht.low j hj fun h => hq (.inl h)
  · intro j hj
    by_cases e : c ||| 2 ^ y = j
    · subst e
      rw [set_at (by omega)]; omega
    · rw [set_off _ _ e]; exact ht.high j hj
  · rw [set_off _ _ (by omega)]; exact hc
theorem or_inj {c y z : Nat} (hy : c.testBit y = false) (e : c ||| 2 ^ y = c ||| 2 ^ z) : y = z := by
  have : (c ||| 2 ^ z).testBit y = true := by rw [← e, Nat.testBit_or, Nat.testBit_two_pow_self]; simp
  rw [Nat.testBit_or, hy, Nat.testBit_two_pow] at this
  have e2 : z = y := by simpa using this
  exact e2.symm
theorem lt_size {c M : Nat} (hM : M = 2 ^ N.toNat) (h1 : 1 ≤ N) : c < M ↔ SN N c := by
  subst hM
  constructor
  · intro hc i hi
    have : i < N.toNat := by
      refine Decidable.byContradiction fun hge => ?_
      have : c < 2 ^ i := Nat.lt_of_lt_of_le hc (Nat.pow_le_pow_right (by omega) (by omega))
      rw [Nat.testBit_lt_two_pow this] at hi
      cases hi
    omega
  · intro hs
    apply Nat.lt_pow_two_of_testBit
    intro i hi
    cases hb : c.testBit i with
    | false => rfl
    | true =>
      have := hs i hb
      omega
theorem table_l2 (h : VM N ds ks) {M c : Nat} (hM : M = 2 ^ N.toNat) (hc : c < M) {K : Int → List (Int × Int × Int) → List Int → List Int → Int → Option (List Int)} : ∀ (k i : Nat) (t : List Int) (Q : Nat → Prop), (memL (nextsC ds ks c)).length - i < k → i ≤ (memL (nextsC ds ks c)).length → TabI ds ks M c Q t → 0 < t.getD c 0 →
    (∀ y : Nat, (y : Int) ∈ (memL (nextsC ds ks c)).drop i → ¬ Q (c ||| 2 ^ y)) →
    ∃ t' Q', TabI ds ks M c Q' t' ∧ (∀ j, Q' j ↔ Q j ∨ ∃ y : Nat, (y : Int) ∈ (memL (nextsC ds ks c)).drop i ∧ j = c ||| 2 ^ y) ∧ spec_l5Table.l2 n K k N ds ks t c (memL (nextsC ds ks c)) i = K N ds ks t' c
  | 0, i, t, Q, hk, _, _, _, _ => by omega
  | k + 1, i, t, Q, hk, hi, ht, hp, hq => by
    rw [spec_l5Table.l2]
    have h1 := h.n1
    have h2 := h.n2
    have hml := memL_length (nextsC ds ks c)
    have hmem := fun x => memL_mem (x := x) (nextsC_lt ds ks c)
    have hasc := memL_asc (nextsC ds ks c)
    generalize hl : memL (nextsC ds ks c) = l at *
    by_cases cc : (i : Int) < (l.length : Int)
    · have ci : i < l.length := by omega
      have ei : (i : Int).toNat = i := by omega
      have k1 : decide ((i : Int) < (l.length : Int)) = true := by simpa using cc
      have k2 : 0 ≤ (i : Int) ∧ (i : Int) < (l.length : Int) := ⟨by omega, cc⟩
      have wi : IntKind.wrap .i64 ((i : Int) + 1) = ((i + 1 : Nat) : Int) := by rw [w64s (by omega) (by omega)]; omega
      have hd := getD_drop (d := (0 : Int)) ci
      obtain ⟨y, ey, hy⟩ := (hmem _).1 (getD_mem (d := (0 : Int)) ci)
      obtain ⟨hb, y12, yN⟩ := next_new h hy
      have hcS := (lt_size hM h1).1 hc
      obtain ⟨s1, s2⟩ := shl_node h (x := (y : Int)) ⟨by omega, yN⟩
      rw [Int.toNat_natCast] at s1 s2
      have hor := or_nodes h hcS s2
      have hjM : c ||| 2 ^ y < M := (lt_size hM h1).2 (SN_or hcS s2)
      have hin : (y : Int) ∈ l.drop i := by rw [hd, ey]; simp
      obtain ⟨a1, a2, a3⟩ := ht.add h hy hjM hp (hq y hin)
      have hcl := ht.len
      have g1 := ht.nn _ hjM
      have k3 : 0 ≤ ((c ||| 2 ^ y : Nat) : Int) ∧ ((c ||| 2 ^ y : Nat) : Int) < (t.length : Int) := by omega
      have k4 : 0 ≤ (c : Int) ∧ (c : Int) < (t.length : Int) := by omega
      have ny : ¬ (y : Int) < 0 := by omega
      have p50 : (2 : Int) ^ 50 < 2 ^ 62 := by decide
      simp only [if_pos k1, if_pos k2, ei, ey, if_neg ny, s1, hor, if_pos k3, if_pos k4, Int.toNat_natCast, wi]
      rw [w64s (by omega) (by omega)]
      have hnot : ∀ z : Nat, (z : Int) ∈ l.drop (i + 1) → (y : Int) < z := by
        intro z hz
        have hp2 : Asc (l.drop i) := hasc.sublist (List.drop_sublist _ _)
        rw [hd, ey] at hp2
        exact (List.pairwise_cons.1 hp2).1 _ hz
      obtain ⟨t', Q', q1, q2, q3⟩ := table_l2 h hM hc (K := K) k (i + 1) _ _ (by rw [hl]; omega) (by rw [hl]; omega) a2 a3 (by
        intro z hz
        rw [hl] at hz
        rintro (h3 | h3)
        · exact hq z (by rw [hd]; exact List.mem_cons_of_mem _ hz) h3
        · have := hnot z hz
          have := or_inj (next_new h ((hmem (z : Int)).1 (List.mem_of_mem_drop hz) |>.choose_spec.2 |> fun hh => by
            have e := ((hmem (z : Int)).1 (List.mem_of_mem_drop hz)).choose_spec.1
            have e2 : z = ((hmem (z : Int)).1 (List.mem_of_mem_drop hz)).choose := by omega
            rw [← e2] at hh
            exact hh)).1 h3
          omega)
      rw [hl] at q2 q3
      refine ⟨t', Q', q1, ?_, q3⟩
      intro j
      rw [q2 j, hd, ey]
      constructor
      · rintro ((h3 | h3) | ⟨z, h3, h4⟩)
        · exact .inl h3
        · exact .inr ⟨y, by simp, h3⟩
        · exact .inr ⟨z, List.mem_cons_of_mem _ h3, h4⟩
      · rintro (h3 | ⟨z, h3, h4⟩)
        · exact .inl (.inl h3)
        · rcases List.mem_cons.1 h3 with h5 | h5
          · have : z = y := by omega
            subst this
            exact .inl (.inr h4)
          · exact .inr ⟨z, h5, h4⟩
    · have k1 : ¬ decide ((i : Int) < (l.length : Int)) = true := by simpa using cc
      have : l.drop i = [] := List.drop_eq_nil_of_le (by omega)
      rw [if_neg k1, this]
      exact ⟨t, Q, ht, fun j => by simp, rfl⟩
theorem TabI.next (h : VM N ds ks) {M c : Nat} {Q : Nat → Prop} {t : List Int} (ht : TabI ds ks M c Q t) (hQ : ∀ j, j < M → (From ds ks (c + 1) j ↔ From ds ks c j ∨ Q j)) : TabI ds ks M (c + 1) (fun _ => False) t where
  len := ht.len
  nn := ht.nn
  pos := fun j hj => by
    rw [ht.pos j hj, hQ j hj]
    simp
  low := fun j hj _ => ht.high j hj
  high := fun j hj => by
    have h1 := ht.high j hj
    have h2 := cntC_mono j (show c + 1 ≤ c + 1 + 1 by omega)
    have h3 : (cntC j (c + 1) + 4) * 16 ^ popC j ≤ (cntC j (c + 1 + 1) + 4) * 16 ^ popC j := Nat.mul_le_mul_right _ (by omega)
    omega
theorem table_l0 (hn : 2000000 ≤ n) (h : VM N ds ks) {M : Nat} (hM : M = 2 ^ N.toNat) {K : List Int → Option (List Int)} : ∀ (k c : Nat) (t : List Int), M - c < k → c ≤ M → TabI ds ks M c (fun _ => False) t →
    ∃ t', TabI ds ks M M (fun _ => False) t' ∧ spec_l5Table.l0 n K k N ds ks t c = K t'
  | 0, c, t, hk, _, _ => by omega
  | k + 1, c, t, hk, hcM, ht => by
    rw [spec_l5Table.l0]
    have h1 := h.n1
    have h2 := h.n2
    have hcl := ht.len
    have pN : M ≤ 2 ^ 12 := by rw [hM]; exact Nat.pow_le_pow_right (by omega) (by omega)
    have p12 : (2 : Nat) ^ 12 = 4096 := by decide
    by_cases cc : (c : Int) < (t.length : Int)
    · have hc : c < M := by omega
      have hcS := (lt_size hM h1).1 hc
      have k1 : decide ((c : Int) < (t.length : Int)) = true := by simpa using cc
      have k2 : 0 ≤ (c : Int) ∧ (c : Int) < (t.length : Int) := ⟨by omega, cc⟩
      have wi : IntKind.wrap .i64 ((c : Int) + 1) = ((c + 1 : Nat) : Int) := by rw [w64s (by omega) (by omega)]; omega
      have g0 := ht.nn c hc
      have gp := ht.pos c hc
      simp only [or_false] at gp
      rw [if_pos k1, if_pos k2, Int.toNat_natCast]
      by_cases z : t.getD c 0 = 0
      · have he : ¬ Ent ds ks c := fun he => by
          have := gp.2 (he.from h (Nat.le_refl c))
          omega
        rw [if_pos (by simpa using z), wi]
        refine table_l0 hn h hM k (c + 1) t (by omega) (by omega) (ht.next h ?_)
        intro j hj
        rw [From.next h]
        simp [he]
      · have he : Ent ds ks c := (gp.1 (by omega)).ent
        have hml := memL_length (nextsC ds ks c)
        rw [if_neg (by simpa using z), l5Next_eq (by omega) h hcS, Option.bind_some]
        obtain ⟨t', Q', q1, q2, q3⟩ := table_l2 (n := n) h hM hc (K := fun y2 y3 y4 y5 y6 => spec_l5Table.l0 n K k y2 y3 y4 y5 (IntKind.wrap .i64 (y6 + (1 : Int)))) n 0 t (fun _ => False) (by omega) (by omega) ht (by omega) (fun _ _ hf => hf)
        simp only [Int.natCast_zero] at q3
        rw [q3, wi]
        refine table_l0 hn h hM k (c + 1) t' (by omega) (by omega) (q1.next h ?_)
        intro j hj
        rw [From.next h, q2 j]
        simp only [List.drop_zero, false_or]
        constructor
        · rintro (h3 | ⟨_, y, h3, h4⟩)
          · exact .inl h3
          · exact .inr ⟨y, (memL_mem (nextsC_lt ds ks c)).2 ⟨y, rfl, h3⟩, h4⟩
        · rintro (h3 | ⟨y, h3, h4⟩)
          · exact .inl h3
          · obtain ⟨z, e, hz⟩ := (memL_mem (nextsC_lt ds ks c)).1 h3
            have : y = z := by omega
            subst this
            exact .inr ⟨he, y, hz, h4⟩
    · have k1 : ¬ decide ((c : Int) < (t.length : Int)) = true := by simpa using cc
      rw [if_neg k1]
      have : c = M := by omega
      subst this
      exact ⟨t, ht, rfl⟩

/-! ### Counting -/
/-- How many of some numbers from c on. -/
def cntP (p : Nat → Bool) : Nat → Nat → Nat
  | _, 0 => 0
  | c, m + 1 => (if p c = true then 1 else 0) + cntP p (c + 1) m
theorem cntP_succ (p : Nat → Bool) (c m : Nat) : cntP p c (m + 1) = (if p c = true then 1 else 0) + cntP p (c + 1) m := rfl
theorem cntP_le (p : Nat → Bool) : ∀ m c, cntP p c m ≤ m
  | 0, c => Nat.le_refl 0
  | m + 1, c => by
    have := cntP_le p m (c + 1)
    unfold cntP
    split <;> omega
theorem count_l0 {p : Nat → Bool} {t : List Int} (hl : t.length ≤ 4096) (hp : ∀ j, j < t.length → decide (t.getD j 0 > 0) = p j) {K : Int → Option (Int × Bool)} : ∀ (k c a : Nat), t.length - c < k → c ≤ t.length → a ≤ c →
    spec_CountEntrySets.l0 n K k t a c = K ((a + cntP p c (t.length - c) : Nat) : Int)
  | 0, c, a, hk, _, _ => by omega
  | k + 1, c, a, hk, hc, ha => by
    rw [spec_CountEntrySets.l0]
    by_cases cc : (c : Int) < (t.length : Int)
    · have k1 : decide ((c : Int) < (t.length : Int)) = true := by simpa using cc
      have k2 : 0 ≤ (c : Int) ∧ (c : Int) < (t.length : Int) := ⟨by omega, cc⟩
      have wi : IntKind.wrap .i64 ((c : Int) + 1) = ((c + 1 : Nat) : Int) := by rw [w64s (by omega) (by omega)]; omega
      have wa : IntKind.wrap .i64 ((a : Int) + 1) = ((a + 1 : Nat) : Int) := by rw [w64s (by omega) (by omega)]; omega
      have e : t.length - c = (t.length - (c + 1)) + 1 := by omega
      rw [if_pos k1, if_pos k2, Int.toNat_natCast, hp c (by omega), wi, wa, count_l0 hl hp k (c + 1) (a + 1) (by omega) (by omega) (by omega), count_l0 hl hp k (c + 1) a (by omega) (by omega) (by omega), e]
      rw [cntP_succ]
      cases p c with
      | true =>
        simp only [if_true]
        congr 2
        omega
      | false => simp
    · have k1 : ¬ decide ((c : Int) < (t.length : Int)) = true := by simpa using cc
      have e : t.length - c = 0 := by omega
      rw [if_neg k1, e]
      rfl
theorem sets_l0 (hn : 2000000 ≤ n) (h : VM N ds ks) {p : Nat → Bool} {M : Nat} (hM : M = 2 ^ N.toNat) (hp : ∀ j, p j = true ↔ Ent ds ks j) {K : List Int → Option (List Int)} : ∀ (k c : Nat) (o : List Int), M + 1 - c < k → c % 2 = 1 → c ≤ M + 1 → o.length ≤ c →
    ∃ o', o'.length = o.length + cntP p c (M - c) ∧ impl_entrySets.l0 n K k N ds ks o c = K o'
  | 0, c, o, hk, _, _, _ => by omega
  | k + 1, c, o, hk, hodd, hc, ho => by
    rw [impl_entrySets.l0]
    have h1 := h.n1
    have h2 := h.n2
    obtain ⟨a1, a2⟩ := all_SN (n := n) h
    rw [a1, Option.bind_some, ← hM]
    have pN : M ≤ 2 ^ 12 := by rw [hM]; exact Nat.pow_le_pow_right (by omega) (by omega)
    have p12 : (2 : Nat) ^ 12 = 4096 := by decide
    have hM2 : M % 2 = 0 := by
      rw [hM, show N.toNat = (N.toNat - 1) + 1 by omega, Nat.pow_succ]
      omega
    by_cases cc : c < M
    · have k1 : decide ((c : Int) ≤ ((M - 1 : Nat) : Int)) = true := by rw [decide_eq_true_eq]; omega
      have hcS := (lt_size hM h1).1 cc
      have h0 : c.testBit 0 = true := by rw [Nat.testBit_zero]; simpa using hodd
      obtain ⟨c', g1, g2⟩ := largest_ent (n := n) (by omega) h hcS h0
      have wi : IntKind.wrap .i64 ((c : Int) + 2) = ((c + 2 : Nat) : Int) := by rw [w64s (by omega) (by omega)]; omega
      have k3 : o.length + ([(c : Int)] : List Int).length ≤ 4398046511104 := by rw [List.length_singleton]; omega
      have hev : p (c + 1) = false := by
        cases hb : p (c + 1) with
        | false => rfl
        | true =>
          have := ((hp _).1 hb).zero
          rw [Nat.testBit_zero] at this
          have : (c + 1) % 2 = 1 := by simpa using this
          omega
      have hcount : cntP p c (M - c) = (if p c = true then 1 else 0) + cntP p (c + 2) (M - (c + 2)) := by
        by_cases e1 : c + 1 = M
        · rw [show M - c = 0 + 1 by omega, cntP_succ, show M - (c + 2) = 0 by omega]
          rfl
        · rw [show M - c = (M - (c + 1)) + 1 by omega, cntP_succ, show M - (c + 1) = (M - (c + 2)) + 1 by omega, cntP_succ, hev]
          simp
      rw [if_pos k1, g1, Option.bind_some, wi, if_pos k3, hcount]
      have f1 : M + 1 - (c + 2) < k := by omega
      have f2 : (c + 2) % 2 = 1 := by omega
      have f3 : c + 2 ≤ M + 1 := by omega
      have f4 : (o ++ [(c : Int)]).length ≤ c + 2 := by rw [List.length_append, List.length_singleton]; omega
      by_cases c1 : c' = c
      · obtain ⟨o', q1, q2⟩ := sets_l0 hn h hM hp (K := K) k (c + 2) (o ++ [(c : Int)]) f1 f2 f3 f4
        rw [(hp c).2 (g2.1 c1), if_pos (show decide ((c' : Int) = (c : Int)) = true by rw [decide_eq_true_eq]; omega)]
        refine ⟨o', ?_, q2⟩
        rw [q1]
        simp only [List.length_append, List.length_singleton, if_true, Bool.false_eq_true, if_false]
        omega
      · obtain ⟨o', q1, q2⟩ := sets_l0 hn h hM hp (K := K) k (c + 2) o f1 f2 f3 (by omega)
        have : p c = false := by
          cases hb : p c with
          | false => rfl
          | true => exact absurd (g2.2 ((hp c).1 hb)) c1
        rw [this, if_neg (show ¬ decide ((c' : Int) = (c : Int)) = true by rw [decide_eq_true_eq]; omega)]
        refine ⟨o', ?_, q2⟩
        rw [q1]
        simp only [Bool.false_eq_true, if_false]
        omega
    · have k1 : ¬ decide ((c : Int) ≤ ((M - 1 : Nat) : Int)) = true := by rw [decide_eq_true_eq]; omega
      have e : M - c = 0 := by omega
      rw [if_neg k1, e]
      exact ⟨o, rfl, rfl⟩
open Classical in
theorem CountEntrySets_same (hn : 2000000 ≤ n) : ∃ q, spec_CountEntrySets.F n N ds ks = some q ∧ impl_CountEntrySets.F n N ds ks = some q := by
  unfold spec_CountEntrySets.F impl_CountEntrySets.F
  rw [l2Maze_val (by omega), IsMaze_val (by omega), Option.bind_some, Option.bind_some]
  by_cases h : VM N ds ks
  · have hv : decide (VM N ds ks) = true := by simp [h]
    have h1 := h.n1
    have h2 := h.n2
    simp only [hv, Bool.not_true, Bool.false_eq_true, if_false]
    obtain ⟨M, hM⟩ : ∃ M, M = 2 ^ N.toNat := ⟨_, rfl⟩
    have pN : M ≤ 2 ^ 12 := by rw [hM]; exact Nat.pow_le_pow_right (by omega) (by omega)
    have p12 : (2 : Nat) ^ 12 = 4096 := by decide
    have pM : 2 ≤ M := by rw [hM]; exact Nat.pow_le_pow_right (n := 2) (by omega) (show 1 ≤ N.toNat by omega)
    have eN : N = ((N.toNat : Nat) : Int) := by omega
    have sN : shL .i64 1 N = ((M : Nat) : Int) := by
      conv => lhs; rw [eN]
      rw [hM]
      exact shL_one (by omega)
    have hinit : TabI ds ks M 1 (fun _ => False) ((List.replicate M (0 : Int)).set 1 1) := by
      have g : ∀ j, ((List.replicate M (0 : Int)).set 1 1).getD j 0 = if j = 1 then 1 else 0 := by
        intro j
        by_cases e : j = 1
        · subst e
          rw [set_at (by simp; omega), if_pos rfl]
        · rw [set_off _ _ (fun h => e h.symm), if_neg e]
          simp [List.getD, List.getElem?_replicate]
          split <;> rfl
      have hf : ∀ j, From ds ks 1 j ↔ j = 1 := by
        intro j
        constructor
        · rintro (rfl | ⟨d, y, h3, h4, h5, h6⟩)
          · rfl
          · have : d = 0 := by omega
            subst this
            have := h4.zero
            rw [Nat.zero_testBit] at this
            cases this
        · intro e; exact .inl e
      have hb : ∀ j c, 16 * (if j = 1 then (1 : Int) else 0) ≤ (((cntC j c + 4) * 16 ^ popC j : Nat) : Int) := by
        intro j c
        by_cases e : j = 1
        · subst e
          have hp1 : popC 1 = 1 := by decide
          rw [hp1, if_pos rfl]
          have : 4 * 16 ^ 1 ≤ (cntC 1 c + 4) * 16 ^ 1 := Nat.mul_le_mul_right _ (by omega)
          omega
        · rw [if_neg e]; omega
      refine ⟨by simp, ?_, ?_, ?_, ?_⟩
      · intro j _; rw [g]; split <;> omega
      · intro j _
        rw [g, hf]
        by_cases e : j = 1 <;> simp [e]
      · intro j _ _; rw [g]; exact hb j 1
      · intro j _; rw [g]; exact hb j 2
    obtain ⟨t, q1, q2⟩ := table_l0 (n := n) hn h hM (K := fun y7 => some y7) n 1 _ (by omega) (by omega) hinit
    have htab : spec_l5Table.F n N ds ks = some t := by
      unfold spec_l5Table.F
      have nN : ¬ N < 0 := by omega
      rw [if_neg nN, sN, Int.toNat_natCast, if_pos (by omega), if_pos (by rw [List.length_replicate]; omega)]
      exact q2
    have hlen := q1.len
    have hpt : ∀ j, j < t.length → decide (t.getD j 0 > 0) = decide (Ent ds ks j) := by
      intro j hj
      rw [decide_eq_decide]
      have := q1.pos j (by omega)
      simp only [or_false] at this
      exact this.trans ⟨fun hf => hf.ent, fun he => he.from h (by omega)⟩
    have e1 := count_l0 (n := n) (p := fun j => decide (Ent ds ks j)) (by omega) hpt (K := fun y3 => some (y3, true)) n 1 0 (by omega) (by omega) (by omega)
    obtain ⟨o', o1, o2⟩ := sets_l0 (n := n) hn h (p := fun j => decide (Ent ds ks j)) hM (fun j => by simp) (K := fun y3 => some y3) n 1 [] (by omega) (by omega) (by omega) (by simp)
    have z0 : ((0 : Nat) : Int) = 0 := rfl
    have z1 : ((1 : Nat) : Int) = 1 := rfl
    rw [z0, z1] at e1
    rw [z1] at o2
    unfold impl_entrySets.F
    rw [htab, Option.bind_some, e1, o2, Option.bind_some, o1, hlen]
    exact ⟨_, rfl, by simp⟩
  · have hv : decide (VM N ds ks) = false := by simp [h]
    rw [hv]
    exact ⟨(0, false), rfl, rfl⟩
end
end Go.Pv
