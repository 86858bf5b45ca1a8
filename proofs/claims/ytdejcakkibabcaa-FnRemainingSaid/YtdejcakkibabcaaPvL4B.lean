/- Plain laws: what both sides answer about fewest steps. -/
import Derived.Test.YtdejcakkibabcaaPvL4
set_option linter.unusedVariables false
set_option linter.unusedSimpArgs false
set_option autoImplicit false
namespace Go.Pv
open Go Go.Fx Go.Pf
section
variable {n : Nat} {N : Int} {ds : List (Int × Int × Int)} {ks : List Int}
abbrev RB2 := Int × Bool

/-- A question about a maze. -/
theorem maze_cases {β : Type} (hn : 100 ≤ n) (d : β) (p : β → Prop) (hd : p d) (f g : Option β) (hfg : VM N ds ks → ∃ q, p q ∧ f = some q ∧ g = some q) :
    ∃ q, p q ∧ ((spec_l2Maze.F n N ds ks).bind fun r1 => if (!r1) = true then some d else f) = some q ∧ ((impl_IsMaze.F n N ds ks).bind fun r1 => if (!r1) = true then some d else g) = some q := by
  classical
  rw [l2Maze_val (by omega), IsMaze_val (by omega), Option.bind_some, Option.bind_some]
  by_cases h : VM N ds ks
  · obtain ⟨q, hp, h1, h2⟩ := hfg h
    exact ⟨q, hp, by simp [h, h1], by simp [h, h2]⟩
  · exact ⟨d, hd, by simp [h], by simp [h]⟩

/-! ### States -/
/-! ### Fewest steps -/
theorem FewestSteps_same (hn : 2000 ≤ n) : ∃ q, True ∧ spec_FewestSteps.F n N ds ks = some q ∧ impl_FewestSteps.F n N ds ks = some q := by
  unfold spec_FewestSteps.F impl_FewestSteps.F
  refine maze_cases (by omega) _ (fun _ => True) trivial _ _ fun h => ?_
  obtain ⟨o, p1, p2, p3, p4⟩ := first_same hn h
  have h1 := h.n1
  have h2 := h.n2
  have wN : IntKind.wrap .i64 (N - 1) = N - 1 := w64s (by omega) (by omega)
  rw [p3, p4, Option.bind_some, Option.bind_some, wN, l4Least_eq (by omega) 0 6 p1 h2 ⟨by omega, by omega⟩, leastAny_eq (by omega) p1 h2 ⟨by omega, by omega⟩, Option.bind_some, Option.bind_some, told_eq]
  exact ⟨_, trivial, rfl, rfl⟩
theorem FewestWith_same (hn : 2000 ≤ n) (st : Int) : ∃ q, spec_FewestWith.F n N ds ks st = some q ∧ impl_FewestWith.F n N ds ks st = some q := by
  classical
  unfold spec_FewestWith.F impl_FewestWith.F impl_asked.F
  rw [l2Maze_val (by omega), IsMaze_val (by omega)]
  simp only [Option.bind_some, l2Set_eq, isSet_eq]
  by_cases h : VM N ds ks
  · have hv : decide (VM N ds ks) = true := by simp [h]
    simp only [hv, Bool.not_true, Bool.false_eq_true, if_false, if_true, Option.bind_some]
    cases hs : setB st with
    | false => exact ⟨(0, false), rfl, rfl⟩
    | true =>
      obtain ⟨o, p1, p2, p3, p4⟩ := first_same hn h
      have h1 := h.n1
      have h2 := h.n2
      have wN : IntKind.wrap .i64 (N - 1) = N - 1 := w64s (by omega) (by omega)
      simp only [Bool.not_true, Bool.false_eq_true, if_false]
      rw [p3, p4, Option.bind_some, Option.bind_some, wN, l4Least_eq (by omega) st 6 p1 h2 ⟨by omega, by omega⟩, leastWith_eq (by omega) (setB_iff.1 hs) p1 h2 ⟨by omega, by omega⟩, Option.bind_some, Option.bind_some, told_eq]
      exact ⟨_, rfl, rfl⟩
  · have hv : decide (VM N ds ks) = false := by simp [h]
    simp only [hv, Bool.not_false, if_true, Bool.false_eq_true, if_false, Option.bind_some]
    exact ⟨(0, false), rfl, rfl⟩

/-! ### A detour -/
theorem full_or (ks : List Int) (z : Int) (hk : ∀ k ∈ ks, 0 ≤ k ∧ k ≤ 63) : setK ks 63 z = 63 := by
  have p6 : (2 : Nat) ^ 6 = 64 := by decide
  have hb : (ks.getD z.toNat 0).toNat < 2 ^ 6 := by
    by_cases c : z.toNat < ks.length
    · have := hk _ (getD_mem (d := (0 : Int)) c)
      omega
    · have : ks.getD z.toNat 0 = 0 := by rw [List.getD_eq_getElem?_getD, List.getElem?_eq_none (by omega)]; rfl
      rw [this]; decide
  unfold setK
  apply Nat.eq_of_testBit_eq
  intro i
  rw [Nat.testBit_or]
  have h63 : Nat.testBit 63 i = decide (i < 6) := by
    have := Nat.testBit_two_pow_sub_one 6 i
    simpa using this
  rw [h63]
  by_cases c : i < 6
  · simp [c]
  · have : (ks.getD z.toNat 0).toNat.testBit i = false := Nat.testBit_lt_two_pow (Nat.lt_of_lt_of_le hb (Nat.pow_le_pow_right (by omega) (by omega)))
    rw [this, decide_eq_false c]
    rfl
theorem leastF_only {p : Nat → Bool} {f : Nat → Int} {m : Nat} (hp : p m = true) (hf : ∀ i, i ≠ m → i < 64 → f i < 0) : ∀ (k c : Nat) (b : Int), c + k = 64 → c ≤ m → m < 64 → b = -1 → -1 ≤ f m → leastF p f c k b = f m
  | 0, c, b, h, h1, h2, _, _ => by omega
  | k + 1, c, b, h, h1, h2, hb, hm => by
    have after : ∀ (k c : Nat), m < c → c + k = 64 → ∀ b, leastF p f c k b = b := by
      intro k
      induction k with
      | zero => intros; rfl
      | succ k ih =>
        intro c hc hck b
        unfold leastF
        rw [if_neg (by rintro ⟨_, h3, _⟩; have := hf c (by omega) (by omega); omega)]
        exact ih (c + 1) (by omega) (by omega) b
    unfold leastF
    by_cases e : c = m
    · subst e
      rw [after k (c + 1) (by omega) (by omega)]
      by_cases c0 : 0 ≤ f c
      · rw [if_pos ⟨hp, c0, .inl (by omega)⟩]
      · rw [if_neg (by rintro ⟨_, h3, _⟩; exact c0 h3)]
        omega
    · rw [if_neg (by rintro ⟨_, h3, _⟩; have := hf c e (by omega); omega)]
      exact leastF_only hp hf k (c + 1) b (by omega) (by omega) h2 hb hm
/-! ### The way back -/
/-! ### Fewest keys -/
noncomputable def keyLeast (N : Int) (o : List Int) (m : Nat) : Int := leastF (wantB 0 (m : Int)) (rowF o (N - 1)) 0 64 (-1)
theorem stepsAndKeysS_l0 (hn : 2000 ≤ n) (h : VM N ds ks) {o : List Int} (ho : (o.length : Int) = N * 64) {K : List Int → Option (List Int × Bool)} : ∀ (j m : Nat) (a : List Int), 7 - m < j → m ≤ 7 → a.length ≤ m →
    spec_StepsAndKeys.l0 n K j N ds ks a o m = K (a ++ (List.range' m (7 - m)).map (keyLeast N o))
  | 0, m, a, hj, hm, _ => by omega
  | j + 1, m, a, hj, hm, ha => by
    rw [spec_StepsAndKeys.l0]
    have h1 := h.n1
    have h2 := h.n2
    have wN : IntKind.wrap .i64 (N - 1) = N - 1 := w64s (by omega) (by omega)
    by_cases c : m < 7
    · have k1 : decide ((m : Int) ≤ 6) = true := by rw [decide_eq_true_eq]; omega
      have wm : IntKind.wrap .i64 ((m : Int) + 1) = ((m + 1 : Nat) : Int) := by rw [w64s (by omega) (by omega)]; omega
      have e : 7 - m = (7 - (m + 1)) + 1 := by omega
      rw [if_pos k1, wN, l4Least_eq (by omega) 0 (m : Int) ho h2 ⟨by omega, by omega⟩, Option.bind_some, if_pos (by simp only [List.length_singleton]; omega), wm, stepsAndKeysS_l0 hn h ho j (m + 1) _ (by omega) (by omega) (by simp; omega), e, List.range'_succ]
      simp [keyLeast]
    · have k1 : ¬ decide ((m : Int) ≤ 6) = true := by rw [decide_eq_true_eq]; omega
      have e : 7 - m = 0 := by omega
      rw [if_neg k1, e]
      simp
theorem stepsAndKeysI_l0 (hn : 2000 ≤ n) (h : VM N ds ks) {o : List Int} (ho : (o.length : Int) = N * 64) {K : List Int → Option (List Int)} : ∀ (j m : Nat) (a : List Int), 7 - m < j → m ≤ 7 → a.length ≤ m →
    impl_stepsAndKeys.l0 n K j N ds ks a (gridOf o) m = K (a ++ (List.range' m (7 - m)).map (keyLeast N o))
  | 0, m, a, hj, hm, _ => by omega
  | j + 1, m, a, hj, hm, ha => by
    rw [impl_stepsAndKeys.l0]
    have h1 := h.n1
    have h2 := h.n2
    have wN : IntKind.wrap .i64 (N - 1) = N - 1 := w64s (by omega) (by omega)
    by_cases c : m < 7
    · have k1 : decide ((m : Int) < 7) = true := by rw [decide_eq_true_eq]; omega
      have wm : IntKind.wrap .i64 ((m : Int) + 1) = ((m + 1 : Nat) : Int) := by rw [w64s (by omega) (by omega)]; omega
      have e : 7 - m = (7 - (m + 1)) + 1 := by omega
      rw [if_pos k1, wN, leastKeys_eq (by omega) (m : Int) ho h2 ⟨by omega, by omega⟩, Option.bind_some, if_pos (by simp only [List.length_singleton]; omega), wm, stepsAndKeysI_l0 hn h ho j (m + 1) _ (by omega) (by omega) (by simp; omega), e, List.range'_succ]
      simp [keyLeast]
    · have k1 : ¬ decide ((m : Int) < 7) = true := by rw [decide_eq_true_eq]; omega
      have e : 7 - m = 0 := by omega
      rw [if_neg k1, e]
      simp
theorem stepsAndKeysI_eq (hn : 2000 ≤ n) (h : VM N ds ks) {o : List Int} (ho : (o.length : Int) = N * 64) (hf : impl_fromStart.F n N ds ks = some (gridOf o)) : impl_stepsAndKeys.F n N ds ks = some ((List.range' 0 7).map (keyLeast N o)) := by
  unfold impl_stepsAndKeys.F
  rw [hf, Option.bind_some]
  have := stepsAndKeysI_l0 hn h ho (K := fun y3 => some y3) n 0 [] (by omega) (by omega) (by simp)
  simpa using this
theorem StepsAndKeys_same (hn : 2000 ≤ n) : ∃ q : List Int × Bool, q.1.length ≤ 1048576 ∧ spec_StepsAndKeys.F n N ds ks = some q ∧ impl_StepsAndKeys.F n N ds ks = some q := by
  unfold spec_StepsAndKeys.F impl_StepsAndKeys.F
  refine maze_cases (by omega) _ (fun q : List Int × Bool => q.1.length ≤ 1048576) (by simp) _ _ fun h => ?_
  obtain ⟨o, p1, p2, p3, p4⟩ := first_same hn h
  have e1 := stepsAndKeysS_l0 hn h p1 (K := fun y4 => some (y4, true)) n 0 [] (by omega) (by omega) (by simp)
  simp only [Int.natCast_zero, List.nil_append, Nat.sub_zero] at e1
  rw [p3, stepsAndKeysI_eq hn h p1 p4, Option.bind_some, Option.bind_some, e1]
  exact ⟨_, by simp, rfl, rfl⟩
theorem firstGe_l0 (hn : 2000 ≤ n) (h : VM N ds ks) {o : List Int} (ho : (o.length : Int) = N * 64) {K : Unit → Option RB2} {K' : Unit → Option Int} : ∀ (j m : Nat), 7 - m < j → m ≤ 7 →
    ∃ r : Option Nat, (∀ i, r = some i → i < 7) ∧ spec_FewestKeys.l0 n K j N ds ks o m = (match r with | some i => some ((i : Int), true) | none => K ()) ∧
      slices_IndexFunc_int_int_cFewestKeys_1.l0 n K' j ((List.range' 0 7).map (keyLeast N o)) 7 m = (match r with | some i => some (i : Int) | none => K' ())
  | 0, m, hj, _ => by omega
  | j + 1, m, hj, hm => by
    rw [spec_FewestKeys.l0, slices_IndexFunc_int_int_cFewestKeys_1.l0]
    have h1 := h.n1
    have h2 := h.n2
    have wN : IntKind.wrap .i64 (N - 1) = N - 1 := w64s (by omega) (by omega)
    by_cases c : m < 7
    · have k1 : decide ((m : Int) ≤ 6) = true := by rw [decide_eq_true_eq]; omega
      have k2 : decide ((m : Int) < 7) = true := by rw [decide_eq_true_eq]; omega
      have em : (m : Int).toNat = m := by omega
      have wm : IntKind.wrap .i64 ((m : Int) + 1) = ((m + 1 : Nat) : Int) := by rw [w64s (by omega) (by omega)]; omega
      have k3 : 0 ≤ (m : Int) ∧ (m : Int) < (((List.range' 0 7).map (keyLeast N o)).length : Int) := by rw [List.length_map, List.length_range']; omega
      have hg : ((List.range' 0 7).map (keyLeast N o)).getD m 0 = keyLeast N o m := by
        rw [List.getD_eq_getElem?_getD, List.getElem?_map, List.getElem?_range' (by omega)]
        simp
      rw [if_pos k1, if_pos k2, if_pos k3, em, hg, wN, l4Least_eq (by omega) 0 (m : Int) ho h2 ⟨by omega, by omega⟩, Option.bind_some, wm]
      simp only [impl_FewestKeys_1.F, Option.bind_some]
      have e : leastF (wantB 0 (m : Int)) (rowF o (N - 1)) 0 64 (-1) = keyLeast N o m := rfl
      rw [e]
      by_cases q : keyLeast N o m ≥ 0
      · rw [if_pos (by rw [decide_eq_true_eq]; exact q), if_pos (by rw [decide_eq_true_eq]; exact q)]
        exact ⟨some m, by intro i hi; cases hi; exact c, rfl, rfl⟩
      · rw [if_neg (by rw [decide_eq_true_eq]; exact q), if_neg (by rw [decide_eq_true_eq]; exact q)]
        exact firstGe_l0 hn h ho j (m + 1) (by omega) (by omega)
    · have k1 : ¬ decide ((m : Int) ≤ 6) = true := by rw [decide_eq_true_eq]; omega
      have k2 : ¬ decide ((m : Int) < 7) = true := by rw [decide_eq_true_eq]; omega
      rw [if_neg k1, if_neg k2]
      exact ⟨none, by simp, rfl, rfl⟩
theorem FewestKeys_same (hn : 2000 ≤ n) : ∃ q, True ∧ spec_FewestKeys.F n N ds ks = some q ∧ impl_FewestKeys.F n N ds ks = some q := by
  unfold spec_FewestKeys.F impl_FewestKeys.F
  refine maze_cases (by omega) _ (fun _ => True) trivial _ _ fun h => ?_
  obtain ⟨o, p1, p2, p3, p4⟩ := first_same hn h
  obtain ⟨r, hr, e1, e2⟩ := firstGe_l0 hn h p1 (K := fun _ => some ((0 : Int), false)) (K' := fun _ => some (-1 : Int)) n 0 (by omega) (by omega)
  simp only [Int.natCast_zero] at e1 e2
  have hl : (((List.range' 0 7).map (keyLeast N o)).length : Int) = 7 := by simp
  rw [p3, stepsAndKeysI_eq hn h p1 p4, Option.bind_some, Option.bind_some, e1]
  unfold slices_IndexFunc_int_int_cFewestKeys_1.F
  rw [hl, e2]
  cases r with
  | none => exact ⟨_, trivial, rfl, rfl⟩
  | some i =>
    refine ⟨_, trivial, rfl, ?_⟩
    simp only [Option.bind_some, impl_told.F]
    have : ¬ (0 : Int) > (i : Int) := by omega
    rw [if_neg this]
    simp
end
end Go.Pv
