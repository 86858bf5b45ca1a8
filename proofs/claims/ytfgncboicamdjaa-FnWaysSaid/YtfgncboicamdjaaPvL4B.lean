/- Plain laws: what both sides answer about fewest steps. -/
import Derived.Test.YtfgncboicamdjaaPvL4
set_option linter.unusedVariables false
set_option linter.unusedSimpArgs false
set_option autoImplicit false
namespace Go.Pv
open Go Go.Fx Go.Pf
section
variable {n : Nat} {N : Int} {ds : List (Int × Int × Int)} {ks : List Int}
abbrev RB2 := Int × Bool

/-- A question about a maze. -/
theorem maze_cases {β : Type} (hn : 100 ≤ n) (d : β) (p : β → Prop) (hd : p d) (f g : Option β) (hfg : VM N ds ks → ∃ q, p q ∧ f = some q ∧ g = some q) :
    ∃ q, p q ∧ ((spec_l2Maze.F n N ds ks).bind fun r1 => if (!r1) = true then some d else f) = some q ∧ ((impl_IsMaze.F n N ds ks).bind fun r1 => if (!r1) = true then some d else g) = some q := by
  classical
  rw [l2Maze_val (by omega), IsMaze_val (by omega), Option.bind_some, Option.bind_some]
  by_cases h : VM N ds ks
  · obtain ⟨q, hp, h1, h2⟩ := hfg h
    exact ⟨q, hp, by simp [h, h1], by simp [h, h2]⟩
  · exact ⟨d, hd, by simp [h], by simp [h]⟩

/-! ### States -/
theorem statesS_l0 {K : Int → Option RB2} {o : List Int} (ho : o.length ≤ 768) : ∀ (j i a : Nat), o.length - i < j → i ≤ o.length → a ≤ i →
    spec_StatesOf.l0 n K j a o i = K ((a + (o.drop i).countP (fun e => decide (0 ≤ e)) : Nat) : Int)
  | 0, i, a, h, _, _ => by omega
  | j + 1, i, a, h, hi, ha => by
    rw [spec_StatesOf.l0]
    by_cases c : (i : Int) < (o.length : Int)
    · have ci : i < o.length := by omega
      have ei : (i : Int).toNat = i := by omega
      have k1 : decide ((i : Int) < (o.length : Int)) = true := by simpa using c
      have k2 : 0 ≤ (i : Int) ∧ (i : Int) < (o.length : Int) := ⟨by omega, c⟩
      have wi : IntKind.wrap .i64 ((i : Int) + 1) = ((i + 1 : Nat) : Int) := by rw [w64s (by omega) (by omega)]; omega
      have wa : IntKind.wrap .i64 ((a : Int) + 1) = ((a + 1 : Nat) : Int) := by rw [w64s (by omega) (by omega)]; omega
      have hs := getD_drop (d := (0 : Int)) ci
      rw [if_pos k1, if_pos k2, ei, wi, wa, statesS_l0 ho j (i + 1) (a + 1) (by omega) (by omega) (by omega), statesS_l0 ho j (i + 1) a (by omega) (by omega) (by omega), hs, List.countP_cons]
      by_cases q : 0 ≤ o.getD i 0
      · rw [if_pos (by rw [decide_eq_true_eq]; exact q), if_pos (by rw [decide_eq_true_eq]; exact q)]
        congr 2
        omega
      · rw [if_neg (by rw [decide_eq_true_eq]; exact q), if_neg (by rw [decide_eq_true_eq]; exact q)]
        rfl
    · have k1 : ¬ decide ((i : Int) < (o.length : Int)) = true := by simpa using c
      have : o.drop i = [] := List.drop_eq_nil_of_le (by omega)
      rw [if_neg k1, this]
      simp
theorem statesI_l2 {K : Int → List Int → Int → Option RB2} {g r : List Int} {y : Int} (hr : r.length = 64) : ∀ (j i a : Nat), 64 - i < j → i ≤ 64 → a ≤ 2000 + i →
    impl_StatesOf.l2 n K j a g y r i = K ((a + (r.drop i).countP (fun e => decide (0 ≤ e)) : Nat) : Int) g y
  | 0, i, a, h, _, _ => by omega
  | j + 1, i, a, h, hi, ha => by
    rw [impl_StatesOf.l2]
    by_cases c : i < 64
    · have ci : i < r.length := by omega
      have ei : (i : Int).toNat = i := by omega
      have k1 : decide ((i : Int) < 64) = true := by rw [decide_eq_true_eq]; omega
      have k2 : 0 ≤ (i : Int) ∧ (i : Int) < (64 : Int) := by omega
      have wi : IntKind.wrap .i64 ((i : Int) + 1) = ((i + 1 : Nat) : Int) := by rw [w64s (by omega) (by omega)]; omega
      have wa : IntKind.wrap .i64 ((a : Int) + 1) = ((a + 1 : Nat) : Int) := by rw [w64s (by omega) (by omega)]; omega
      have hs := getD_drop (d := (0 : Int)) ci
      rw [if_pos k1, if_pos k2, ei, wi, wa, statesI_l2 hr j (i + 1) (a + 1) (by omega) (by omega) (by omega), statesI_l2 hr j (i + 1) a (by omega) (by omega) (by omega), hs, List.countP_cons]
      by_cases q : 0 ≤ r.getD i 0
      · rw [if_pos (by rw [decide_eq_true_eq]; exact q), if_pos (by rw [decide_eq_true_eq]; exact q)]
        congr 2
        omega
      · rw [if_neg (by rw [decide_eq_true_eq]; exact q), if_neg (by rw [decide_eq_true_eq]; exact q)]
        rfl
    · have k1 : ¬ decide ((i : Int) < 64) = true := by rw [decide_eq_true_eq]; omega
      have : r.drop i = [] := List.drop_eq_nil_of_le (by omega)
      rw [if_neg k1, this]
      simp
theorem statesI_l0 (hn : 100 ≤ n) {K : Int → Option RB2} {g : List Int} (hg : g.length = 768) : ∀ (j y a : Nat), 12 - y < j → y ≤ 12 → a ≤ y * 64 →
    impl_StatesOf.l0 n K j a g y = K ((a + (g.drop (y * 64)).countP (fun e => decide (0 ≤ e)) : Nat) : Int)
  | 0, y, a, h, _, _ => by omega
  | j + 1, y, a, h, hy, ha => by
    rw [impl_StatesOf.l0]
    by_cases c : y < 12
    · have k1 : decide ((y : Int) < 12) = true := by rw [decide_eq_true_eq]; omega
      have k2 : 0 ≤ (y : Int) ∧ (y : Int) < (12 : Int) := by omega
      have ey : (y : Int).toNat = y := by omega
      have wy : IntKind.wrap .i64 ((y : Int) + 1) = ((y + 1 : Nat) : Int) := by rw [w64s (by omega) (by omega)]; omega
      have hrl : ((g.drop (y * 64)).take 64).length = 64 := by rw [List.length_take, List.length_drop]; omega
      have := statesI_l2 (n := n) (K := fun y3 y4 y5 => impl_StatesOf.l0 n K j y3 y4 (IntKind.wrap .i64 (y5 + (1 : Int)))) (g := g) (y := (y : Int)) hrl n 0 a (by omega) (by omega) (by omega)
      simp only [Int.natCast_zero, List.drop_zero] at this
      have hc : ((g.drop (y * 64)).take 64).countP (fun e => decide (0 ≤ e)) ≤ 64 := by
        have := List.countP_le_length (p := fun e : Int => decide (0 ≤ e)) (l := (g.drop (y * 64)).take 64)
        omega
      rw [if_pos k1, if_pos k2, ey, this, wy, statesI_l0 hn hg j (y + 1) _ (by omega) (by omega) (by omega)]
      congr 2
      have hsplit : g.drop (y * 64) = (g.drop (y * 64)).take 64 ++ g.drop ((y + 1) * 64) := by
        have e : (y + 1) * 64 = y * 64 + 64 := by omega
        rw [e, ← List.drop_drop]
        exact (List.take_append_drop 64 _).symm
      conv => rhs; rw [hsplit, List.countP_append]
      omega
    · have k1 : ¬ decide ((y : Int) < 12) = true := by rw [decide_eq_true_eq]; omega
      have : g.drop (y * 64) = [] := List.drop_eq_nil_of_le (by omega)
      rw [if_neg k1, this]
      simp
theorem StatesOf_same (hn : 2000 ≤ n) : ∃ q, True ∧ spec_StatesOf.F n N ds ks = some q ∧ impl_StatesOf.F n N ds ks = some q := by
  unfold spec_StatesOf.F impl_StatesOf.F
  refine maze_cases (by omega) _ (fun _ => True) trivial _ _ fun h => ?_
  obtain ⟨o, p1, p2, p3, p4⟩ := first_same hn h
  have h1 := h.n1
  have h2 := h.n2
  rw [p3, p4, Option.bind_some, Option.bind_some]
  have e1 := statesS_l0 (n := n) (K := fun y3 => some (y3, true)) (o := o) (by omega) n 0 0 (by omega) (by omega) (by omega)
  have e2 := statesI_l0 (n := n) (by omega) (K := fun y6 => some (y6, true)) (g := gridOf o) (by unfold gridOf; rw [List.length_append, List.length_replicate]; omega) n 0 0 (by omega) (by omega) (by omega)
  simp only [Int.natCast_zero, List.drop_zero, Nat.zero_mul] at e1 e2
  refine ⟨_, trivial, e1, ?_⟩
  rw [e2]
  have : (gridOf o).countP (fun e => decide (0 ≤ e)) = o.countP (fun e => decide (0 ≤ e)) := by
    unfold gridOf
    rw [List.countP_append, List.countP_replicate]
    simp
  rw [this]

/-! ### Fewest steps -/
theorem FewestSteps_same (hn : 2000 ≤ n) : ∃ q, True ∧ spec_FewestSteps.F n N ds ks = some q ∧ impl_FewestSteps.F n N ds ks = some q := by
  unfold spec_FewestSteps.F impl_FewestSteps.F
  refine maze_cases (by omega) _ (fun _ => True) trivial _ _ fun h => ?_
  obtain ⟨o, p1, p2, p3, p4⟩ := first_same hn h
  have h1 := h.n1
  have h2 := h.n2
  have wN : IntKind.wrap .i64 (N - 1) = N - 1 := w64s (by omega) (by omega)
  rw [p3, p4, Option.bind_some, Option.bind_some, wN, l4Least_eq (by omega) 0 6 p1 h2 ⟨by omega, by omega⟩, leastAny_eq (by omega) p1 h2 ⟨by omega, by omega⟩, Option.bind_some, Option.bind_some, told_eq]
  exact ⟨_, trivial, rfl, rfl⟩
theorem table_l0 (hn : 2000 ≤ n) (h : VM N ds ks) {o : List Int} (ho : (o.length : Int) = N * 64) {K : List Int → Option (List Int × Bool)} : ∀ (j x : Nat) (a : List Int), N.toNat - x < j → (x : Int) ≤ N → a.length ≤ x →
    ∃ a', a'.length ≤ 1000 ∧ spec_StepsTable.l0 n K j N ds ks a o x = K a' ∧ impl_StepsTable.l0 n K j a (gridOf o) N x = K a'
  | 0, x, a, hj, hx, _ => by omega
  | j + 1, x, a, hj, hx, ha => by
    rw [spec_StepsTable.l0, impl_StepsTable.l0]
    have h1 := h.n1
    have h2 := h.n2
    by_cases c : (x : Int) < N
    · have k1 : decide ((x : Int) < N) = true := by simpa using c
      have wx : IntKind.wrap .i64 ((x : Int) + 1) = ((x + 1 : Nat) : Int) := by rw [w64s (by omega) (by omega)]; omega
      rw [if_pos k1, if_pos k1, l4Least_eq (by omega) 0 6 ho h2 ⟨by omega, c⟩, leastAny_eq (by omega) ho h2 ⟨by omega, c⟩, Option.bind_some, Option.bind_some, if_pos (by simp only [List.length_singleton]; omega), if_pos (by simp only [List.length_singleton]; omega), wx]
      exact table_l0 hn h ho j (x + 1) _ (by omega) (by omega) (by simp; omega)
    · have k1 : ¬ decide ((x : Int) < N) = true := by simpa using c
      rw [if_neg k1, if_neg k1]
      exact ⟨a, by omega, rfl, rfl⟩
theorem StepsTable_same (hn : 2000 ≤ n) : ∃ q : List Int × Bool, q.1.length ≤ 1048576 ∧ spec_StepsTable.F n N ds ks = some q ∧ impl_StepsTable.F n N ds ks = some q := by
  unfold spec_StepsTable.F impl_StepsTable.F
  refine maze_cases (by omega) _ (fun q : List Int × Bool => q.1.length ≤ 1048576) (by simp) _ _ fun h => ?_
  obtain ⟨o, p1, p2, p3, p4⟩ := first_same hn h
  have h1 := h.n1
  have h2 := h.n2
  obtain ⟨a, ha, e1, e2⟩ := table_l0 hn h p1 (K := fun y4 => some (y4, true)) n 0 [] (by omega) (by omega) (by simp)
  simp only [Int.natCast_zero] at e1 e2
  rw [p3, p4, Option.bind_some, Option.bind_some, e1, e2]
  exact ⟨_, by simp only; omega, rfl, rfl⟩

/-! ### A detour -/
theorem full_or (ks : List Int) (z : Int) (hk : ∀ k ∈ ks, 0 ≤ k ∧ k ≤ 63) : setK ks 63 z = 63 := by
  have p6 : (2 : Nat) ^ 6 = 64 := by decide
  have hb : (ks.getD z.toNat 0).toNat < 2 ^ 6 := by
    by_cases c : z.toNat < ks.length
    · have := hk _ (getD_mem (d := (0 : Int)) c)
      omega
    · have : ks.getD z.toNat 0 = 0 := by rw [List.getD_eq_getElem?_getD, List.getElem?_eq_none (by omega)]; rfl
      rw [this]; decide
  unfold setK
  apply Nat.eq_of_testBit_eq
  intro i
  rw [Nat.testBit_or]
  have h63 : Nat.testBit 63 i = decide (i < 6) := by
    have := Nat.testBit_two_pow_sub_one 6 i
    simpa using this
  rw [h63]
  by_cases c : i < 6
  · simp [c]
  · have : (ks.getD z.toNat 0).toNat.testBit i = false := Nat.testBit_lt_two_pow (Nat.lt_of_lt_of_le hb (Nat.pow_le_pow_right (by omega) (by omega)))
    rw [this, decide_eq_false c]
    rfl
theorem leastF_only {p : Nat → Bool} {f : Nat → Int} {m : Nat} (hp : p m = true) (hf : ∀ i, i ≠ m → i < 64 → f i < 0) : ∀ (k c : Nat) (b : Int), c + k = 64 → c ≤ m → m < 64 → b = -1 → -1 ≤ f m → leastF p f c k b = f m
  | 0, c, b, h, h1, h2, _, _ => by omega
  | k + 1, c, b, h, h1, h2, hb, hm => by
    have after : ∀ (k c : Nat), m < c → c + k = 64 → ∀ b, leastF p f c k b = b := by
      intro k
      induction k with
      | zero => intros; rfl
      | succ k ih =>
        intro c hc hck b
        unfold leastF
        rw [if_neg (by rintro ⟨_, h3, _⟩; have := hf c (by omega) (by omega); omega)]
        exact ih (c + 1) (by omega) (by omega) b
    unfold leastF
    by_cases e : c = m
    · subst e
      rw [after k (c + 1) (by omega) (by omega)]
      by_cases c0 : 0 ≤ f c
      · rw [if_pos ⟨hp, c0, .inl (by omega)⟩]
      · rw [if_neg (by rintro ⟨_, h3, _⟩; exact c0 h3)]
        omega
    · rw [if_neg (by rintro ⟨_, h3, _⟩; have := hf c e (by omega); omega)]
      exact leastF_only hp hf k (c + 1) b (by omega) (by omega) h2 hb hm
theorem DetourOf_same (hn : 2000 ≤ n) : ∃ q, spec_DetourOf.F n N ds ks = some q ∧ impl_DetourOf.F n N ds ks = some q := by
  classical
  unfold spec_DetourOf.F impl_DetourOf.F
  obtain ⟨q, _, e1, e2⟩ := FewestSteps_same (N := N) (ds := ds) (ks := ks) hn
  rw [e1, e2, Option.bind_some, Option.bind_some]
  cases hq : q.2 with
  | false => exact ⟨(0, false), rfl, rfl⟩
  | true =>
    simp only [Bool.not_true, Bool.false_eq_true, if_false]
    have h : VM N ds ks := by
      by_cases h : VM N ds ks
      · exact h
      · exfalso
        unfold spec_FewestSteps.F at e1
        rw [l2Maze_val (by omega), Option.bind_some] at e1
        simp [h] at e1
        rw [← e1] at hq
        cases hq
    have h1 := h.n1
    have h2 := h.n2
    obtain ⟨o, p1, p2, p5, p3, p4⟩ := dist_sameV hn h (V := fun _ t => t = 63) (x := 0) (s := 63) (fun y s _ hs z _ => by
      have : s = 63 := by omega
      subst this
      rw [full_or ks z h.keys]
      rfl) ⟨by omega, by omega⟩ (by omega) rfl
    have wN : IntKind.wrap .i64 (N - 1) = N - 1 := w64s (by omega) (by omega)
    have e63 : ((63 : Nat) : Int) = 63 := rfl
    rw [e63] at p3 p4
    rw [p3, p4, Option.bind_some, Option.bind_some, wN, l4Least_eq (by omega) 0 6 p1 h2 ⟨by omega, by omega⟩, Option.bind_some, if_pos ⟨by omega, by omega⟩, if_pos ⟨by omega, by omega⟩, row_get' p1 ⟨by omega, by omega⟩ (s := 63) (by omega)]
    have hmem : rowF o (N - 1) 63 ∈ o := getD_mem (by unfold idI; omega)
    rw [leastF_only (m := 63) (want06 (by omega)) (fun i hi hi2 => by
      by_cases c : 0 ≤ rowF o (N - 1) i
      · have := p5 (N - 1) (i : Int) (by omega) (by omega) (by omega) (by omega) c
        omega
      · omega) 64 0 (-1) rfl (by omega) (by omega) rfl (p2 _ hmem).1]
    exact ⟨_, rfl, rfl⟩

/-! ### The way back -/
open Classical in
theorem WayBack_same (hn : 2000000 ≤ n) {ws : List Int} (hw : ws.length ≤ 1048576) : ∃ q, spec_WayBack.F n N ds ks ws = some q ∧ impl_WayBack.F n N ds ks ws = some q := by
  unfold spec_WayBack.F impl_WayBack.F impl_TakenOn.F
  rw [l2Maze_val (by omega), IsMaze_val (by omega), Option.bind_some, Option.bind_some]
  by_cases h : VM N ds ks
  · have hv : (!decide (VM N ds ks)) = false := by simp [h]
    simp only [hv, Bool.false_eq_true, if_false]
    obtain ⟨r, hr, hf, e1, e2⟩ := taken_same (n := n) (by omega) h hw (by omega)
    rw [e1, e2]
    simp only [Option.bind_some]
    cases hr2 : r.2 with
    | false => exact ⟨(0, false), rfl, rfl⟩
    | true =>
      obtain ⟨f1, f2, f3, f4⟩ := hf hr2
      have h1 := h.n1
      have h2 := h.n2
      have wl : IntKind.wrap .i64 ((ws.length : Int) - 1) = (ws.length : Int) - 1 := w64s (by omega) (by omega)
      have el : ((ws.length : Int) - 1).toNat = ws.length - 1 := by omega
      have k1 : 0 ≤ (ws.length : Int) - 1 ∧ (ws.length : Int) - 1 < (ws.length : Int) := by omega
      have k2 : 0 ≤ (ws.length : Int) - 1 ∧ (ws.length : Int) - 1 < (r.1.length : Int) := by omega
      simp only [Bool.not_true, Bool.false_eq_true, if_false, wl, if_pos k1, if_pos k2, el]
      have hs := f3 _ (getD_mem (l := r.1) (i := ws.length - 1) (d := (0 : Int)) (by omega))
      have hx := f4 (ws.length - 1) (by omega)
      obtain ⟨s, hse⟩ : ∃ s : Nat, r.1.getD (ws.length - 1) 0 = (s : Int) := ⟨(r.1.getD (ws.length - 1) 0).toNat, by omega⟩
      obtain ⟨o, p1, p2, p3, p4⟩ := dist_same (n := n) (by omega) h (x := ws.getD (ws.length - 1) 0) (s := s) hx (by omega)
      rw [hse, p3, p4, Option.bind_some, Option.bind_some, l4Least_eq (by omega) 0 6 p1 h2 ⟨by omega, by omega⟩, leastAny_eq (by omega) p1 h2 ⟨by omega, by omega⟩, Option.bind_some, Option.bind_some, told_eq]
      exact ⟨_, rfl, rfl⟩
  · have hv : (!decide (VM N ds ks)) = true := by simp [h]
    simp only [hv, if_true, Option.bind_some, Bool.not_false]
    exact ⟨(0, false), rfl, rfl⟩

/-! ### Fewest keys -/
noncomputable def keyLeast (N : Int) (o : List Int) (m : Nat) : Int := leastF (wantB 0 (m : Int)) (rowF o (N - 1)) 0 64 (-1)
end
end Go.Pv
