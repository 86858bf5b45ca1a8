/- The plain law of what remains: the table, fewest keys, fewest steps. -/
import Derived.Test.YtdejcakkibabcaaPvRemT
import Derived.Test.YtdejcakkibabcaaPvSim
import Derived.Test.YtdejcakkibabcaaPvDrawM
import Derived.Test.YtdejcakkibabcaaPvDrawW
set_option linter.unusedVariables false
set_option linter.unusedSimpArgs false
set_option autoImplicit false
namespace Go.Pv
open Go Go.Fx Go.Pf

/-- Where more is wanted, no more steps are needed. -/
theorem leastF_more {p q : Nat → Bool} {f : Nat → Int} : ∀ (k c : Nat) (b b' : Int), (∀ i, c ≤ i → i < c + k → p i = true → q i = true) → (0 ≤ b → 0 ≤ b' ∧ b' ≤ b) → 0 ≤ leastF p f c k b → 0 ≤ leastF q f c k b' ∧ leastF q f c k b' ≤ leastF p f c k b
  | 0, c, b, b', _, hb, h => hb h
  | k + 1, c, b, b', hpq, hb, h => by
    unfold leastF at h ⊢
    refine leastF_more k (c + 1) _ _ (fun i h1 h2 => hpq i (by omega) (by omega)) ?_ h
    have hc := hpq c (Nat.le_refl _) (by omega)
    by_cases g : p c = true ∧ 0 ≤ f c ∧ (b < 0 ∨ f c < b)
    · rw [if_pos g]
      by_cases g' : q c = true ∧ 0 ≤ f c ∧ (b' < 0 ∨ f c < b')
      · rw [if_pos g']
        exact fun z => ⟨z, Int.le_refl _⟩
      · rw [if_neg g']
        intro z
        have : ¬ (b' < 0 ∨ f c < b') := fun k => g' ⟨hc g.1, g.2.1, k⟩
        omega
    · rw [if_neg g]
      intro z
      have := hb z
      split
      · rename_i g'
        omega
      · exact this
section
variable {n : Nat} {N : Int} {ds : List (Int × Int × Int)} {ks : List Int}
/-- With more colours no more steps remain. -/
theorem wn_more (h : VM N ds ks) : ∀ (k : Nat) (x : Int) (s t : Nat), s < 64 → t < 64 → Sub s t → Wn N ds ks k x s → Wn N ds ks k x t
  | 0, x, s, t, _, _, _, hw => hw
  | k + 1, x, s, t, hs, ht, hst, hw => by
    obtain ⟨z, hz, hw⟩ := wn_succ.1 hw
    obtain ⟨z0, zo⟩ := (step_open h).1 hz
    have zr := steps_mem h hz
    have L : Less N ds ds ks ks := ⟨h, h, fun _ h => h, fun _ => Sub.refl _⟩
    exact wn_succ.2 ⟨z, (step_open h).2 ⟨z0, openB_less L (by omega) (by omega) hst zo⟩, wn_more h k z _ _ (setK_val h zr hs).2 (setK_val h zr ht).2 (Sub.or_mono hst (Sub.refl _)) hw⟩
theorem rem_more (h : VM N ds ks) {x : Int} {s t : Nat} (hs : s < 64) (ht : t < 64) (hst : Sub s t) {v w : Int} (hv : IsRem N ds ks x s v) (hw : IsRem N ds ks x t w) (h0 : 0 ≤ v) : 0 ≤ w ∧ w ≤ v := by
  rcases hv with ⟨h1, h2, h3⟩ | ⟨h1, h2⟩
  · have k2 := wn_more h _ x s t hs ht hst h2
    rcases hw with ⟨g1, g2, g3⟩ | ⟨g1, g2⟩
    · have := g3 _ k2
      omega
    · exact absurd k2 (g2 _)
  · omega

/-! ### The law's own loops -/
section
variable {g : List Int}
theorem remL_l4 (h : VM N ds ks) (hg : g.length = 64 * N.toNat) (hr : ∀ p, p < 64 * N.toNat → IsRem N ds ks ((p / 64 : Nat) : Int) (hK ks p) (g.getD p 0)) {x s : Nat} (hx : x < N.toNat) (hs : s < 64)
    {K : Int → (List (Int × Int × Int)) → (List (Int)) → (List (List Int)) → Int → Int → Option (Bool)} : ∀ (j c : Nat), 6 - c < j → c ≤ 6 →
    laws_FnRemaining.l4 n K j N ds ks (remTab N g) (x : Int) (s : Int) (c : Int) = K N ds ks (remTab N g) (x : Int) (s : Int)
  | 0, c, hj, hc => by omega
  | j + 1, c, hj, hc => by
    rw [laws_FnRemaining.l4]
    have h1 := h.n1
    have h2 := h.n2
    have hl := remTab_len (N := N) g
    by_cases c6 : c < 6
    · have k1 : decide ((c : Int) < 6) = true := by rw [decide_eq_true_eq]; omega
      have wc : IntKind.wrap .i64 ((c : Int) + 1) = ((c + 1 : Nat) : Int) := by rw [w64s (by omega) (by omega)]; omega
      have p6 : (2 : Nat) ^ 6 = 64 := by decide
      have p63 : (2 : Nat) ^ 63 = 9223372036854775808 := by decide
      have pc : (2 : Nat) ^ c < 64 := by
        have := Nat.pow_lt_pow_right (a := 2) (by omega) c6
        omega
      have e : bitOr .i64 (s : Int) (shL .i64 1 (c : Int)) = ((s ||| 2 ^ c : Nat) : Int) := by
        rw [shL_one (by omega)]
        exact bitOr_nat (by omega) (by omega)
      have ht : s ||| 2 ^ c < 64 := by
        have := Nat.or_lt_two_pow (x := s) (y := 2 ^ c) (n := 6) (by omega) (by omega)
        omega
      have ex : (x : Int).toNat = x := by omega
      have hlen := remRow_len hg hx
      have b1 : 0 ≤ (x : Int) ∧ (x : Int) < ((remTab N g).length : Int) := ⟨by omega, by omega⟩
      have b2 : x < (remTab N g).length := by omega
      have b3 : 0 ≤ (s : Int) ∧ (s : Int) < ((remRow g x).length : Int) := ⟨by omega, by omega⟩
      have b4 : 0 ≤ ((s ||| 2 ^ c : Nat) : Int) ∧ ((s ||| 2 ^ c : Nat) : Int) < ((remRow g x).length : Int) := ⟨by omega, by omega⟩
      have es : (s : Int).toNat = s := by omega
      have et : ((s ||| 2 ^ c : Nat) : Int).toNat = s ||| 2 ^ c := by omega
      have r1 := hr (64 * x + s) (by omega)
      have r2 := hr (64 * x + (s ||| 2 ^ c)) (by omega)
      have q1 : (64 * x + s) / 64 = x := by omega
      have q2 : (64 * x + s) % 64 = s := by omega
      have q3 : (64 * x + (s ||| 2 ^ c)) / 64 = x := by omega
      have q4 : (64 * x + (s ||| 2 ^ c)) % 64 = s ||| 2 ^ c := by omega
      unfold hK at r1 r2
      rw [q1, q2] at r1
      rw [q3, q4] at r2
      have xr : 0 ≤ (x : Int) ∧ (x : Int) < N := ⟨by omega, by omega⟩
      have more := rem_more h (setK_val h xr hs).2 (setK_val h xr ht).2 (Sub.or_mono (Sub.or_left s (2 ^ c)) (Sub.refl _)) r1 r2
      have ih := remL_l4 h hg hr hx hs (K := K) j (c + 1) (by omega) (by omega)
      rw [if_pos k1, if_pos b1, ex, if_pos b2, if_neg (by omega), e, remTab_get hx, if_pos b4, if_pos b1, if_pos b2, if_pos b3, es, et, remRow_get hg hx hs, remRow_get hg hx ht, wc, ih]
      by_cases q : 0 ≤ g.getD (64 * x + s) 0
      · obtain ⟨m1, m2⟩ := more q
        rw [if_pos (by rw [decide_eq_true_eq]; exact q), if_neg (by rw [decide_eq_true_eq]; omega), if_pos b1, if_pos b2, if_pos b3, if_neg (by rw [decide_eq_true_eq]; omega)]
      · rw [if_neg (by rw [decide_eq_true_eq]; exact q)]
    · have k1 : ¬ decide ((c : Int) < 6) = true := by rw [decide_eq_true_eq]; omega
      rw [if_neg k1]
theorem remL_l2 (hn : 100 ≤ n) (h : VM N ds ks) (hg : g.length = 64 * N.toNat) (hr : ∀ p, p < 64 * N.toNat → IsRem N ds ks ((p / 64 : Nat) : Int) (hK ks p) (g.getD p 0)) {x : Nat} (hx : x < N.toNat)
    {K : Int → (List (Int × Int × Int)) → (List (Int)) → (List (List Int)) → Int → Option (Bool)} : ∀ (j s : Nat), 64 - s < j → s ≤ 64 →
    laws_FnRemaining.l2 n K j N ds ks (remTab N g) (x : Int) (s : Int) = K N ds ks (remTab N g) (x : Int)
  | 0, s, hj, hs => by omega
  | j + 1, s, hj, hs => by
    rw [laws_FnRemaining.l2]
    by_cases c : s < 64
    · have k1 : decide ((s : Int) < 64) = true := by rw [decide_eq_true_eq]; omega
      have ws : IntKind.wrap .i64 ((s : Int) + 1) = ((s + 1 : Nat) : Int) := by rw [w64s (by omega) (by omega)]; omega
      rw [if_pos k1]
      refine (remL_l4 h hg hr hx c n 0 (by omega) (by omega)).trans ?_
      rw [ws]
      exact remL_l2 hn h hg hr hx j (s + 1) (by omega) (by omega)
    · have k1 : ¬ decide ((s : Int) < 64) = true := by rw [decide_eq_true_eq]; omega
      rw [if_neg k1]
theorem remL_l0 (hn : 100 ≤ n) (h : VM N ds ks) (hg : g.length = 64 * N.toNat) (hr : ∀ p, p < 64 * N.toNat → IsRem N ds ks ((p / 64 : Nat) : Int) (hK ks p) (g.getD p 0))
    {K : Unit → Option (Bool)} : ∀ (j x : Nat), N.toNat - x < j → x ≤ N.toNat →
    laws_FnRemaining.l0 n K j N ds ks (remTab N g) (x : Int) = K ()
  | 0, x, hj, hx => by omega
  | j + 1, x, hj, hx => by
    rw [laws_FnRemaining.l0]
    have h1 := h.n1
    have h2 := h.n2
    by_cases c : x < N.toNat
    · have k1 : decide ((x : Int) < N) = true := by rw [decide_eq_true_eq]; omega
      have wx : IntKind.wrap .i64 ((x : Int) + 1) = ((x + 1 : Nat) : Int) := by rw [w64s (by omega) (by omega)]; omega
      rw [if_pos k1]
      refine (remL_l2 hn h hg hr c n 0 (by omega) (by omega)).trans ?_
      rw [wx]
      exact remL_l0 hn h hg hr j (x + 1) (by omega) (by omega)
    · have k1 : ¬ decide ((x : Int) < N) = true := by rw [decide_eq_true_eq]; omega
      rw [if_neg k1]
end
theorem rTable_l0 (hn : 1048578 ≤ n) {T : List (List Int)} (hT : T.length ≤ 1000) (hl : ∀ r ∈ T, r.length = 64) {K : Unit → Option Bool} : ∀ (j i : Nat), T.length - i < j → i ≤ T.length → laws_rTable.l0 n K j T T (i : Int) = K ()
  | 0, i, hj, hi => by omega
  | j + 1, i, hj, hi => by
    rw [laws_rTable.l0]
    by_cases c : i < T.length
    · have k1 : decide ((i : Int) < (T.length : Int)) = true := by rw [decide_eq_true_eq]; omega
      have k2 : 0 ≤ (i : Int) ∧ (i : Int) < (T.length : Int) := ⟨by omega, by omega⟩
      have wi : IntKind.wrap .i64 ((i : Int) + 1) = ((i + 1 : Nat) : Int) := by rw [w64s (by omega) (by omega)]; omega
      have hm := hl (T.getD i []) (getD_mem c)
      rw [if_pos k1, if_pos k2, Int.toNat_natCast, if_pos c, if_pos k2, if_pos c, rInts_self hn (by omega), Option.bind_some, if_neg (by simp), wi]
      exact rTable_l0 hn hT hl j (i + 1) (by omega) (by omega)
    · have k1 : ¬ decide ((i : Int) < (T.length : Int)) = true := by rw [decide_eq_true_eq]; omega
      rw [if_neg k1]
theorem rTable_self (hn : 1048578 ≤ n) {T : List (List Int)} (hT : T.length ≤ 1000) (hl : ∀ r ∈ T, r.length = 64) : laws_rTable.F n T T = some true := by
  unfold laws_rTable.F
  rw [if_neg (by simp)]
  exact rTable_l0 hn hT hl n 0 (by omega) (Nat.zero_le _)

/-! ### Fewest keys -/
theorem firstGe_S (hn : 2000 ≤ n) (h : VM N ds ks) {o : List Int} (ho : (o.length : Int) = N * 64) {K : Unit → Option RB2} : ∀ (j m : Nat), 7 - m < j → m ≤ 7 → (∀ i, i < m → keyLeast N o i < 0) →
    (∃ i, i < 7 ∧ 0 ≤ keyLeast N o i ∧ (∀ a, a < i → keyLeast N o a < 0) ∧ spec_FewestKeys.l0 n K j N ds ks o m = some ((i : Int), true)) ∨ ((∀ i, i < 7 → keyLeast N o i < 0) ∧ spec_FewestKeys.l0 n K j N ds ks o m = K ())
  | 0, m, hj, _, _ => by omega
  | j + 1, m, hj, hm, hlow => by
    rw [spec_FewestKeys.l0]
    have h1 := h.n1
    have h2 := h.n2
    have wN : IntKind.wrap .i64 (N - 1) = N - 1 := w64s (by omega) (by omega)
    by_cases c : m < 7
    · have k1 : decide ((m : Int) ≤ 6) = true := by rw [decide_eq_true_eq]; omega
      have wm : IntKind.wrap .i64 ((m : Int) + 1) = ((m + 1 : Nat) : Int) := by rw [w64s (by omega) (by omega)]; omega
      rw [if_pos k1, wN, l4Least_eq (by omega) 0 (m : Int) ho h2 ⟨by omega, by omega⟩, Option.bind_some, wm]
      have e : leastF (wantB 0 (m : Int)) (rowF o (N - 1)) 0 64 (-1) = keyLeast N o m := rfl
      rw [e]
      by_cases q : keyLeast N o m ≥ 0
      · rw [if_pos (by rw [decide_eq_true_eq]; exact q)]
        exact .inl ⟨m, c, q, hlow, rfl⟩
      · rw [if_neg (by rw [decide_eq_true_eq]; exact q)]
        refine firstGe_S hn h ho j (m + 1) (by omega) (by omega) fun i hi => ?_
        by_cases g : i = m
        · subst g; omega
        · exact hlow i (by omega)
    · have k1 : ¬ decide ((m : Int) ≤ 6) = true := by rw [decide_eq_true_eq]; omega
      rw [if_neg k1]
      exact .inr ⟨fun i hi => hlow i (by omega), rfl⟩
theorem want_more {m : Int} (i : Nat) (hi : i < 64) (h : wantB 0 m i = true) : wantB 0 6 i = true := want06 hi
/-- Steps, keys and steps by keys, told by one spread. -/
theorem keys_all (hn : 2000 ≤ n) (h : VM N ds ks) : ∃ o, (o.length : Int) = N * 64 ∧
    (spec_FewestSteps.F n N ds ks = some (tldW (keyLeast N o 6)) ∧ impl_FewestSteps.F n N ds ks = some (tldW (keyLeast N o 6))) ∧
    (spec_StepsAndKeys.F n N ds ks = some ((List.range' 0 7).map (keyLeast N o), true) ∧ impl_StepsAndKeys.F n N ds ks = some ((List.range' 0 7).map (keyLeast N o), true)) ∧
    ∃ q, spec_FewestKeys.F n N ds ks = some q ∧ impl_FewestKeys.F n N ds ks = some q ∧ q.2 = decide (keyLeast N o 6 ≥ 0) ∧
      (q.2 = true → ∃ i : Nat, q.1 = (i : Int) ∧ i < 7 ∧ 0 ≤ keyLeast N o i ∧ ∀ a, a < i → keyLeast N o a < 0) := by
  classical
  obtain ⟨o, p1, p2, p3, p4⟩ := first_same hn h
  have h1 := h.n1
  have h2 := h.n2
  have wN : IntKind.wrap .i64 (N - 1) = N - 1 := w64s (by omega) (by omega)
  have hv : decide (VM N ds ks) = true := by simp [h]
  have hS : spec_FewestSteps.F n N ds ks = some (tldW (keyLeast N o 6)) := by
    unfold spec_FewestSteps.F
    rw [l2Maze_val (by omega), hv, Option.bind_some, if_neg (by simp), p3, Option.bind_some, wN, l4Least_eq (by omega) 0 6 p1 h2 ⟨by omega, by omega⟩, Option.bind_some, told_eq]
    rfl
  have hSK : spec_StepsAndKeys.F n N ds ks = some ((List.range' 0 7).map (keyLeast N o), true) := by
    unfold spec_StepsAndKeys.F
    have e1 := stepsAndKeysS_l0 hn h p1 (K := fun y4 => some (y4, true)) n 0 [] (by omega) (by omega) (by simp)
    simp only [Int.natCast_zero, List.nil_append, Nat.sub_zero] at e1
    rw [l2Maze_val (by omega), hv, Option.bind_some, if_neg (by simp), p3, Option.bind_some, e1]
  have same : ∀ {α : Type} {f g : Option α} {v : α}, (∃ q, f = some q ∧ g = some q) → f = some v → g = some v := by
    rintro α f g v ⟨q, a, b⟩ c
    rw [a] at c
    rw [b, c]
  refine ⟨o, p1, ⟨hS, ?_⟩, ⟨hSK, ?_⟩, ?_⟩
  · obtain ⟨q, _, a, b⟩ := FewestSteps_same (n := n) (N := N) (ds := ds) (ks := ks) hn
    exact same ⟨q, a, b⟩ hS
  · obtain ⟨q, _, a, b⟩ := StepsAndKeys_same (n := n) (N := N) (ds := ds) (ks := ks) hn
    exact same ⟨q, a, b⟩ hSK
  · obtain ⟨q, _, a, b⟩ := FewestKeys_same (n := n) (N := N) (ds := ds) (ks := ks) hn
    refine ⟨q, a, b, ?_⟩
    have more : ∀ i : Nat, 0 ≤ keyLeast N o i → 0 ≤ keyLeast N o 6 := fun i hi => (leastF_more (p := wantB 0 (i : Int)) (q := wantB 0 6) (f := rowF o (N - 1)) 64 0 (-1) (-1) (fun a _ ha hw => want06 (by omega)) (fun z => by omega) hi).1
    unfold spec_FewestKeys.F at a
    rw [l2Maze_val (by omega), hv, Option.bind_some, if_neg (by simp), p3, Option.bind_some] at a
    rcases firstGe_S hn h p1 (K := fun _ => some ((0 : Int), false)) n 0 (by omega) (by omega) (fun i hi => by omega) with ⟨i, i7, i0, il, e⟩ | ⟨low, e⟩
    · have a' := e.symm.trans a
      simp only [Option.some.injEq] at a'
      rw [← a']
      exact ⟨(decide_eq_true (more i i0)).symm, fun _ => ⟨i, rfl, i7, i0, il⟩⟩
    · have a' := e.symm.trans a
      simp only [Option.some.injEq] at a'
      have := low 6 (by omega)
      rw [← a']
      exact ⟨(decide_eq_false (by omega)).symm, fun z => by cases z⟩
/-- With a set that is asked for one needs no fewer steps. -/
theorem with_steps (hn : 2000 ≤ n) {st : Int} {q : Int × Bool} (hq : impl_FewestWith.F n N ds ks st = some q) (h2 : q.2 = true) : ∃ p : Int × Bool, impl_FewestSteps.F n N ds ks = some p ∧ p.2 = true ∧ p.1 ≤ q.1 := by
  classical
  obtain ⟨q', a, b⟩ := FewestWith_same (n := n) (N := N) (ds := ds) (ks := ks) hn st
  rw [hq] at b
  cases b
  unfold spec_FewestWith.F at a
  rw [l2Maze_val (by omega), l2Set_eq, Option.bind_some] at a
  by_cases h : VM N ds ks
  · have hv : decide (VM N ds ks) = true := by simp [h]
    simp only [hv, Bool.not_true, Bool.false_eq_true, if_false, if_true, Option.bind_some] at a
    obtain ⟨p, _, c, d⟩ := FewestSteps_same (n := n) (N := N) (ds := ds) (ks := ks) hn
    refine ⟨p, d, ?_⟩
    cases hs : setB st with
    | false =>
      rw [hs] at a
      simp only [Bool.not_false, if_true, Option.some.injEq] at a
      rw [← a] at h2
      cases h2
    | true =>
      obtain ⟨o, p1, p2, p3, p4⟩ := first_same hn h
      have h1 := h.n1
      have h2' := h.n2
      have wN : IntKind.wrap .i64 (N - 1) = N - 1 := w64s (by omega) (by omega)
      rw [hs] at a
      simp only [Bool.not_true, Bool.false_eq_true, if_false] at a
      rw [p3, Option.bind_some, wN, l4Least_eq (by omega) st 6 p1 h2' ⟨by omega, by omega⟩, Option.bind_some, told_eq] at a
      unfold spec_FewestSteps.F at c
      rw [l2Maze_val (by omega), hv, Option.bind_some, if_neg (by simp), p3, Option.bind_some, wN, l4Least_eq (by omega) 0 6 p1 h2' ⟨by omega, by omega⟩, Option.bind_some, told_eq] at c
      have a' : tldW (leastF (wantB st 6) (rowF o (N - 1)) 0 64 (-1)) = q := by
        have : some (tldW (leastF (wantB st 6) (rowF o (N - 1)) 0 64 (-1))) = some q := a
        simpa using this
      have c' : tldW (leastF (wantB 0 6) (rowF o (N - 1)) 0 64 (-1)) = p := by
        have : some (tldW (leastF (wantB 0 6) (rowF o (N - 1)) 0 64 (-1))) = some p := c
        simpa using this
      rw [← a'] at h2
      have h0 : 0 ≤ leastF (wantB st 6) (rowF o (N - 1)) 0 64 (-1) := of_decide_eq_true h2
      obtain ⟨m1, m2⟩ := leastF_more (p := wantB st 6) (q := wantB 0 6) (f := rowF o (N - 1)) 64 0 (-1) (-1) (fun a _ ha hw => want06 (by omega)) (fun z => by omega) h0
      rw [← a', ← c']
      unfold tldW
      simp only
      rw [if_neg (by omega), if_neg (by omega)]
      exact ⟨decide_eq_true m1, m2⟩
  · have hv : decide (VM N ds ks) = false := by simp [h]
    simp only [hv, Bool.not_false, if_true, Option.bind_some, Option.some.injEq] at a
    rw [← a] at h2
    cases h2
end
section
variable {n : Nat} {cd : List Int}
theorem drawRemain_ok (hn : 1000 ≤ n) (hb : Bytes cd) : ∃ N ds ks, spec_DrawRemainTable.F n cd = some (N, ds, ks) := by
  unfold spec_DrawRemainTable.F spec_DrawIsMaze.F
  obtain ⟨a1, s1, ⟨N, ds, ks⟩, e1, h1, h2, hd, hk⟩ := maze_ok (n := n) (s := 0) (by omega) hb (Int.le_refl 0) (by omega)
  rw [e1, Option.bind_some]
  exact ⟨N, ds, ks, rfl⟩
theorem drawFrom_ok (hn : 1000 ≤ n) (hb : Bytes cd) : ∃ N ds ks x s, spec_DrawFewestFrom.F n cd = some (N, ds, ks, x, s) := by
  unfold spec_DrawFewestFrom.F spec_DrawReachWith.F
  obtain ⟨a1, s1, ⟨N, ds, ks⟩, e1, h1, h2, hd, hk⟩ := maze_ok (n := n) (s := 0) (by omega) hb (Int.le_refl 0) (by omega)
  rw [e1, Option.bind_some]
  obtain ⟨a2, s2, x, e2, h3, h4, _⟩ := nodeOf_ok (n := n) (s := s1) (a := a1) hb (by omega) (by omega) N ds ks
  simp only [e2, Option.bind_some]
  obtain ⟨a4, s4, z, e4, _⟩ := colours_ok (n := n) (s := s2) (a := a2) (by omega) hb (by omega) (by omega)
  simp only [e4, Option.bind_some]
  exact ⟨_, _, _, _, _, rfl⟩
theorem drawWith_ok (hn : 1000 ≤ n) (hb : Bytes cd) : ∃ N ds ks s, spec_DrawFewestWith.F n cd = some (N, ds, ks, s) := by
  unfold spec_DrawFewestWith.F
  obtain ⟨a1, s1, ⟨N, ds, ks⟩, e1, h1, h2, hd, hk⟩ := maze_ok (n := n) (s := 0) (by omega) hb (Int.le_refl 0) (by omega)
  rw [e1, Option.bind_some]
  obtain ⟨a2, s2, b, e2, h3, h4, _⟩ := one_ok (n := n) (s := s1) (a := a1) hb (by omega) (by omega) 8
  simp only [e2, Option.bind_some]
  split
  · obtain ⟨a4, s4, z, e4, _⟩ := colours_ok (n := n) (s := s2) (a := a2) (by omega) hb (by omega) (by omega)
    simp only [e4, Option.bind_some]
    exact ⟨_, _, _, _, rfl⟩
  · obtain ⟨a4, s4, z, e4, _⟩ := few_ok (n := n) (s := s2) (a := a2) (by omega) hb (by omega) (by omega) 6
    simp only [e4, Option.bind_some]
    exact ⟨_, _, _, _, rfl⟩
theorem lawRemaining (cd : List Int) (hw : ∀ x ∈ cd, (Lit.int .u8 x).wf = true) : ∃ n, laws_FnRemaining.F n cd = some true := by
  classical
  refine ⟨2000000, ?_⟩
  have hb : Bytes cd := fun x hx => by
    have := hw x hx
    simp [Lit.wf, IntKind.min, IntKind.max, IntKind.signed, IntKind.bits] at this
    omega
  unfold laws_FnRemaining.F
  obtain ⟨b, hg⟩ : ∃ b, laws_rBig.F 2000000 cd = some b := ⟨_, rfl⟩
  rw [hg, Option.bind_some]
  cases b with
  | true => rfl
  | false =>
  rw [if_neg (by simp)]
  obtain ⟨N, ds, ks, e1⟩ := drawRemain_ok (n := 2000000) (by omega) hb
  obtain ⟨M, es, js, x, s, e2⟩ := drawFrom_ok (n := 2000000) (by omega) hb
  obtain ⟨L, fs, ls, st, e3⟩ := drawWith_ok (n := 2000000) (by omega) hb
  obtain ⟨q, f0, f1, f2, f3, f4, f5⟩ := RemainTable_q (n := 2000000) (N := N) (ds := ds) (ks := ks) (by omega)
  obtain ⟨r, t1, t2⟩ := FewestFrom_same (n := 2000000) (N := M) (ds := es) (ks := js) (by omega) x s
  obtain ⟨u, u1, u2⟩ := FewestWith_same (n := 2000000) (N := L) (ds := fs) (ks := ls) (by omega) st
  simp only [e1, Option.bind_some, f2, f3, beq_self_eq_true, Bool.not_true, Bool.false_eq_true, if_false, IsMaze_val (n := 2000000) (by omega), rTable_self (n := 2000000) (by omega) (by omega) f1]
  have tail : ∀ (T : List (List Int)) (x5 : Bool) (x8 : List Int) (x12 : Int) (x13 : Bool), laws_FnRemaining.c30 2000000 N ds ks T x5 x8 x12 x13 = some true → laws_FnRemaining.c16 2000000 cd N ds ks T x5 x8 x12 x13 = some true := by
    intro T x5 x8 x12 x13 ht
    unfold laws_FnRemaining.c16
    simp only [e2, Option.bind_some, t1, t2]
    rw [if_neg (by simp), if_neg (by simp)]
    unfold laws_FnRemaining.c21
    simp only [e3, Option.bind_some, u1, u2]
    rw [if_neg (by simp), if_neg (by simp)]
    unfold laws_FnRemaining.c26
    cases hu : u.2 with
    | false => rw [if_neg (by simp)]; exact ht
    | true =>
      obtain ⟨p, p1, p2, p3⟩ := with_steps (n := 2000000) (by omega) u2 hu
      rw [if_pos rfl, p1, Option.bind_some, p2, if_neg (by simp), if_neg (by rw [decide_eq_true_eq]; omega)]
      exact ht
  by_cases h : VM N ds ks
  · have hv : decide (VM N ds ks) = true := decide_eq_true h
    obtain ⟨g, rfl, g1, g2⟩ := f5 h
    obtain ⟨o, o1, ⟨s1, s2⟩, ⟨k1, k2⟩, w, w1, w2, w3, w4⟩ := keys_all (n := 2000000) (by omega) h
    simp only [hv, beq_self_eq_true, Bool.not_true, Bool.false_eq_true, if_false]
    unfold laws_FnRemaining.c8
    simp only [k1, k2, Option.bind_some, beq_self_eq_true, Bool.not_true, Bool.false_eq_true, if_false, rInts_self (n := 2000000) (by omega) (xs := (List.range' 0 7).map (keyLeast N o)) (by simp)]
    unfold laws_FnRemaining.c12
    simp only [w1, w2, Option.bind_some, beq_self_eq_true, Bool.not_true, Bool.false_eq_true, if_false, decide_true]
    refine tail _ _ _ _ _ ?_
    unfold laws_FnRemaining.c30
    rw [if_neg (by simp), s1, s2, Option.bind_some, Option.bind_some, if_neg (by simp), if_neg (by simp), w3]
    rw [if_neg (by unfold tldW; simp)]
    have h1 := h.n1
    have h2 := h.n2
    have hN : 0 < N.toNat := by omega
    have hlen := remTab_len (N := N) g
    have hrow := remRow_len g1 hN
    have hcell := remRow_get g1 hN (s := 0) (by omega)
    have hget := remTab_get (N := N) (g := g) hN
    obtain ⟨a1, a2, a3⟩ := start_set h
    have g0 := g2 0 (by omega)
    have hk0 : hK ks 0 = k0 ks := by
      unfold hK setK k0
      simp
    rw [hk0, show ((0 / 64 : Nat) : Int) = 0 from rfl] at g0
    obtain ⟨v, v1, v2⟩ := few_val (n := 2000000) (by omega) h
    have ev := few_one (rem_few a1 g0) v1
    rw [s1] at v2
    have v2' : tldW (keyLeast N o 6) = tldW v := by
      have : some (tldW (keyLeast N o 6)) = some (tldW v) := v2
      simpa using this
    have hpos : decide (keyLeast N o 6 ≥ 0) = decide (v ≥ 0) := congrArg Prod.snd v2'
    have hlist : ∀ i : Nat, i < 7 → ((List.range' 0 7).map (keyLeast N o)).getD i 0 = keyLeast N o i := by
      intro i hi
      rw [List.getD_eq_getElem?_getD, List.getElem?_map, List.getElem?_range' (by omega)]
      simp
    have hll : (((List.range' 0 7).map (keyLeast N o)).length : Int) = 7 := by simp
    have h38 : laws_FnRemaining.c38 2000000 N ds ks (remTab N g) = some true := by
      unfold laws_FnRemaining.c38
      exact remL_l0 (n := 2000000) (by omega) h g1 g2 2000000 0 (by omega) (Nat.zero_le _)
    have b1 : 0 ≤ (0 : Int) ∧ (0 : Int) < ((remTab N g).length : Int) := ⟨by omega, by omega⟩
    have b2 : 0 < (remTab N g).length := by omega
    have b3 : 0 ≤ (0 : Int) ∧ (0 : Int) < ((remRow g 0).length : Int) := ⟨by omega, by omega⟩
    rw [Nat.mul_zero, Nat.add_zero, ev] at hcell
    unfold laws_FnRemaining.c36
    rw [if_pos b1, if_pos b2, hget, if_pos b3, hcell]
    have t2e : (tldW (keyLeast N o 6)).2 = decide (v ≥ 0) := by rw [v2']; rfl
    have t1e : (tldW (keyLeast N o 6)).1 = (if (0 : Int) > v then (0 : Int) else v) := by rw [v2']; rfl
    rw [t2e, t1e, if_neg (by simp)]
    by_cases c : 0 ≤ v
    · have hc : decide (v ≥ 0) = true := decide_eq_true c
      have hk6 : 0 ≤ keyLeast N o 6 := by
        rw [hc] at hpos
        exact of_decide_eq_true hpos
      have e6 : keyLeast N o 6 = v := by
        have := congrArg Prod.fst v2'
        unfold tldW at this
        simp only at this
        rw [if_neg (by omega), if_neg (by omega)] at this
        exact this
      obtain ⟨i, i1, i2, i3, i4⟩ := w4 (w3.trans (decide_eq_true hk6))
      have h6 : ((List.range' 0 7).map (keyLeast N o)).getD 6 0 = v := (hlist 6 (by omega)).trans e6
      rw [hc, if_pos rfl, if_pos b1, if_pos b2, if_pos b3, if_neg (by omega : ¬ (0 : Int) > v), if_neg (by simp), if_pos rfl, hll, if_pos ⟨by omega, by omega⟩, h6, if_neg (by simp), i1, if_pos ⟨by omega, by omega⟩, Int.toNat_natCast, hlist i i2, if_neg (by rw [decide_eq_true_eq]; omega)]
      by_cases ip : 0 < i
      · have wi : IntKind.wrap .i64 ((i : Int) - 1) = ((i - 1 : Nat) : Int) := by rw [w64s (by omega) (by omega)]; omega
        have low := i4 (i - 1) (by omega)
        rw [if_pos (by rw [decide_eq_true_eq]; omega), wi, if_pos ⟨by omega, by omega⟩, Int.toNat_natCast, hlist (i - 1) (by omega), if_neg (by rw [decide_eq_true_eq]; omega)]
        exact h38
      · rw [if_neg (by rw [decide_eq_true_eq]; omega)]
        exact h38
    · have hc : decide (v ≥ 0) = false := decide_eq_false c
      rw [hc, if_neg (by simp), if_neg (by simp)]
      exact h38
  · have hv : decide (VM N ds ks) = false := decide_eq_false h
    obtain rfl := f4 h
    obtain ⟨p, p0, p1, p2⟩ := StepsAndKeys_same (n := 2000000) (N := N) (ds := ds) (ks := ks) (by omega)
    obtain ⟨w, _, w1, w2⟩ := FewestKeys_same (n := 2000000) (N := N) (ds := ds) (ks := ks) (by omega)
    have hp : p.2 = false := by
      have := p1
      unfold spec_StepsAndKeys.F at this
      rw [l2Maze_val (by omega), Option.bind_some, hv] at this
      simp only [Bool.not_false, if_true, Option.some.injEq] at this
      rw [← this]
    simp only [hv, beq_self_eq_true, Bool.not_true, Bool.false_eq_true, if_false]
    unfold laws_FnRemaining.c8
    simp only [p1, p2, hp, Option.bind_some, beq_self_eq_true, Bool.not_true, Bool.false_eq_true, if_false, rInts_self (n := 2000000) (by omega) (xs := p.1) (by omega)]
    unfold laws_FnRemaining.c12
    simp only [w1, w2, Option.bind_some, beq_self_eq_true, Bool.not_true, Bool.false_eq_true, if_false, decide_true]
    refine tail _ _ _ _ _ ?_
    unfold laws_FnRemaining.c30
    rw [if_pos (by simp)]
end
end Go.Pv
