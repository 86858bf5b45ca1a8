/- Plain laws: what both sides answer about reaching and rounds. -/
import Derived.Test.YtnnonephkmikmaaPvRounds
set_option linter.unusedVariables false
set_option linter.unusedSimpArgs false
set_option autoImplicit false
namespace Go.Pv
open Go Go.Fx Go.Pf

section
variable {n : Nat} {N : Int} {ds : List (Int × Int × Int)} {ks : List Int}
open Classical in
theorem ReachWith_same (hn : 100 ≤ n) (x s : Int) : ∃ q : List Int × Bool, q.1.length ≤ 1048576 ∧ spec_ReachWith.F n N ds ks x s = some q ∧ impl_ReachWith.F n N ds ks x s = some q := by
  unfold spec_ReachWith.F impl_ReachWith.F
  rw [isNode_eq (by omega) (by simp; omega) (by simp), l2Node_eq (by omega)]
  simp only [Option.bind_some, List.all_cons, List.all_nil, Bool.and_true, l2Set_eq, isSet_eq]
  by_cases h : VM N ds ks
  · have hv : decide (VM N ds ks) = true := by simp [h]
    rw [hv, Bool.true_and]
    cases hx : inB x 0 (N - 1) with
    | false => exact ⟨([], false), by simp, rfl, rfl⟩
    | true =>
      simp only [inB, Bool.and_eq_true, decide_eq_true_eq] at hx
      have hx' : 0 ≤ x ∧ x < N := by omega
      cases hs : setB s with
      | false => exact ⟨([], false), by simp, rfl, rfl⟩
      | true =>
        rw [reachS_eq (by omega) h hx', reach_eq (by omega) h hx', Option.bind_some, Option.bind_some, members_eq (by omega) (reachN_lt _ _ _), Option.bind_some]
        have := memL_length (reachN ds s x)
        exact ⟨(memL (reachN ds s x), true), by simp only; omega, rfl, rfl⟩
  · have hv : decide (VM N ds ks) = false := by simp [h]
    rw [hv]
    exact ⟨([], false), by simp, rfl, rfl⟩

/-- A question about a maze and some colours at first. -/
theorem ask_cases {β : Type} (hn : 100 ≤ n) (s : Int) (f g : Option β) (d : Option β) (hfg : VM N ds ks → ∀ m : Nat, s = (m : Int) → m < 2 ^ 6 → f = g) :
    ((spec_l3Ask.F n N ds ks s).bind fun r1 => if (!r1) = true then d else f) = ((impl_asked.F n N ds ks s).bind fun r1 => if (!r1) = true then d else g) := by
  classical
  rw [l3Ask_eq (by omega), asked_eq (by omega), Option.bind_some, Option.bind_some]
  by_cases h : VM N ds ks
  · cases hs : setB s with
    | false => simp
    | true =>
      obtain ⟨m, rfl, hm⟩ := setB_nat hs
      rw [hfg h m rfl hm]
  · simp [h]
theorem CanWin_same (hn : 100 ≤ n) (s : Int) : spec_CanWin.F n N ds ks s = impl_CanWin.F n N ds ks s := by
  unfold spec_CanWin.F impl_CanWin.F
  refine ask_cases hn s _ _ _ fun h m hm hm2 => ?_
  rw [hm, wins_eq hn h hm2, canWin_eq hn h hm2]
theorem GainAtLast_same (hn : 100 ≤ n) (s : Int) : spec_GainAtLast.F n N ds ks s = impl_GainAtLast.F n N ds ks s := by
  unfold spec_GainAtLast.F impl_GainAtLast.F
  refine ask_cases hn s _ _ _ fun h m hm hm2 => ?_
  rw [hm, close_eq hn h hm2, atLast_eq hn h hm2, Option.bind_some, Option.bind_some, members_eq (by omega) (reachN_lt _ _ _), Option.bind_some]
theorem helpful_l0 (hn : 100 ≤ n) (h : VM N ds ks) {K : Int → Option (Int × Bool)} {s : Nat} (hs : s < 2 ^ 6) : ∀ (j c : Nat) (o : Int), 6 - c < j → c ≤ 6 →
    spec_HelpfulColours.l0 n K j s N ds ks o c = impl_HelpfulColours.l0 n K j s N ds ks o c
  | 0, c, o, hj, _ => by omega
  | j + 1, c, o, hj, hc => by
    rw [spec_HelpfulColours.l0, impl_HelpfulColours.l0]
    by_cases c6 : c < 6
    · have k1 : decide ((c : Int) < 6) = true := by simp; omega
      have wi : IntKind.wrap .i64 ((c : Int) + 1) = ((c + 1 : Nat) : Int) := by rw [w64s (by omega) (by omega)]; omega
      have p63 : (2 : Nat) ^ 63 = 9223372036854775808 := by decide
      have p6 : (2 : Nat) ^ 6 = 64 := by decide
      have pc : 2 ^ c < 2 ^ 6 := Nat.pow_lt_pow_right (by omega) c6
      have e : bitOr .i64 (s : Int) (shL .i64 1 (c : Int)) = ((s ||| 2 ^ c : Nat) : Int) := by
        rw [shL_one (by omega)]
        exact bitOr_nat (by omega) (by omega)
      have nc : ¬ (c : Int) < 0 := by omega
      rw [if_pos k1, if_pos k1]
      simp only [if_neg nc]
      rw [e, wins_eq hn h (Nat.or_lt_two_pow hs pc), canWin_eq hn h (Nat.or_lt_two_pow hs pc), Option.bind_some, Option.bind_some, wi,
        helpful_l0 hn h hs j (c + 1) _ (by omega) (by omega), helpful_l0 hn h hs j (c + 1) _ (by omega) (by omega)]
    · have k1 : ¬ decide ((c : Int) < 6) = true := by simp; omega
      rw [if_neg k1, if_neg k1]
theorem HelpfulColours_same (hn : 100 ≤ n) (s : Int) : spec_HelpfulColours.F n N ds ks s = impl_HelpfulColours.F n N ds ks s := by
  unfold spec_HelpfulColours.F impl_HelpfulColours.F
  refine ask_cases hn s _ _ _ fun h m hm hm2 => ?_
  have := helpful_l0 hn h (K := fun y4 => some (y4, true)) hm2 n 0 0 (by omega) (by omega)
  simp only [Int.natCast_zero] at this
  rw [hm, wins_eq hn h hm2, canWin_eq hn h hm2, Option.bind_some, Option.bind_some, this]
theorem roundsOf_l0 {K : List Int → Option (List Int × Bool)} {l : List (Int × Int)} (hl : l.length ≤ 64) : ∀ (j i : Nat) (o : List Int), l.length - i < j → o.length ≤ i → i ≤ l.length →
    impl_RoundsOf.l0 n K j o l l.length i = K (o ++ (l.drop i).map (·.1))
  | 0, i, o, hj, _, _ => by omega
  | j + 1, i, o, hj, ho, hi => by
    rw [impl_RoundsOf.l0]
    by_cases c : (i : Int) < (l.length : Int)
    · have ci : i < l.length := by omega
      have ei : (i : Int).toNat = i := by omega
      have k1 : decide ((i : Int) < (l.length : Int)) = true := by simpa using c
      have k2 : 0 ≤ (i : Int) ∧ (i : Int) < (l.length : Int) := ⟨by omega, c⟩
      have wi : IntKind.wrap .i64 ((i : Int) + 1) = ((i + 1 : Nat) : Int) := by rw [w64s (by omega) (by omega)]; omega
      rw [if_pos k1, if_pos k2, ei, if_pos (by simp; omega), wi, roundsOf_l0 hl j (i + 1) _ (by omega) (by simp; omega) (by omega), getD_drop (d := ((0, 0) : Int × Int)) ci]
      simp
    · have k1 : ¬ decide ((i : Int) < (l.length : Int)) = true := by simpa using c
      have : l.drop i = [] := List.drop_eq_nil_of_le (by omega)
      rw [if_neg k1, this]
      simp
theorem RoundsOf_same (hn : 100 ≤ n) (s : Int) : spec_RoundsOf.F n N ds ks s = impl_RoundsOf.F n N ds ks s := by
  unfold spec_RoundsOf.F impl_RoundsOf.F
  refine ask_cases hn s _ _ _ fun h m hm hm2 => ?_
  obtain ⟨f1, f2, f3, f4, f5⟩ := rounds_facts h (2 ^ 6) m (by omega) hm2
  have p6 : (2 : Nat) ^ 6 = 64 := by decide
  have hl : (pairL ds (roundsL ds ks m)).length = (roundsL ds ks m).length := by simp [pairL]
  have := roundsOf_l0 (n := n) (K := fun y3 => some (y3, true)) (l := pairL ds (roundsL ds ks m)) (by omega) n 0 [] (by omega) (by simp) (by omega)
  simp only [Int.natCast_zero] at this
  rw [hm, roundsS_eq hn h hm2, roundsI_eq hn h hm2, Option.bind_some, Option.bind_some, this]
  simp [pairL, castL, List.map_map, Function.comp_def]

/-! ### Rounds in which nodes are entered -/
def enterF (o : List Int) (l : List Int) (r : Int) : List Int := l.foldl (fun o x => if o.getD x.toNat 0 = 0 then o.set x.toNat (r + 1) else o) o
theorem enterF_length (r : Int) : ∀ (l o : List Int), (enterF o l r).length = o.length
  | [], o => rfl
  | x :: l, o => by
    show (enterF (if o.getD x.toNat 0 = 0 then o.set x.toNat (r + 1) else o) l r).length = _
    rw [enterF_length r l]
    split <;> simp
theorem entered_l2 (h : VM N ds ks) {K : Int → List (Int × Int × Int) → List Int → List Int → List Int → Int → Option (List Int)} {rs l : List Int} {r : Nat} (hr : r ≤ 64) (hl : l.length ≤ 12) (hx : ∀ x ∈ l, 0 ≤ x ∧ x < N) : ∀ (j i : Nat) (o : List Int), l.length - i < j → (o.length : Int) = N →
    spec_l3Entered.l2 n K j N ds ks o rs r l i = K N ds ks (enterF o (l.drop i) r) rs r
  | 0, i, o, hj, _ => by omega
  | j + 1, i, o, hj, ho => by
    rw [spec_l3Entered.l2]
    by_cases c : (i : Int) < (l.length : Int)
    · have ci : i < l.length := by omega
      have ei : (i : Int).toNat = i := by omega
      have k1 : decide ((i : Int) < (l.length : Int)) = true := by simpa using c
      have k2 : 0 ≤ (i : Int) ∧ (i : Int) < (l.length : Int) := ⟨by omega, c⟩
      have wi : IntKind.wrap .i64 ((i : Int) + 1) = ((i + 1 : Nat) : Int) := by rw [w64s (by omega) (by omega)]; omega
      have wr : IntKind.wrap .i64 ((r : Int) + 1) = (r : Int) + 1 := w64s (by omega) (by omega)
      have hm := hx _ (getD_mem (d := (0 : Int)) ci)
      have k3 : 0 ≤ l.getD i 0 ∧ l.getD i 0 < (o.length : Int) := ⟨hm.1, by omega⟩
      have hs : enterF o (l.drop i) r = enterF (if o.getD (l.getD i 0).toNat 0 = 0 then o.set (l.getD i 0).toNat ((r : Int) + 1) else o) (l.drop (i + 1)) r := by
        rw [getD_drop (d := (0 : Int)) ci]; rfl
      rw [hs, if_pos k1, if_pos k2, ei, if_pos k3, wi, wr]
      by_cases e : o.getD (l.getD i 0).toNat 0 = 0
      · rw [if_pos (by rw [decide_eq_true_eq]; exact e), if_pos e, if_pos k2, if_pos k3, entered_l2 h hr hl hx j (i + 1) _ (by omega) (by simpa using ho)]
      · rw [if_neg (by rw [decide_eq_true_eq]; exact e), if_neg e, entered_l2 h hr hl hx j (i + 1) _ (by omega) ho]
    · have k1 : ¬ decide ((i : Int) < (l.length : Int)) = true := by simpa using c
      have : l.drop i = [] := List.drop_eq_nil_of_le (by omega)
      rw [if_neg k1, this]
      rfl
theorem nodeRounds_l2 (h : VM N ds ks) {K : List Int → List (Int × Int) → Int → Int → Option (List Int)} {rs : List (Int × Int)} {a b : Int} {l : List Int} {r : Nat} (hr : r ≤ 64) (hl : l.length ≤ 12) (hx : ∀ x ∈ l, 0 ≤ x ∧ x < N) : ∀ (j i : Nat) (o : List Int), l.length - i < j → (o.length : Int) = N →
    impl_nodeRounds.l2 n K j o r rs a b l l.length i = K (enterF o (l.drop i) r) rs a b
  | 0, i, o, hj, _ => by omega
  | j + 1, i, o, hj, ho => by
    rw [impl_nodeRounds.l2]
    by_cases c : (i : Int) < (l.length : Int)
    · have ci : i < l.length := by omega
      have ei : (i : Int).toNat = i := by omega
      have k1 : decide ((i : Int) < (l.length : Int)) = true := by simpa using c
      have k2 : 0 ≤ (i : Int) ∧ (i : Int) < (l.length : Int) := ⟨by omega, c⟩
      have wi : IntKind.wrap .i64 ((i : Int) + 1) = ((i + 1 : Nat) : Int) := by rw [w64s (by omega) (by omega)]; omega
      have wr : IntKind.wrap .i64 ((r : Int) + 1) = (r : Int) + 1 := w64s (by omega) (by omega)
      have hm := hx _ (getD_mem (d := (0 : Int)) ci)
      have k3 : 0 ≤ l.getD i 0 ∧ l.getD i 0 < (o.length : Int) := ⟨hm.1, by omega⟩
      have hs : enterF o (l.drop i) r = enterF (if o.getD (l.getD i 0).toNat 0 = 0 then o.set (l.getD i 0).toNat ((r : Int) + 1) else o) (l.drop (i + 1)) r := by
        rw [getD_drop (d := (0 : Int)) ci]; rfl
      rw [hs, if_pos k1, if_pos k2, ei, if_pos k3, wi, wr]
      by_cases e : o.getD (l.getD i 0).toNat 0 = 0
      · rw [if_pos (by rw [decide_eq_true_eq]; exact e), if_pos e, if_pos k3, nodeRounds_l2 h hr hl hx j (i + 1) _ (by omega) (by simpa using ho)]
      · rw [if_neg (by rw [decide_eq_true_eq]; exact e), if_neg e, nodeRounds_l2 h hr hl hx j (i + 1) _ (by omega) ho]
    · have k1 : ¬ decide ((i : Int) < (l.length : Int)) = true := by simpa using c
      have : l.drop i = [] := List.drop_eq_nil_of_le (by omega)
      rw [if_neg k1, this]
      rfl
theorem enter_same (hn : 100 ≤ n) (h : VM N ds ks) {K : List Int → Option (List Int)} {rs : List Nat} (hrs : rs.length ≤ 64) : ∀ (j i : Nat) (o : List Int), rs.length - i < j → (o.length : Int) = N →
    ∃ o' : List Int, (o'.length : Int) = N ∧ spec_l3Entered.l0 n K j N ds ks o (castL rs) i = K o' ∧ impl_nodeRounds.l0 n K j o (pairL ds rs) rs.length i = K o'
  | 0, i, o, hj, _ => by omega
  | j + 1, i, o, hj, ho => by
    rw [spec_l3Entered.l0, impl_nodeRounds.l0]
    have l1 : (castL rs).length = rs.length := by simp [castL]
    have l2 : (pairL ds rs).length = rs.length := by simp [pairL]
    by_cases c : (i : Int) < (rs.length : Int)
    · have ci : i < rs.length := by omega
      have ei : (i : Int).toNat = i := by omega
      have k1 : decide ((i : Int) < (rs.length : Int)) = true := by simpa using c
      have k2 : 0 ≤ (i : Int) ∧ (i : Int) < (rs.length : Int) := ⟨by omega, c⟩
      have wi : IntKind.wrap .i64 ((i : Int) + 1) = ((i + 1 : Nat) : Int) := by rw [w64s (by omega) (by omega)]; omega
      have g1 : (castL rs).getD i 0 = ((rs.getD i 0 : Nat) : Int) := by
        rw [List.getD_eq_getElem?_getD, List.getD_eq_getElem?_getD, castL, List.getElem?_map, List.getElem?_eq_getElem ci]; rfl
      have g2 : (pairL ds rs).getD i (0, 0) = (((rs.getD i 0 : Nat) : Int), ((reachN ds ((rs.getD i 0 : Nat) : Int) 0 : Nat) : Int)) := by
        rw [List.getD_eq_getElem?_getD, List.getD_eq_getElem?_getD, pairL, List.getElem?_map, List.getElem?_eq_getElem ci]; rfl
      rw [l1, l2, if_pos k1, if_pos k1, if_pos k2, if_pos k2, ei, g1, g2, reachS_eq (by omega) h ⟨by omega, by have := h.n1; omega⟩, Option.bind_some, members_eq (by omega) (reachN_lt _ _ _), Option.bind_some]
      generalize ((rs.getD i 0 : Nat) : Int) = s
      have hml := memL_length (reachN ds s 0)
      have e1 := entered_l2 (n := n) h (K := fun y3 y4 y5 y6 y7 y8 => spec_l3Entered.l0 n K j y3 y4 y5 y6 y7 (IntKind.wrap .i64 (y8 + (1 : Int)))) (rs := castL rs) (l := memL (reachN ds s 0)) (r := i) (by omega) hml (fun x hx => reach_mem h hx) n 0 o (by omega) ho
      have e2 := nodeRounds_l2 (n := n) h (K := fun y3 y4 y5 y6 => impl_nodeRounds.l0 n K j y3 y4 y5 (IntKind.wrap .i64 (y6 + (1 : Int)))) (rs := pairL ds rs) (a := (rs.length : Int)) (b := (i : Int)) (l := memL (reachN ds s 0)) (r := i) (by omega) hml (fun x hx => reach_mem h hx) n 0 o (by omega) ho
      simp only [Int.natCast_zero, List.drop_zero] at e1 e2
      rw [e1, e2, wi]
      exact enter_same hn h hrs j (i + 1) _ (by omega) (by rw [enterF_length]; exact ho)
    · have k1 : ¬ decide ((i : Int) < (rs.length : Int)) = true := by simpa using c
      rw [l1, if_neg k1, if_neg k1]
      exact ⟨o, ho, rfl, rfl⟩
theorem entered_same (hn : 100 ≤ n) (h : VM N ds ks) {s : Nat} (hs : s < 2 ^ 6) : ∃ o' : List Int, (o'.length : Int) = N ∧ spec_l3Entered.F n N ds ks (s : Int) = some o' ∧ impl_nodeRounds.F n N ds ks (s : Int) = some o' := by
  unfold spec_l3Entered.F impl_nodeRounds.F
  have h1 := h.n1
  have h2 := h.n2
  have p6 : (2 : Nat) ^ 6 = 64 := by decide
  obtain ⟨f1, f2, f3, f4, f5⟩ := rounds_facts h (2 ^ 6) s (by omega) hs
  have l2 : (pairL ds (roundsL ds ks s)).length = (roundsL ds ks s).length := by simp [pairL]
  rw [if_pos ⟨by omega, by omega, by omega⟩, if_pos ⟨by omega, by omega, by omega⟩, roundsS_eq hn h hs, roundsI_eq hn h hs, Option.bind_some, Option.bind_some, l2]
  have := enter_same hn h (K := fun y => some y) (rs := roundsL ds ks s) (by omega) n 0 (List.replicate N.toNat 0) (by omega) (by simp; omega)
  simpa using this
theorem NodeRounds_same (hn : 100 ≤ n) (s : Int) : spec_NodeRounds.F n N ds ks s = impl_NodeRounds.F n N ds ks s := by
  unfold spec_NodeRounds.F impl_NodeRounds.F
  refine ask_cases hn s _ _ _ fun h m hm hm2 => ?_
  obtain ⟨o, _, e1, e2⟩ := entered_same hn h hm2
  rw [hm, e1, e2]
theorem WinRound_same (hn : 100 ≤ n) (s : Int) : spec_WinRound.F n N ds ks s = impl_WinRound.F n N ds ks s := by
  unfold spec_WinRound.F impl_WinRound.F
  refine ask_cases hn s _ _ _ fun h m hm hm2 => ?_
  obtain ⟨o, _, e1, e2⟩ := entered_same hn h hm2
  rw [hm, e1, e2]
/-- They do answer. -/
theorem ask_some {β : Type} (hn : 100 ≤ n) (s : Int) (g : Option β) (d : β) (p : β → Prop) (hd : p d) (hg : VM N ds ks → ∀ m : Nat, s = (m : Int) → m < 2 ^ 6 → ∃ q, g = some q ∧ p q) :
    ∃ q, ((impl_asked.F n N ds ks s).bind fun r1 => if (!r1) = true then some d else g) = some q ∧ p q := by
  classical
  rw [asked_eq (by omega), Option.bind_some]
  by_cases h : VM N ds ks
  · cases hs : setB s with
    | false => exact ⟨d, by simp, hd⟩
    | true =>
      obtain ⟨m, hm, hm2⟩ := setB_nat hs
      obtain ⟨q, hq, hp⟩ := hg h m hm hm2
      exact ⟨q, by simp [h, hq], hp⟩
  · exact ⟨d, by simp [h], hd⟩
theorem CanWin_some (hn : 100 ≤ n) (s : Int) : ∃ q, impl_CanWin.F n N ds ks s = some q := by
  unfold impl_CanWin.F
  obtain ⟨q, hq, _⟩ := ask_some (N := N) (ds := ds) (ks := ks) hn s ((impl_canWin.F n N ds ks s).bind fun r2 => some (r2, true)) (false, false) (fun _ => True) trivial fun h m hm hm2 => by
    rw [hm, canWin_eq hn h hm2]; exact ⟨_, rfl, trivial⟩
  exact ⟨q, hq⟩
theorem GainAtLast_some (hn : 100 ≤ n) (s : Int) : ∃ q : Int × List Int × Bool, impl_GainAtLast.F n N ds ks s = some q ∧ q.2.1.length ≤ 1048576 := by
  unfold impl_GainAtLast.F
  refine ask_some hn s _ (0, [], false) (fun q => q.2.1.length ≤ 1048576) (by simp) fun h m hm hm2 => ?_
  rw [hm, atLast_eq hn h hm2, Option.bind_some, members_eq (by omega) (reachN_lt _ _ _), Option.bind_some]
  have := memL_length (reachN ds ((lastN ds ks m : Nat) : Int) 0)
  exact ⟨_, rfl, by simp only; omega⟩
theorem RoundsOf_some (hn : 100 ≤ n) (s : Int) : ∃ q : List Int × Bool, impl_RoundsOf.F n N ds ks s = some q ∧ q.1.length ≤ 1048576 := by
  rw [← RoundsOf_same hn]
  have e : spec_RoundsOf.F n N ds ks s = ((impl_asked.F n N ds ks s).bind fun r1 => if (!r1) = true then some ([], false) else (spec_l3Rounds.F n N ds ks s).bind fun r2 => some (r2, true)) := by
    unfold spec_RoundsOf.F
    exact ask_cases hn s _ _ _ fun _ _ _ _ => rfl
  rw [e]
  refine ask_some hn s _ ([], false) (fun q => q.1.length ≤ 1048576) (by simp) fun h m hm hm2 => ?_
  obtain ⟨f1, f2, f3, f4, f5⟩ := rounds_facts h (2 ^ 6) m (by omega) hm2
  have p6 : (2 : Nat) ^ 6 = 64 := by decide
  rw [hm, roundsS_eq hn h hm2]
  exact ⟨_, rfl, by simp [castL]; omega⟩
theorem NodeRounds_some (hn : 100 ≤ n) (s : Int) : ∃ q : List Int × Bool, impl_NodeRounds.F n N ds ks s = some q ∧ q.1.length ≤ 1048576 := by
  unfold impl_NodeRounds.F
  refine ask_some hn s _ ([], false) (fun q => q.1.length ≤ 1048576) (by simp) fun h m hm hm2 => ?_
  obtain ⟨o, ho, e1, e2⟩ := entered_same hn h hm2
  have := h.n2
  rw [hm, e2]
  exact ⟨_, rfl, by simp only; omega⟩
theorem WinRound_some (hn : 100 ≤ n) (s : Int) : ∃ q, impl_WinRound.F n N ds ks s = some q := by
  unfold impl_WinRound.F
  obtain ⟨q, hq, _⟩ := ask_some (N := N) (ds := ds) (ks := ks) hn s ((impl_nodeRounds.F n N ds ks s).bind fun r2 => if 0 ≤ (IntKind.wrap .i64 (N - (1 : Int))) ∧ (IntKind.wrap .i64 (N - (1 : Int))) < (r2.length : Int) then (some (r2.getD ((IntKind.wrap .i64 (N - (1 : Int))).toNat) (0 : Int), (decide ((r2.getD ((IntKind.wrap .i64 (N - (1 : Int))).toNat) (0 : Int)) > (0 : Int))))) else none) ((0 : Int), false) (fun _ => True) trivial fun h m hm hm2 => by
    obtain ⟨o, ho, e1, e2⟩ := entered_same hn h hm2
    have h1 := h.n1
    have h2 := h.n2
    rw [hm, e2, Option.bind_some, w64s (by omega) (by omega), if_pos ⟨by omega, by omega⟩]
    exact ⟨_, rfl, trivial⟩
  exact ⟨q, hq⟩
theorem helpful_some (hn : 100 ≤ n) (h : VM N ds ks) {K : Int → Option (Int × Bool)} (hK : ∀ o, ∃ q, K o = some q) {s : Nat} (hs : s < 2 ^ 6) : ∀ (j c : Nat) (o : Int), 6 - c < j → c ≤ 6 →
    ∃ q, impl_HelpfulColours.l0 n K j s N ds ks o c = some q
  | 0, c, o, hj, _ => by omega
  | j + 1, c, o, hj, hc => by
    rw [impl_HelpfulColours.l0]
    by_cases c6 : c < 6
    · have k1 : decide ((c : Int) < 6) = true := by simp; omega
      have wi : IntKind.wrap .i64 ((c : Int) + 1) = ((c + 1 : Nat) : Int) := by rw [w64s (by omega) (by omega)]; omega
      have p63 : (2 : Nat) ^ 63 = 9223372036854775808 := by decide
      have p6 : (2 : Nat) ^ 6 = 64 := by decide
      have pc : 2 ^ c < 2 ^ 6 := Nat.pow_lt_pow_right (by omega) c6
      have e : bitOr .i64 (s : Int) (shL .i64 1 (c : Int)) = ((s ||| 2 ^ c : Nat) : Int) := by
        rw [shL_one (by omega)]
        exact bitOr_nat (by omega) (by omega)
      rw [if_pos k1, if_neg (by omega), e, canWin_eq hn h (Nat.or_lt_two_pow hs pc), Option.bind_some, wi]
      split
      · rw [if_neg (by omega)]
        exact helpful_some hn h hK hs j (c + 1) _ (by omega) (by omega)
      · exact helpful_some hn h hK hs j (c + 1) _ (by omega) (by omega)
    · have k1 : ¬ decide ((c : Int) < 6) = true := by simp; omega
      rw [if_neg k1]
      exact hK o
theorem HelpfulColours_some (hn : 100 ≤ n) (s : Int) : ∃ q, impl_HelpfulColours.F n N ds ks s = some q := by
  unfold impl_HelpfulColours.F
  obtain ⟨q, hq, _⟩ := ask_some (N := N) (ds := ds) (ks := ks) hn s ((impl_canWin.F n N ds ks s).bind fun r2 => if r2 = true then some ((0 : Int), false) else impl_HelpfulColours.l0 n (fun y4 => some (y4, true)) n s N ds ks (0 : Int) (0 : Int)) ((0 : Int), false) (fun _ => True) trivial fun h m hm hm2 => by
    rw [hm, canWin_eq hn h hm2, Option.bind_some]
    split
    · exact ⟨_, rfl, trivial⟩
    · obtain ⟨q, hq⟩ := helpful_some hn h (K := fun y4 => some (y4, true)) (fun o => ⟨_, rfl⟩) hm2 n 0 0 (by omega) (by omega)
      exact ⟨q, by simpa using hq, trivial⟩
  exact ⟨q, hq⟩
end
end Go.Pv
