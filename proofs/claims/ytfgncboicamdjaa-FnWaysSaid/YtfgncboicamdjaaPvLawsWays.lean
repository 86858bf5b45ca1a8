/- The plain law of ways: a first way, its steps, the count of the ways, the table of steps, states, detours and ways back. -/
import Derived.Test.YtfgncboicamdjaaPvWays
import Derived.Test.YtfgncboicamdjaaPvCntS
import Derived.Test.YtfgncboicamdjaaPvDrawM
import Derived.Test.YtfgncboicamdjaaPvDrawW
set_option linter.unusedVariables false
set_option linter.unusedSimpArgs false
set_option autoImplicit false
namespace Go.Pv
open Go Go.Fx Go.Pf
section
variable {n : Nat} {cd : List Int}
theorem drawFirstWay_ok (hn : 1000 ≤ n) (hb : Bytes cd) : ∃ N ds ks, spec_DrawFirstWay.F n cd = some (N, ds, ks) := by
  unfold spec_DrawFirstWay.F spec_DrawIsMaze.F
  obtain ⟨a1, s1, ⟨N, ds, ks⟩, e1, h1, h2, hd, hk⟩ := maze_ok (n := n) (s := 0) (by omega) hb (Int.le_refl 0) (by omega)
  rw [e1, Option.bind_some]
  exact ⟨N, ds, ks, rfl⟩
theorem drawWayBack_ok (hn : 1000 ≤ n) (hb : Bytes cd) : ∃ N ds ks ws, spec_DrawWayBack.F n cd = some (N, ds, ks, ws) ∧ ws.length ≤ 100 := by
  unfold spec_DrawWayBack.F spec_DrawIsKeyWalk.F
  obtain ⟨a1, s1, ⟨N, ds, ks⟩, e1, h1, h2, hd, hk⟩ := maze_ok (n := n) (s := 0) (by omega) hb (Int.le_refl 0) (by omega)
  rw [e1, Option.bind_some]
  obtain ⟨a2, s2, ws, e2, h3, h4, hl⟩ := walk_ok (n := n) (s := s1) (a := a1) (by omega) hb (by omega) (by omega) N ds ks
  simp only [e2, Option.bind_some]
  exact ⟨_, _, _, _, rfl, hl⟩
theorem ways_l0 {K : Int → (List (Int × Int × Int)) → (List (Int)) → (List (Int)) → Bool → Int → (List (Int)) → Int → Int → Option (Bool)} {N : Int} {ds : List (Int × Int × Int)} {ks w : List Int} {b : Bool} {v : Int} {tb : List Int} {q : Int} (hl : tb.length ≤ 1000) :
    ∀ (j i c : Nat), tb.length - i < j → c ≤ i → i ≤ tb.length → laws_FnWays.l0 n K j N ds ks w b v tb q (c : Int) (i : Int) = K N ds ks w b v tb q ((c + (tb.drop i).countP (fun e => decide (0 ≤ e)) : Nat) : Int)
  | 0, i, c, hj, _, _ => by omega
  | j + 1, i, c, hj, hc, hi => by
    rw [laws_FnWays.l0]
    by_cases k : i < tb.length
    · have k1 : decide ((i : Int) < (tb.length : Int)) = true := by simpa using k
      have k2 : 0 ≤ (i : Int) ∧ (i : Int) < (tb.length : Int) := ⟨by omega, by omega⟩
      have wi : IntKind.wrap .i64 ((i : Int) + 1) = ((i + 1 : Nat) : Int) := by rw [w64s (by omega) (by omega)]; omega
      have wc : IntKind.wrap .i64 ((c : Int) + 1) = ((c + 1 : Nat) : Int) := by rw [w64s (by omega) (by omega)]; omega
      have hcons : tb.drop i = tb.getD i 0 :: tb.drop (i + 1) := by
        rw [List.drop_eq_getElem_cons k, List.getD_eq_getElem?_getD, List.getElem?_eq_getElem k]
        rfl
      rw [if_pos k1, if_pos k2, Int.toNat_natCast, hcons, List.countP_cons]
      by_cases e : 0 ≤ tb.getD i 0
      · rw [if_pos (decide_eq_true e), wc, wi, ways_l0 hl j (i + 1) (c + 1) (by omega) (by omega) (by omega), if_pos (decide_eq_true e)]
        congr 2
        omega
      · rw [if_neg fun z => e (of_decide_eq_true z), wi, ways_l0 hl j (i + 1) c (by omega) (by omega) (by omega), if_neg fun z => e (of_decide_eq_true z)]
        congr 2
    · have k1 : ¬ decide ((i : Int) < (tb.length : Int)) = true := by simpa using k
      rw [if_neg k1, List.drop_of_length_le (by omega), List.countP_nil, Nat.add_zero]
theorem ways_l2 {K : Unit → Option Bool} (hK : K () = some true) {w tb : List Int} (hl : w.length ≤ 1000) (ok : ∀ i, i < w.length → (0 ≤ w.getD i 0 ∧ w.getD i 0 < (tb.length : Int)) ∧ 0 ≤ tb.getD (w.getD i 0).toNat 0 ∧ tb.getD (w.getD i 0).toNat 0 ≤ (i : Int)) :
    ∀ (j i : Nat), w.length - i < j → i ≤ w.length → laws_FnWays.l2 n K j w tb (i : Int) = some true
  | 0, i, hj, _ => by omega
  | j + 1, i, hj, hi => by
    rw [laws_FnWays.l2]
    by_cases k : i < w.length
    · have k1 : decide ((i : Int) < (w.length : Int)) = true := by simpa using k
      have k2 : 0 ≤ (i : Int) ∧ (i : Int) < (w.length : Int) := ⟨by omega, by omega⟩
      have wi : IntKind.wrap .i64 ((i : Int) + 1) = ((i + 1 : Nat) : Int) := by rw [w64s (by omega) (by omega)]; omega
      obtain ⟨o1, o2, o3⟩ := ok i k
      rw [if_pos k1, if_pos k2, Int.toNat_natCast, if_pos o1, if_neg (by rw [decide_eq_true_eq]; omega), if_pos k2, if_pos o1, if_neg (by rw [decide_eq_true_eq]; omega), wi]
      exact ways_l2 hK hl ok j (i + 1) (by omega) (by omega)
    · have k1 : ¬ decide ((i : Int) < (w.length : Int)) = true := by simpa using k
      rw [if_neg k1, hK]
theorem tab_get {f : Int → Int} {N : Int} {x : Int} (h0 : 0 ≤ x) (h1 : x < N) : ((List.range N.toNat).map (fun y : Nat => f (y : Int))).getD x.toNat 0 = f x := by
  rw [List.getD_eq_getElem?_getD, List.getElem?_map, List.getElem?_range (by omega)]
  simp only [Option.map_some, Option.getD_some]
  rw [show ((x.toNat : Nat) : Int) = x by omega]
/-- What is left where all is said to hold. -/
theorem way_c42 (hn : 2000 ≤ n) {N : Int} {ds : List (Int × Int × Int)} {ks : List Int} (h : VM N ds ks) {o : List Int} (S : Sp N ds ks o 0 (k0 ks)) {v : Int} (hv : IsFew N ds ks v) {q : List Int × Bool} (hq : WayQ N ds ks q) :
    laws_FnWays.c42 n N ds ks q.1 q.2 (if (0 : Int) > v then (0 : Int) else v) ((List.range N.toNat).map (fun y : Nat => leastT o (y : Int))) = some true := by
  obtain ⟨s, hs, hs6, v', hv', hq⟩ := hq
  obtain ⟨a1, a2, a3⟩ := start_set h
  have h1 := h.n1
  have h2 := h.n2
  have es : s = k0 ks := by omega
  subst es
  have e := few_one (rem_few hs hv') hv
  subst e
  unfold laws_FnWays.c42
  rcases hq with ⟨c, hq⟩ | ⟨c, c2, hq2, w, hq1, hwl, hk⟩
  · rw [hq]
    rfl
  · rw [show (if (0 : Int) > v' then (0 : Int) else v') = v' from if_neg (by omega), hq2, hq1, if_neg (by simp), keyWalk_more (n := n) hn (More.refl h) hs hs6 (by omega) hk, Option.bind_some, if_neg (by simp), if_neg (by simp)]
    have wv : IntKind.wrap .i64 (v' + 1) = v' + 1 := w64s (by omega) (by omega)
    have wN : IntKind.wrap .i64 (N - 1) = N - 1 := w64s (by omega) (by omega)
    have hlen : (((0 : Int) :: w).length : Int) = v' + 1 := by rw [List.length_cons]; omega
    have htl : ((((List.range N.toNat).map (fun y : Nat => leastT o (y : Int))).length : Nat) : Int) = N := by rw [List.length_map, List.length_range]; omega
    have ev : v'.toNat = w.length := by omega
    have hlast := kw_last w 0 (k0 ks) hk
    have hsteps : ∀ i, i ≤ w.length → ∃ t, Rn ds ks 0 (k0 ks) i (((0 : Int) :: w).getD i 0) t := fun i hi => by
      have := kw_rn (s0 := k0 ks) w 0 0 (k0 ks) ⟨rfl, rfl⟩ hk i hi
      rwa [Nat.zero_add] at this
    have hgoal : leastT o (N - 1) = v' := by
      obtain ⟨L1, L2, L3⟩ := S.least h a3 hs6 (z := N - 1) ⟨by omega, by omega⟩
      refine few_one (N := N) (ds := ds) (ks := ks) ?_ hv
      obtain ⟨t, ht⟩ := hsteps w.length (Nat.le_refl _)
      rw [hlast] at ht
      have hp := (L3 _ _ ht).1
      exact .inl ⟨hp, L2 hp, fun k t hk => (L3 k t hk).2⟩
    rw [wv, wN, hlen, if_neg (by simp), if_pos ⟨c, by omega⟩, ev, hlast, if_neg (by simp), htl, if_pos ⟨by omega, by omega⟩, tab_get (f := leastT o) (by omega) (by omega), hgoal, if_neg (by simp)]
    unfold laws_FnWays.c47
    have := ways_l2 (n := n) (K := fun _ => some true) rfl (w := 0 :: w) (tb := (List.range N.toNat).map (fun y : Nat => leastT o (y : Int))) (by omega) (fun i hi => by
      rw [List.length_cons] at hi
      obtain ⟨t, ht⟩ := hsteps i (by omega)
      have hr := (rn_range h a3 hs6 _ _ _ ht).1
      obtain ⟨L1, L2, L3⟩ := S.least h a3 hs6 (z := ((0 : Int) :: w).getD i 0) hr
      have := L3 _ _ ht
      rw [htl, tab_get (f := leastT o) hr.1 hr.2]
      exact ⟨hr, this⟩) n 0 (by omega) (Nat.zero_le _)
    exact this
theorem lawWays (cd : List Int) (hw : ∀ x ∈ cd, (Lit.int .u8 x).wf = true) : ∃ n, laws_FnWays.F n cd = some true := by
  classical
  refine ⟨2000000, ?_⟩
  have hb : Bytes cd := fun x hx => by
    have := hw x hx
    simp [Lit.wf, IntKind.min, IntKind.max, IntKind.signed, IntKind.bits] at this
    omega
  unfold laws_FnWays.F
  obtain ⟨g, hg⟩ : ∃ g, laws_rBig.F 2000000 cd = some g := ⟨_, rfl⟩
  rw [hg, Option.bind_some]
  cases g with
  | true => rfl
  | false =>
  rw [if_neg (by simp)]
  obtain ⟨N, ds, ks, e1⟩ := drawFirstWay_ok (n := 2000000) (by omega) hb
  obtain ⟨M, es, js, ws, e2, hws⟩ := drawWayBack_ok (n := 2000000) (by omega) hb
  obtain ⟨q, f0, f1, f2, f3, f4⟩ := FirstWay_q (n := 2000000) (N := N) (ds := ds) (ks := ks) (by omega)
  obtain ⟨p, c1, c2, c3, c4⟩ := CountWays_q (n := 2000000) (N := N) (ds := ds) (ks := ks) (by omega)
  obtain ⟨dd, d1, d2, d3, fw, w1, w2, d4⟩ := Detour_q (n := 2000000) (N := N) (ds := ds) (ks := ks) (by omega)
  obtain ⟨b, b1, b2, b3⟩ := WayBack_q (n := 2000000) (N := M) (ds := es) (ks := js) (by omega) (ws := ws) (by omega)
  have wb : IntKind.wrap .i64 ((ws.length : Int) - 1) = (ws.length : Int) - 1 := w64 (by omega) (by omega)
  simp only [e1, Option.bind_some, f1, f2, beq_self_eq_true, Bool.not_true, Bool.false_eq_true, if_false, rInts_self (n := 2000000) (by omega) (xs := q.1) (by omega)]
  unfold laws_FnWays.c8
  rw [w1, w2, Option.bind_some, Option.bind_some, if_neg (by simp), if_neg (by simp)]
  have h28 : ∀ x13 x16 x20, laws_FnWays.c33 2000000 N ds ks q.1 q.2 fw.1 x13 x16 x20 = some true → laws_FnWays.c24 2000000 cd N ds ks q.1 q.2 fw.1 x13 x16 x20 = some true ∨ ¬ fw.2 = q.2 := by
    intro x13 x16 x20 h33
    by_cases hq : fw.2 = q.2
    · refine .inl ?_
      unfold laws_FnWays.c24
      rw [d1, d2, Option.bind_some, Option.bind_some, if_neg (by simp), if_neg (by simp), d4, hq, if_neg (by simp), if_neg (by rw [decide_eq_true_eq]; omega)]
      unfold laws_FnWays.c28
      simp only [e2, Option.bind_some, b1, b2]
      rw [if_neg (by simp), if_neg (by simp), wb]
      cases hb2 : b.2 with
      | false => rw [if_neg (by simp)]; exact h33
      | true =>
        have := b3 hb2
        rw [if_pos rfl, if_neg (by rw [decide_eq_true_eq]; omega)]
        exact h33
    · exact .inr hq
  by_cases h : VM N ds ks
  · obtain ⟨v, hv, hf⟩ := few_val (n := 2000000) (by omega) h
    rw [w2] at hf
    simp only [Option.some.injEq] at hf
    have hway := f4 h
    obtain ⟨s, hs, hs6, v', hv', hq⟩ := f4 h
    obtain ⟨a1, a2, a3⟩ := start_set h
    have h1 := h.n1
    have h2 := h.n2
    have eks : s = k0 ks := by omega
    subst eks
    have e := few_one (rem_few hs hv') hv
    subst e
    have hfq : fw.2 = q.2 := by
      rw [hf]
      rcases hq with ⟨c, hq⟩ | ⟨c, _, hq, _⟩
      · rw [hq]; simp only; exact decide_eq_false (by omega)
      · rw [hq]; exact decide_eq_true c
    obtain ⟨p2, s', hs', _, v2, hv2, hp1⟩ := c4 h
    have e' : s' = k0 ks := by omega
    subst e'
    have e3 : v2 = v' := hv2.unique hv'
    subst e3
    rw [hfq, if_neg (by simp)]
    unfold laws_FnWays.c12
    rw [c1, c2, Option.bind_some, Option.bind_some, if_neg (by simp), if_neg (by simp), IsMaze_val (by omega), Option.bind_some, p2, decide_eq_true h, if_neg (by simp), if_pos rfl]
    have hq5 : q.2 = decide (p.1 > 0) := by
      rw [← hfq, hf]
      simp only
      by_cases c : 0 ≤ v2
      · rw [decide_eq_true c, decide_eq_true (hp1.2 c)]
      · rw [decide_eq_false c, decide_eq_false fun z => c (hp1.1 z)]
    rw [if_neg (by rw [hq5]; simp)]
    obtain ⟨o, S, t1, t2, s1, s2⟩ := spread_all (n := 2000000) (by omega) h
    have htl : ((List.range N.toNat).map (fun y : Nat => leastT o (y : Int))).length = N.toNat := by rw [List.length_map, List.length_range]
    unfold laws_FnWays.c16
    simp only [t1, t2, Option.bind_some, beq_self_eq_true, Bool.not_true, Bool.false_eq_true, if_false, rInts_self (n := 2000000) (by omega) (xs := (List.range N.toNat).map (fun y : Nat => leastT o (y : Int))) (by omega)]
    unfold laws_FnWays.c20
    simp only [s1, s2, Option.bind_some, beq_self_eq_true, Bool.not_true, Bool.false_eq_true, if_false, decide_true]
    have hf1 : fw.1 = (if (0 : Int) > v2 then (0 : Int) else v2) := by rw [hf]
    have h42 := way_c42 (n := 2000000) (by omega) h S hv hway
    rw [← hf1] at h42
    obtain ⟨sb1, sb2⟩ := states_bound h a3 hs6 S N.toNat 0 (by omega) (Nat.zero_le _)
    rw [Nat.mul_zero, List.drop_zero, List.drop_zero] at sb1 sb2
    have hcl : ((List.range N.toNat).map (fun y : Nat => leastT o (y : Int))).countP (fun e => decide (0 ≤ e)) ≤ 12 := by
      have := List.countP_le_length (p := fun e : Int => decide (0 ≤ e)) (l := (List.range N.toNat).map (fun y : Nat => leastT o (y : Int)))
      omega
    refine (h28 true _ _ ?_).resolve_right fun z => z hfq
    unfold laws_FnWays.c33
    rw [if_pos rfl]
    have hl0 := ways_l0 (n := 2000000) (N := N) (ds := ds) (ks := ks) (w := q.1) (b := q.2) (v := fw.1) (tb := (List.range N.toNat).map (fun y : Nat => leastT o (y : Int))) (q := ((o.countP fun e => decide (0 ≤ e) : Nat) : Int)) (K := fun y21 y22 y23 y24 y25 y26 y27 y28 y29 =>
      if (decide (y28 < y29)) = true then
        some false
      else
        if (decide (y28 > (IntKind.wrap .i64 (y29 * (64 : Int))))) = true then
          some false
        else
          if 0 ≤ (0 : Int) ∧ (0 : Int) < (y27.length : Int) then (if (!decide ((y27.getD 0 (0 : Int)) = (0 : Int))) = true then
            some false
          else
            laws_FnWays.c42 2000000 y21 y22 y23 y24 y25 y26 y27) else none) (by omega) 2000000 0 0 (by omega) (by omega) (by omega)
    rw [List.drop_zero, Nat.zero_add] at hl0
    refine hl0.trans ?_
    have w6 : ∀ c : Nat, c ≤ 12 → IntKind.wrap .i64 ((c : Int) * 64) = (c : Int) * 64 := fun c hc => w64s (by omega) (by omega)
    obtain ⟨L1, L2, L3⟩ := S.least h a3 hs6 (z := 0) a3
    obtain ⟨L4, L5⟩ := L3 0 (k0 ks) ⟨rfl, rfl⟩
    have hz : ((List.range N.toNat).map (fun y : Nat => leastT o (y : Int))).getD 0 0 = 0 := by
      have := tab_get (f := leastT o) (N := N) (x := 0) (by omega) (by omega)
      rw [show (0 : Int).toNat = 0 from rfl] at this
      rw [this]
      omega
    rw [if_neg (by rw [decide_eq_true_eq]; omega), w6 _ hcl, if_neg (by rw [decide_eq_true_eq]; omega), if_pos ⟨by omega, by omega⟩, hz, if_neg (by simp)]
    exact h42
  · have hv : decide (VM N ds ks) = false := decide_eq_false h
    have hq := f3 h
    have hp := c3 h
    have hfw : fw.2 = false := by
      have := w2
      unfold spec_FewestSteps.F at this
      rw [l2Maze_val (by omega), Option.bind_some, hv] at this
      simp only [Bool.not_false, if_true, Option.some.injEq] at this
      rw [← this]
    rw [hfw, hq, if_neg (by simp)]
    unfold laws_FnWays.c12
    rw [c1, c2, Option.bind_some, Option.bind_some, if_neg (by simp), if_neg (by simp), IsMaze_val (by omega), Option.bind_some, hp, hv, if_neg (by simp), if_neg (by simp), if_neg (by simp)]
    obtain ⟨tq, tl, t2, t1⟩ := StepsTable_same (n := 2000000) (N := N) (ds := ds) (ks := ks) (by omega)
    obtain ⟨sq, _, s2, s1⟩ := StatesOf_same (n := 2000000) (N := N) (ds := ds) (ks := ks) (by omega)
    have tf : tq.2 = false := by
      have := t2
      unfold spec_StepsTable.F at this
      rw [l2Maze_val (by omega), Option.bind_some, hv] at this
      simp only [Bool.not_false, if_true, Option.some.injEq] at this
      rw [← this]
    have sf : sq.2 = false := by
      have := s2
      unfold spec_StatesOf.F at this
      rw [l2Maze_val (by omega), Option.bind_some, hv] at this
      simp only [Bool.not_false, if_true, Option.some.injEq] at this
      rw [← this]
    unfold laws_FnWays.c16
    simp only [t1, t2, tf, Option.bind_some, beq_self_eq_true, Bool.not_true, Bool.false_eq_true, if_false, rInts_self (n := 2000000) (by omega) (xs := tq.1) (by omega)]
    unfold laws_FnWays.c20
    simp only [s1, s2, sf, Option.bind_some, beq_self_eq_true, Bool.not_true, Bool.false_eq_true, if_false, decide_true]
    have h33 := h28 false tq.1 sq.1 (by
      unfold laws_FnWays.c33
      rw [if_neg (by simp)]
      unfold laws_FnWays.c42
      rw [hq]
      rfl)
    rw [hq] at h33
    exact h33.resolve_right fun z => z hfw
end
end Go.Pv
