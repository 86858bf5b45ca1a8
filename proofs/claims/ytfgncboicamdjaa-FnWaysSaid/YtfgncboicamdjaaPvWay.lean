/- Plain laws: the first shortest way, as the reference and the program walk it. -/
import Derived.Test.YtfgncboicamdjaaPvWayT
set_option linter.unusedVariables false
set_option linter.unusedSimpArgs false
set_option autoImplicit false
namespace Go.Pv
open Go Go.Fx Go.Pf

section
variable {n : Nat} {N : Int} {ds : List (Int × Int × Int)} {ks : List Int}
theorem memL_big (S : Nat) : (memL S).length ≤ 12 := memL_length S
/-- Where one can go on, both go to the first node of the right number of steps. -/
theorem way_inner (h : VM N ds ks) {g1 g2 : List Int} (ht : Tb N ds ks g1 g2) {x : Int} {s : Nat} (hx : 0 ≤ x ∧ x < N) (hs : s < 64) (hc : setK ks s x = s) (hv : 0 < g2.getD (ix x s) 0) (hv2 : g2.getD (ix x s) 0 ≤ 768)
    {K : Int → List (Int × Int × Int) → List Int → List Int → List Int → List Int → Int → Option (List Int × Bool)} {K' : Int → Int → Int → List (Int × Int × Int) → List Int → List Int → List Int → Option (List Int)} {w1 w2 : List Int} :
    ∀ (j c : Nat), (memL (stepsN ds x (s : Int))).length - c < j → c ≤ (memL (stepsN ds x (s : Int))).length → (∃ z ∈ (memL (stepsN ds x (s : Int))).drop c, g2.getD (ix z (setK ks s z)) 0 = g2.getD (ix x s) 0 - 1) →
      ∃ (i : Nat) (z : Int), i < (memL (stepsN ds x (s : Int))).length ∧ (memL (stepsN ds x (s : Int))).getD i 0 = z ∧ (0 ≤ z ∧ z < N) ∧ g2.getD (ix z (setK ks s z)) 0 = g2.getD (ix x s) 0 - 1 ∧
        spec_FirstWay.l2 n K j N ds ks w1 g1 (idI x (s : Int)) ((memL (stepsN ds x (s : Int))).map fun z => idI z ((setK ks s z : Nat) : Int)) c = K N ds ks w1 g1 ((memL (stepsN ds x (s : Int))).map fun z => idI z ((setK ks s z : Nat) : Int)) i ∧
        impl_wayOn.l2 n K' j x s N ds ks g2 w2 (memL (stepsN ds x (s : Int))) (memL (stepsN ds x (s : Int))).length c = K' z ((setK ks s z : Nat) : Int) N ds ks g2 w2
  | 0, c, hj, _, _ => by omega
  | j + 1, c, hj, hcl, hex => by
    have cc : c < (memL (stepsN ds x (s : Int))).length := by
      obtain ⟨z, hz, _⟩ := hex
      rcases Nat.lt_or_ge c (memL (stepsN ds x (s : Int))).length with q | q
      · exact q
      · rw [List.drop_of_length_le q] at hz
        simp at hz
    have h1 := h.n1
    have h2 := h.n2
    have hkl := h.kl
    have hzm := getD_mem (d := (0 : Int)) cc
    have hdrop := getD_drop (d := (0 : Int)) cc
    have hzr := steps_mem h hzm
    have hmap : ((memL (stepsN ds x (s : Int))).map fun z => idI z ((setK ks s z : Nat) : Int)).getD c 0 = idI ((memL (stepsN ds x (s : Int))).getD c 0) ((setK ks s ((memL (stepsN ds x (s : Int))).getD c 0) : Nat) : Int) := by
      simp [List.getD_eq_getElem?_getD, List.getElem?_map, cc]
    have ec : (c : Int).toNat = c := by omega
    have hml : (c : Int) < ((((memL (stepsN ds x (s : Int))).map fun z => idI z ((setK ks s z : Nat) : Int)).length : Nat) : Int) := by rw [List.length_map]; omega
    have hml2 := memL_big (stepsN ds x (s : Int))
    have wc : IntKind.wrap .i64 ((c : Int) + 1) = ((c + 1 : Nat) : Int) := by rw [w64s (by omega) (by omega)]; omega
    rw [spec_FirstWay.l2, impl_wayOn.l2, if_pos ⟨by omega, hml⟩, ec, hmap, if_pos (show decide ((c : Int) < (((memL (stepsN ds x (s : Int))).length : Nat) : Int)) = true by simpa using cc), if_pos (show 0 ≤ (c : Int) ∧ (c : Int) < (((memL (stepsN ds x (s : Int))).length : Nat) : Int) from ⟨by omega, by omega⟩), wc]
    rw [hdrop] at hex
    have hsame := ht.same h hx hs hc
    have hl1 := ht.l1
    generalize hz : (memL (stepsN ds x (s : Int))).getD c 0 = z at *
    obtain ⟨o1, o2⟩ := setK_val h hzr hs
    have hsz := ht.same h hzr o2 (setK_idem ks s z)
    have k1 : 0 ≤ idI z ((setK ks s z : Nat) : Int) ∧ idI z ((setK ks s z : Nat) : Int) < (g1.length : Int) := by rw [hl1]; unfold idI; omega
    have k2 : 0 ≤ idI x (s : Int) ∧ idI x (s : Int) < (g1.length : Int) := by rw [hl1]; unfold idI; omega
    have k3 : 0 ≤ z ∧ z < (ks.length : Int) := ⟨hzr.1, by omega⟩
    have k4 : 0 ≤ z ∧ z < (12 : Int) ∧ 0 + z.toNat * 64 < 768 := by omega
    have ei1 : 0 + z.toNat * 64 + ((setK ks s z : Nat) : Int).toNat * 1 = ix z (setK ks s z) := by unfold ix idI; omega
    have ei2 : 0 + x.toNat * 64 + (s : Int).toNat * 1 = ix x s := by unfold ix idI; omega
    have k5 : 0 ≤ ((setK ks s z : Nat) : Int) ∧ ((setK ks s z : Nat) : Int) < (64 : Int) ∧ 0 + z.toNat * 64 + ((setK ks s z : Nat) : Int).toNat * 1 < 768 := by omega
    have k6 : 0 ≤ x ∧ x < (12 : Int) ∧ 0 + x.toNat * 64 < 768 := by omega
    have k7 : 0 ≤ (s : Int) ∧ (s : Int) < (64 : Int) ∧ 0 + x.toNat * 64 + (s : Int).toNat * 1 < 768 := by omega
    rw [if_pos k1, if_pos k2, if_pos k3, if_pos k4, o1, if_pos k5, if_pos k6, if_pos k7, if_pos k3, ei1, ei2, hsz, hsame, w64s (x := g2.getD (ix x s) 0 - 1) (by omega) (by omega)]
    by_cases q : g2.getD (ix z (setK ks s z)) 0 = g2.getD (ix x s) 0 - 1
    · rw [if_neg (by simp only [q, decide_true]; decide), if_pos (by simpa using q)]
      exact ⟨c, z, cc, hz, hzr, q, rfl, rfl⟩
    · rw [if_pos (by simpa using q), if_neg (by simpa using q)]
      refine way_inner h ht hx hs hc hv hv2 j (c + 1) (by omega) (by omega) ?_
      obtain ⟨y, hy, hq⟩ := hex
      rcases List.mem_cons.1 hy with rfl | hy
      · exact absurd hq q
      · exact ⟨y, hy, hq⟩
/-- A walk on from a state to the goal. -/
def KW (N : Int) (ds : List (Int × Int × Int)) (ks : List Int) : Int → Nat → List Int → Prop
  | x, _, [] => x = N - 1
  | x, s, z :: w => z ∈ memL (stepsN ds x (s : Int)) ∧ KW N ds ks z (setK ks s z) w
theorem way_both (hn : 2000 ≤ n) (h : VM N ds ks) {g1 g2 : List Int} (ht : Tb N ds ks g1 g2) {K : List Int → Option (List Int × Bool)} {K' : List Int → Option (List Int)} :
    ∀ (v : Nat) (j : Nat) (x : Int) (s : Nat) (w1 w2 : List Int), v < j → v ≤ 768 → 0 ≤ x ∧ x < N → s < 64 → setK ks s x = s → g2.getD (ix x s) 0 = (v : Int) → w1.length ≤ 4398046500000 - v → w2.length ≤ 4398046500000 - v →
      ∃ w, w.length = v ∧ KW N ds ks x s w ∧ spec_FirstWay.l0 n K j N ds ks w1 g1 (idI x (s : Int)) = K (w1 ++ w) ∧ impl_wayOn.l0 n K' j x s N ds ks g2 w2 = K' (w2 ++ w)
  | v, 0, x, s, w1, w2, hj, _, _, _, _, _, _, _ => by omega
  | v, j + 1, x, s, w1, w2, hj, hv8, hx, hs, hc, hv, hw1, hw2 => by
    have h1 := h.n1
    have h2 := h.n2
    have hl1 := ht.l1
    have hsame := ht.same h hx hs hc
    have k2 : 0 ≤ idI x (s : Int) ∧ idI x (s : Int) < (g1.length : Int) := by rw [hl1]; unfold idI; omega
    have ei2 : 0 + x.toNat * 64 + (s : Int).toNat * 1 = ix x s := by unfold ix idI; omega
    have k6 : 0 ≤ x ∧ x < (12 : Int) ∧ 0 + x.toNat * 64 < 768 := by omega
    have k7 : 0 ≤ (s : Int) ∧ (s : Int) < (64 : Int) ∧ 0 + x.toNat * 64 + (s : Int).toNat * 1 < 768 := by omega
    rw [spec_FirstWay.l0, impl_wayOn.l0, if_pos k2, if_pos k6, if_pos k7, ei2, hsame]
    match v, hj, hv8, hv, hw1, hw2 with
    | 0, hj, hv8, hv, hw1, hw2 =>
      rw [if_neg (by rw [hv]; decide), if_neg (by rw [hv]; decide)]
      refine ⟨[], rfl, ?_, by rw [List.append_nil], by rw [List.append_nil]⟩
      have hr := ht.t2 x s hx.1 hx.2 hs
      rw [hv] at hr
      rcases hr with ⟨_, hr, _⟩ | ⟨hr, _⟩
      · exact hr
      · omega
    | v + 1, hj, hv8, hv, hw1, hw2 =>
      have hpos : g2.getD (ix x s) 0 > 0 := by omega
      have e1 : IntKind.wrap .i64 (Int.tdiv (idI x (s : Int)) 64) = x := by
        rw [Int.tdiv_eq_ediv_of_nonneg (by unfold idI; omega), w64s (by unfold idI; omega) (by unfold idI; omega)]
        unfold idI; omega
      have e2 : Int.tmod (idI x (s : Int)) 64 = (s : Int) := by
        rw [Int.tmod_eq_emod_of_nonneg (by unfold idI; omega)]
        unfold idI; omega
      rw [if_pos (by simpa using hpos), if_pos (by simpa using hpos), e1, e2, l4Step_eq (by omega) h x hs, Option.bind_some, steps_eq (by omega) h, Option.bind_some, members_eq (by omega) (stepsN_lt h _ _), Option.bind_some]
      obtain ⟨i, z, i1, i2, hzr, hz, p1, p2⟩ := way_inner (n := n) h ht hx hs hc (by omega) (by omega) (w1 := w1) (w2 := w2)
        (K := fun y5 y6 y7 y8 y9 y10 y11 =>
        if 0 ≤ y11 ∧ y11 < (y10.length : Int) then (if y8.length + ([IntKind.wrap .i64 (Int.tdiv (y10.getD y11.toNat (0 : Int)) 64)] : List (Int)).length ≤ 4398046511104 then (spec_FirstWay.l0 n K j y5 y6 y7 (y8 ++ ([IntKind.wrap .i64 (Int.tdiv (y10.getD y11.toNat (0 : Int)) 64)] : List (Int))) y9 (y10.getD y11.toNat (0 : Int))) else none) else none)
        (K' := fun y3 y4 y5 y6 y7 y8 y9 =>
        if y9.length + ([y3] : List (Int)).length ≤ 4398046511104 then (impl_wayOn.l0 n K' j y3 y4 y5 y6 y7 y8 (y9 ++ ([y3] : List (Int)))) else none)
        n 0 (by have := memL_big (stepsN ds x (s : Int)); omega) (by omega) (by rw [List.drop_zero]; exact rem_next h ht hx hs (by omega))
      rw [show ((0 : Nat) : Int) = 0 from rfl] at p1 p2
      rw [p1, p2]
      have hmap : ((memL (stepsN ds x (s : Int))).map fun z => idI z ((setK ks s z : Nat) : Int)).getD i 0 = idI z ((setK ks s z : Nat) : Int) := by
        rw [← i2]
        simp [List.getD_eq_getElem?_getD, List.getElem?_map, i1]
      have o2 := (setK_val h hzr hs).2
      have ei : (i : Int).toNat = i := by omega
      have e3 : IntKind.wrap .i64 (Int.tdiv (idI z ((setK ks s z : Nat) : Int)) 64) = z := by
        rw [Int.tdiv_eq_ediv_of_nonneg (by unfold idI; omega), w64s (by unfold idI; omega) (by unfold idI; omega)]
        unfold idI; omega
      rw [if_pos ⟨by omega, by rw [List.length_map]; omega⟩, ei, hmap, e3, if_pos (by simp only [List.length_cons, List.length_nil]; omega), if_pos (by simp only [List.length_cons, List.length_nil]; omega)]
      obtain ⟨w, q1, q0, q2, q3⟩ := way_both hn h ht (K := K) (K' := K') v j z (setK ks s z) (w1 ++ [z]) (w2 ++ [z]) (by omega) (by omega) hzr o2 (setK_idem ks s z) (by rw [hz, hv]; omega) (by simp only [List.length_append, List.length_cons, List.length_nil]; omega) (by simp only [List.length_append, List.length_cons, List.length_nil]; omega)
      refine ⟨z :: w, by simp [q1], ⟨by rw [← i2]; exact getD_mem i1, q0⟩, ?_, ?_⟩
      · rw [q2, List.append_assoc]; rfl
      · rw [q3, List.append_assoc]; rfl
theorem concat_eq (n : Nat) {a b : List Int} (ha : a.length ≤ 1000000) (hb : b.length ≤ 1000000) : slices_Concat_int_int_c0.F n a b = some (a ++ b) := by
  unfold slices_Concat_int_int_c0.F slices_Grow_int_int_c0.F
  rw [w64s (x := (0 : Int) + (a.length : Int)) (by omega) (by omega), w64s (x := (0 : Int) + (a.length : Int) + (b.length : Int)) (by omega) (by omega), w64s (x := (0 : Int) + (a.length : Int) + (b.length : Int) - 0) (by omega) (by omega)]
  rw [if_neg (by rw [decide_eq_true_eq]; omega), if_neg (by rw [decide_eq_true_eq]; omega), if_neg (by rw [decide_eq_true_eq]; omega)]
  by_cases c : (0 : Int) + (a.length : Int) + (b.length : Int) - 0 > 0
  · rw [if_pos (by simpa using c), if_pos ⟨by omega, by omega⟩, if_pos ⟨by omega, by omega⟩, Option.bind_some, List.take_zero, if_pos (by simp only [List.length_nil]; omega), if_pos (by simp only [List.nil_append]; omega)]
    rfl
  · rw [if_neg (by simpa using c), Option.bind_some, if_pos (by simp only [List.length_nil]; omega), if_pos (by simp only [List.nil_append]; omega)]
    rfl
/-- What the first way is. -/
def WayQ (N : Int) (ds : List (Int × Int × Int)) (ks : List Int) (q : List Int × Bool) : Prop :=
  ∃ s : Nat, ks.getD 0 0 = (s : Int) ∧ s < 64 ∧ ∃ v : Int, IsRem N ds ks 0 s v ∧ ((v < 0 ∧ q = ([], false)) ∨ (0 ≤ v ∧ v ≤ 768 ∧ q.2 = true ∧ ∃ w, q.1 = 0 :: w ∧ (w.length : Int) = v ∧ KW N ds ks 0 s w))
/-- A way that both find: its nodes. -/
theorem FirstWay_q (hn : 600000 ≤ n) : ∃ q : List Int × Bool, q.1.length ≤ 1000 ∧ spec_FirstWay.F n N ds ks = some q ∧ impl_FirstWay.F n N ds ks = some q ∧ (¬ VM N ds ks → q.2 = false) ∧ (VM N ds ks → WayQ N ds ks q) := by
  classical
  unfold spec_FirstWay.F impl_FirstWay.F
  rw [l2Maze_val (by omega), IsMaze_val (by omega), Option.bind_some, Option.bind_some]
  by_cases h : VM N ds ks
  · simp only [h, decide_true, Bool.not_true, Bool.false_eq_true, if_false]
    obtain ⟨g1, a1, a2, a3⟩ := remainS_val (n := n) (by omega) h
    obtain ⟨g2, b1, b2, b3, b4⟩ := remain_val (n := n) hn h
    have ht : Tb N ds ks g1 g2 := ⟨a2, b2, a3, b4⟩
    have h1 := h.n1
    have h2 := h.n2
    have hkl := h.kl
    have hk := h.keys _ (getD_mem (l := ks) (i := 0) (d := (0 : Int)) (by omega))
    obtain ⟨s, hs⟩ : ∃ s : Nat, ks.getD 0 0 = (s : Int) := ⟨(ks.getD 0 0).toNat, by omega⟩
    have hs6 : s < 64 := by omega
    have hc : setK ks s 0 = s := by
      unfold setK
      rw [show (0 : Int).toNat = 0 from rfl, hs, Int.toNat_natCast, Nat.or_self]
    have hx : (0 : Int) ≤ 0 ∧ (0 : Int) < N := ⟨by omega, by omega⟩
    have hsame := ht.same h hx hs6 hc
    have hrem := b4 0 s (by omega) (by omega) hs6
    have ei2 : 0 + (s : Int).toNat * 1 = ix 0 s := by unfold ix idI; omega
    rw [a1, b1, Option.bind_some, Option.bind_some, if_pos ⟨by omega, by omega⟩, if_pos ⟨by omega, by omega⟩, hs, l4Id_eq n (by omega) (by omega) (by omega) (by omega), Option.bind_some,
      if_pos (show 0 ≤ idI 0 (s : Int) ∧ idI 0 (s : Int) < (g1.length : Int) by rw [a2]; unfold idI; omega), if_pos (show 0 ≤ (s : Int) ∧ (s : Int) < (64 : Int) ∧ 0 + (s : Int).toNat * 1 < 768 from ⟨by omega, by omega, by omega⟩), hsame, ei2]
    by_cases c : g2.getD (ix 0 s) 0 < 0
    · have c' : (decide (g2.getD (ix 0 s) 0 < 0)) = true := decide_eq_true c
      rw [if_pos c', if_pos c']
      exact ⟨([], false), by simp, rfl, rfl, fun z => absurd trivial z, fun _ => ⟨s, hs, hs6, _, hrem, .inl ⟨c, rfl⟩⟩⟩
    · have c' : ¬ (decide (g2.getD (ix 0 s) 0 < 0)) = true := fun q => c (of_decide_eq_true q)
      rw [if_neg c', if_neg c', if_pos (show ([] : List Int).length + ([(0 : Int)] : List Int).length ≤ 4398046511104 by simp), if_pos (show (0 : Int) ≤ 0 ∧ 0 < (ks.length : Int) from ⟨by omega, by omega⟩)]
      have hle : g2.getD (ix 0 s) 0 ≤ 768 := b3 _ (getD_mem (by rw [b2]; unfold ix idI; omega))
      obtain ⟨w, q1, q0, q2, q3⟩ := way_both (n := n) (by omega) h ht (K := fun y12 => some (y12, true)) (K' := fun y10 => some y10) (g2.getD (ix 0 s) 0).toNat n 0 s [0] [] (by omega) (by omega) hx hs6 hc (by omega) (by simp only [List.length_cons, List.length_nil]; omega) (by simp only [List.length_nil]; omega)
      unfold impl_wayOn.F
      rw [List.nil_append, q2, q3, List.nil_append, Option.bind_some, concat_eq n (by simp) (by omega), Option.bind_some]
      exact ⟨([0] ++ w, true), by simp only [List.length_append, List.length_cons, List.length_nil]; omega, rfl, rfl, fun z => absurd trivial z, fun _ => ⟨s, hs, hs6, _, hrem, .inr ⟨by omega, hle, rfl, w, rfl, by omega, q0⟩⟩⟩
  · simp only [h, decide_false, Bool.not_false, if_true]
    exact ⟨([], false), by simp, rfl, rfl, fun _ => rfl, fun z => absurd z (by simp)⟩
theorem FirstWay_same (hn : 600000 ≤ n) : ∃ q : List Int × Bool, q.1.length ≤ 1000 ∧ spec_FirstWay.F n N ds ks = some q ∧ impl_FirstWay.F n N ds ks = some q := by
  obtain ⟨q, h1, h2, h3, _⟩ := FirstWay_q (n := n) (N := N) (ds := ds) (ks := ks) hn
  exact ⟨q, h1, h2, h3⟩
end
end Go.Pv
