/- Plain laws: mazes with other needs and keys; printed in part by a program of mine (pvE.py). -/
import Derived.Test.YtoppnaekfjjaaaaGreatPvTidy
import Derived.Test.YtoppnaekfjjaaaaGreatPvMark
set_option linter.unusedVariables false
set_option linter.unusedSimpArgs false
set_option autoImplicit false
namespace Go.Pv
open Go Go.Fx Go.Pf

theorem ownE {n : Nat} {N : Int} {ds : List Door} {ks : List Int} (hd : ds.length ≤ 1048576) (hk : ks.length ≤ 1048576) : impl_own.F n N ds ks = some (N, ds, ks) := by
  unfold impl_own.F slices_Clone_3_int_3_int.F slices_Clone_int_int.F
  rw [if_pos (by simp; omega), if_pos (by simp; omega)]
  rfl
abbrev RM := Int × List (Int × Int × Int) × List Int × Bool
/-- A door with another need. -/
def needD (g : Int → Int) (d : Door) : Door := (d.1, d.2.1, g d.2.2)

/-! ### What FreeColours makes of needs and keys -/
theorem chD_FreeColours {n : Nat} {K : Int → Int → List Door → List Int → Int → List Door → List Int → Option (Int × List Door × List Int)} {x1 : Int} {a N : Int} {b : List Door} {c ks : List Int} {g : Int → Int} {L : Nat} (hL : L ≤ 1048576) : ∀ (f : Nat) (r A : List Door), r.length < f → A.length + r.length = L → (∀ d ∈ r, impl_FreeColours_1_c0.F n d.2.2 x1 = some (g d.2.2)) →
    impl_changed_cFreeColours_1.l0 n K f x1 a b c N (A ++ r) ks L A.length = K x1 a b c N (A ++ r.map (needD g)) ks
  | 0, r, A, hf, _, _ => by omega
  | f + 1, [], A, hf, hl, _ => by
    rw [impl_changed_cFreeColours_1.l0]
    simp only [List.length_nil, Nat.add_zero] at hl
    rw [if_neg (by rw [decide_eq_true_eq]; omega)]
    rfl
  | f + 1, d :: r, A, hf, hl, hg => by
    rw [impl_changed_cFreeColours_1.l0]
    simp only [List.length_cons] at hf hl
    have k1 : decide ((A.length : Int) < (L : Int)) = true := by rw [decide_eq_true_eq]; omega
    have k2 : 0 ≤ (A.length : Int) ∧ (A.length : Int) < ((A ++ d :: r).length : Int) := by simp only [List.length_append, List.length_cons]; omega
    have w1 : IntKind.wrap .i64 ((A.length : Int) + 1) = (((A ++ [needD g d]).length : Nat) : Int) := by rw [w64s (by omega) (by omega)]; simp
    have hd : (A ++ d :: r).getD A.length ((0 : Int), (0 : Int), (0 : Int)) = d := by simp [List.getD]
    have hs : ∀ v : Door, (A ++ d :: r).set A.length v = (A ++ [v]) ++ r := by intro v; simp
    simp only [if_pos k1, if_pos k2, Int.toNat_natCast, hd, hs, w1, hg d (by simp), Option.bind_some]
    have := chD_FreeColours (n := n) (K := K) (x1 := x1) (a := a) (b := b) (c := c) (N := N) (ks := ks) (g := g) hL f r (A ++ [needD g d]) (by omega) (by simp; omega) (fun e he => hg e (by simp [he]))
    have e : (A ++ [needD g d]) ++ r.map (needD g) = A ++ (d :: r).map (needD g) := by simp
    rw [e] at this
    exact this
theorem chK_FreeColours {n : Nat} {K : Int → List Door → List Int → Int → List Door → List Int → Option (Int × List Door × List Int)} {x1 : Int} {a N : Int} {b ds : List Door} {c : List Int} {g : Int → Int} {L : Nat} (hL : L ≤ 1048576) : ∀ (f : Nat) (r A : List Int), r.length < f → A.length + r.length = L → (∀ d ∈ r, impl_FreeColours_1_c0.F n d x1 = some (g d)) →
    impl_changed_cFreeColours_1.l2 n K f x1 a b c N ds (A ++ r) L A.length = K a b c N ds (A ++ r.map g)
  | 0, r, A, hf, _, _ => by omega
  | f + 1, [], A, hf, hl, _ => by
    rw [impl_changed_cFreeColours_1.l2]
    simp only [List.length_nil, Nat.add_zero] at hl
    rw [if_neg (by rw [decide_eq_true_eq]; omega)]
    rfl
  | f + 1, d :: r, A, hf, hl, hg => by
    rw [impl_changed_cFreeColours_1.l2]
    simp only [List.length_cons] at hf hl
    have k1 : decide ((A.length : Int) < (L : Int)) = true := by rw [decide_eq_true_eq]; omega
    have k2 : 0 ≤ (A.length : Int) ∧ (A.length : Int) < ((A ++ d :: r).length : Int) := by simp only [List.length_append, List.length_cons]; omega
    have w1 : IntKind.wrap .i64 ((A.length : Int) + 1) = (((A ++ [g d]).length : Nat) : Int) := by rw [w64s (by omega) (by omega)]; simp
    have hd : (A ++ d :: r).getD A.length (0 : Int) = d := by simp [List.getD]
    have hs : ∀ v : Int, (A ++ d :: r).set A.length v = (A ++ [v]) ++ r := by intro v; simp
    simp only [if_pos k1, if_pos k2, Int.toNat_natCast, hd, hs, w1, hg d (by simp), Option.bind_some]
    have := chK_FreeColours (n := n) (K := K) (x1 := x1) (a := a) (b := b) (c := c) (N := N) (ds := ds) (g := g) hL f r (A ++ [g d]) (by omega) (by simp; omega) (fun e he => hg e (by simp [he]))
    have e : (A ++ [g d]) ++ r.map g = A ++ (d :: r).map g := by simp
    rw [e] at this
    exact this
theorem ch_FreeColours {n : Nat} {x1 : Int} {N : Int} {ds : List Door} {ks : List Int} {g : Int → Int} (hn : 1048578 ≤ n) (hd : ds.length ≤ 1048576) (hk : ks.length ≤ 1048576) (h1 : ∀ d ∈ ds, impl_FreeColours_1_c0.F n d.2.2 x1 = some (g d.2.2)) (h2 : ∀ k ∈ ks, impl_FreeColours_1_c0.F n k x1 = some (g k)) :
    impl_changed_cFreeColours_1.F n N ds ks x1 = some (N, tidyL (ds.map (needD g)), ks.map g) := by
  unfold impl_changed_cFreeColours_1.F
  rw [ownE hd hk, Option.bind_some]
  have e1 := chD_FreeColours (n := n) (K := fun y3 y4 y5 y6 y7 y8 y9 =>
    impl_changed_cFreeColours_1.l2 n (fun y11 y12 y13 y14 y15 y16 =>
      (impl_tidy.F n y14 y15 y16).bind fun r17 =>
      some (r17.1, r17.2.1, r17.2.2)) n y3 y4 y5 y6 y7 y8 y9 (y9.length : Int) (0 : Int)) (x1 := x1) (a := 0) (b := []) (c := []) (N := N) (ks := ks) (g := g) hd n ds [] (by omega) (by simp) h1
  have e2 := chK_FreeColours (n := n) (K := fun y11 y12 y13 y14 y15 y16 =>
      (impl_tidy.F n y14 y15 y16).bind fun r17 =>
      some (r17.1, r17.2.1, r17.2.2)) (x1 := x1) (a := 0) (b := []) (c := []) (N := N) (ds := ds.map (needD g)) (g := g) hk n ks [] (by omega) (by simp) h2
  simp only [List.nil_append, List.length_nil, Int.natCast_zero] at e1 e2
  rw [e1, e2, tidy_eq (by simpa using hd) (by simpa using (by omega : ds.length < n)), Option.bind_some]
  rfl

theorem spD_FreeColours {n : Nat} {K : Int → Int → List Door → List Int → Int → List Door → List Int → Int → List Door → List Int → Option (Int × List Door × List Int × Bool)} {x1 : Int} {N a p : Int} {ds b : List Door} {ks c o : List Int} {g : Int → Int} (hn : 1048578 ≤ n) (hd : ds.length ≤ 30) (hg : (∀ d ∈ ds, bitClr .i64 d.2.2 x1 = g d.2.2)) : ∀ (f i : Nat) (q : List Door), ds.length - i < f → i ≤ ds.length → LexS q → q.length ≤ i →
    ∃ q', LexS q' ∧ (∀ x, x ∈ q' ↔ x ∈ q ∨ ∃ d ∈ ds.drop i, nrm (needD g d) = x) ∧ q'.length ≤ 30 ∧ spec_FreeColours.l0 n K f x1 N ds ks a b c p q o i = K x1 N ds ks a b c p q' o
  | 0, i, q, hf, _, _, _ => by omega
  | f + 1, i, q, hf, hi, hq, hl => by
    rw [spec_FreeColours.l0]
    by_cases cc : (i : Int) < (ds.length : Int)
    · have c2 : i < ds.length := by omega
      have k1 : decide ((i : Int) < (ds.length : Int)) = true := by simpa using cc
      have k2 : 0 ≤ (i : Int) ∧ (i : Int) < (ds.length : Int) := ⟨by omega, cc⟩
      have wi : IntKind.wrap .i64 ((i : Int) + 1) = ((i + 1 : Nat) : Int) := by rw [w64s (by omega) (by omega)]; omega
      simp only [if_pos k1, if_pos k2, Int.toNat_natCast, wi]
      rw [hg _ (getD_mem c2)]
      have hdr := getD_drop (d := dz) c2
      obtain ⟨r, r1, r2, r3, r4, r5⟩ := put_eq (n := n) (l := q) (by omega) (by omega) hq (ds.getD i dz).1 (ds.getD i dz).2.1 (g (ds.getD i dz).2.2)
      rw [r1, Option.bind_some]
      have hr : r.length ≤ i + 1 := by
        by_cases hin : nrm ((ds.getD i dz).1, (ds.getD i dz).2.1, g (ds.getD i dz).2.2) ∈ q
        · rw [r4 hin]; omega
        · rw [r5 hin]; omega
      obtain ⟨q', s1, s2, s3, s4⟩ := spD_FreeColours (K := K) (N := N) (a := a) (p := p) (b := b) (ks := ks) (c := c) (o := o) hn hd hg f (i + 1) r (by omega) (by omega) r2 hr
      refine ⟨q', s1, fun x => ?_, s3, s4⟩
      rw [s2 x, r3 x, hdr]
      constructor
      · rintro ((h | h) | ⟨d, h, h'⟩)
        · exact .inl h
        · exact .inr ⟨ds.getD i dz, by simp, h.symm⟩
        · exact .inr ⟨d, List.mem_cons_of_mem _ h, h'⟩
      · rintro (h | ⟨d, h, h'⟩)
        · exact .inl (.inl h)
        · rcases List.mem_cons.1 h with rfl | h
          · exact .inl (.inr h'.symm)
          · exact .inr ⟨d, h, h'⟩
    · have k1 : ¬ decide ((i : Int) < (ds.length : Int)) = true := by simpa using cc
      have : ds.drop i = [] := List.drop_eq_nil_of_le (by omega)
      rw [if_neg k1, this]
      exact ⟨q, hq, fun x => by simp, by omega, rfl⟩
theorem spK_FreeColours {n : Nat} {K : Int → List Door → List Int → Int → List Door → List Int → Option (Int × List Door × List Int × Bool)} {x1 : Int} {N a p : Int} {ds b q : List Door} {ks c : List Int} {g : Int → Int} (hN : (ks.length : Int) = N) (hk : ks.length ≤ 12) (hg : (∀ k ∈ ks, bitClr .i64 k x1 = g k)) : ∀ (f i : Nat), ks.length - i < f → i ≤ ks.length →
    spec_FreeColours.l2 n K f x1 N ds ks a b c p q ((ks.take i).map g) i = K a b c p q (ks.map g)
  | 0, i, hf, _ => by omega
  | f + 1, i, hf, hi => by
    rw [spec_FreeColours.l2]
    by_cases cc : (i : Int) < N
    · have c2 : i < ks.length := by omega
      have k1 : decide ((i : Int) < N) = true := by simpa using cc
      have k2 : 0 ≤ (i : Int) ∧ (i : Int) < (ks.length : Int) := ⟨by omega, by omega⟩
      have wi : IntKind.wrap .i64 ((i : Int) + 1) = ((i + 1 : Nat) : Int) := by rw [w64s (by omega) (by omega)]; omega
      rw [if_pos k1, if_pos k2, Int.toNat_natCast, wi]
      rw [hg _ (getD_mem c2)]
      rw [if_pos (by simp only [List.length_map, List.length_take, List.length_singleton]; omega)]
      have e : (ks.take i).map g ++ [g (ks.getD i 0)] = (ks.take (i + 1)).map g := by
        rw [List.take_succ_eq_append_getElem c2, List.map_append, List.getD_eq_getElem?_getD, List.getElem?_eq_getElem c2]
        rfl
      rw [e]
      exact spK_FreeColours hN hk hg f (i + 1) (by omega) (by omega)
    · have k1 : ¬ decide ((i : Int) < N) = true := by simpa using cc
      rw [if_neg k1, List.take_of_length_le (by omega)]

open Classical in
theorem FreeColours_same {n : Nat} {N : Int} {ds : List Door} {ks : List Int} (hn : 1048578 ≤ n) (s : Int) : ∃ q : RM, (q.2.1.length ≤ 1048576 ∧ q.2.2.1.length ≤ 1048576) ∧ spec_FreeColours.F n N ds ks s = some q ∧ impl_FreeColours.F n N ds ks s = some q := by
  unfold spec_FreeColours.F impl_FreeColours.F
  rw [l2Maze_val (by omega), IsMaze_val (by omega), Option.bind_some, Option.bind_some, l2Set_eq, isSet_eq, Option.bind_some, Option.bind_some]
  by_cases h : VM N ds ks
  · have hv : decide (VM N ds ks) = true := by simp [h]
    cases hs : setB s with
    | false => exact ⟨(0, [], [], false), by simp, by simp [hv], by simp [hv]⟩
    | true =>
      have hd := h.dl
      have h1 := h.n1
      have h2 := h.n2
      have hkl := h.kl
      simp only [hv, Bool.not_true, Bool.false_eq_true, if_false]
      obtain ⟨q', s1, s2, s3, s4⟩ := spD_FreeColours (n := n) (K := fun y4 y5 y6 y7 y8 y9 y10 y11 y12 y13 =>
        spec_FreeColours.l2 n (fun y14 y15 y16 y17 y18 y19 =>
          some (y17, y18, y19, true)) n y4 y5 y6 y7 y8 y9 y10 y11 y12 y13 (0 : Int)) (x1 := s) (N := N) (a := 0) (p := N) (b := []) (ds := ds) (ks := ks) (c := []) (o := []) (g := fun z => bitClr .i64 z s) hn hd (fun _ _ => rfl) n 0 [] (by omega) (by omega) List.Pairwise.nil (by simp)
      have e2 := spK_FreeColours (n := n) (K := fun y14 y15 y16 y17 y18 y19 => some (y17, y18, y19, true)) (x1 := s) (N := N) (a := 0) (p := N) (b := []) (ds := ds) (q := q') (ks := ks) (c := []) (g := fun z => bitClr .i64 z s) hkl (by omega) (fun _ _ => rfl) n 0 (by omega) (by omega)
      simp only [Int.natCast_zero, List.take_zero, List.map_nil] at s4 e2
      rw [s4, e2, ch_FreeColours (g := fun z => bitClr .i64 z s) hn (by omega) (by omega) (fun _ _ => rfl) (fun _ _ => rfl), Option.bind_some]
      have e : q' = tidyL (ds.map (needD fun z => bitClr .i64 z s)) := by
        refine lex_ext s1 (tidyL_lex _) fun x => ?_
        rw [s2 x, tidyL_mem]
        simp only [List.drop_zero, List.not_mem_nil, false_or, List.mem_map]
        constructor
        · rintro ⟨d, hd1, hd2⟩
          exact ⟨_, ⟨d, hd1, rfl⟩, hd2⟩
        · rintro ⟨_, ⟨d, hd1, rfl⟩, hd2⟩
          exact ⟨d, hd1, hd2⟩
      rw [e]
      refine ⟨(N, _, _, true), ⟨?_, ?_⟩, rfl, rfl⟩
      · rw [← e]; simp only; omega
      · simp only [List.length_map]; omega
  · have hv : decide (VM N ds ks) = false := by simp [h]
    exact ⟨(0, [], [], false), by simp, by simp [hv], by simp [hv]⟩

/-! ### What BarColours makes of needs and keys -/
theorem chD_BarColours {n : Nat} {K : Int → Int → List Door → List Int → Int → List Door → List Int → Option (Int × List Door × List Int)} {x1 : Int} {a N : Int} {b : List Door} {c ks : List Int} {g : Int → Int} {L : Nat} (hL : L ≤ 1048576) : ∀ (f : Nat) (r A : List Door), r.length < f → A.length + r.length = L → (∀ d ∈ r, impl_BarColours_1_c0.F n d.2.2 x1 = some (g d.2.2)) →
    impl_changed_cBarColours_1.l0 n K f x1 a b c N (A ++ r) ks L A.length = K x1 a b c N (A ++ r.map (needD g)) ks
  | 0, r, A, hf, _, _ => by omega
  | f + 1, [], A, hf, hl, _ => by
    rw [impl_changed_cBarColours_1.l0]
    simp only [List.length_nil, Nat.add_zero] at hl
    rw [if_neg (by rw [decide_eq_true_eq]; omega)]
    rfl
  | f + 1, d :: r, A, hf, hl, hg => by
    rw [impl_changed_cBarColours_1.l0]
    simp only [List.length_cons] at hf hl
    have k1 : decide ((A.length : Int) < (L : Int)) = true := by rw [decide_eq_true_eq]; omega
    have k2 : 0 ≤ (A.length : Int) ∧ (A.length : Int) < ((A ++ d :: r).length : Int) := by simp only [List.length_append, List.length_cons]; omega
    have w1 : IntKind.wrap .i64 ((A.length : Int) + 1) = (((A ++ [needD g d]).length : Nat) : Int) := by rw [w64s (by omega) (by omega)]; simp
    have hd : (A ++ d :: r).getD A.length ((0 : Int), (0 : Int), (0 : Int)) = d := by simp [List.getD]
    have hs : ∀ v : Door, (A ++ d :: r).set A.length v = (A ++ [v]) ++ r := by intro v; simp
    simp only [if_pos k1, if_pos k2, Int.toNat_natCast, hd, hs, w1, hg d (by simp), Option.bind_some]
    have := chD_BarColours (n := n) (K := K) (x1 := x1) (a := a) (b := b) (c := c) (N := N) (ks := ks) (g := g) hL f r (A ++ [needD g d]) (by omega) (by simp; omega) (fun e he => hg e (by simp [he]))
    have e : (A ++ [needD g d]) ++ r.map (needD g) = A ++ (d :: r).map (needD g) := by simp
    rw [e] at this
    exact this
theorem chK_BarColours {n : Nat} {K : Int → List Door → List Int → Int → List Door → List Int → Option (Int × List Door × List Int)} {x1 : Int} {a N : Int} {b ds : List Door} {c : List Int} {g : Int → Int} {L : Nat} (hL : L ≤ 1048576) : ∀ (f : Nat) (r A : List Int), r.length < f → A.length + r.length = L → (∀ d ∈ r, impl_BarColours_1_c0.F n d x1 = some (g d)) →
    impl_changed_cBarColours_1.l2 n K f x1 a b c N ds (A ++ r) L A.length = K a b c N ds (A ++ r.map g)
  | 0, r, A, hf, _, _ => by omega
  | f + 1, [], A, hf, hl, _ => by
    rw [impl_changed_cBarColours_1.l2]
    simp only [List.length_nil, Nat.add_zero] at hl
    rw [if_neg (by rw [decide_eq_true_eq]; omega)]
    rfl
  | f + 1, d :: r, A, hf, hl, hg => by
    rw [impl_changed_cBarColours_1.l2]
    simp only [List.length_cons] at hf hl
    have k1 : decide ((A.length : Int) < (L : Int)) = true := by rw [decide_eq_true_eq]; omega
    have k2 : 0 ≤ (A.length : Int) ∧ (A.length : Int) < ((A ++ d :: r).length : Int) := by simp only [List.length_append, List.length_cons]; omega
    have w1 : IntKind.wrap .i64 ((A.length : Int) + 1) = (((A ++ [g d]).length : Nat) : Int) := by rw [w64s (by omega) (by omega)]; simp
    have hd : (A ++ d :: r).getD A.length (0 : Int) = d := by simp [List.getD]
    have hs : ∀ v : Int, (A ++ d :: r).set A.length v = (A ++ [v]) ++ r := by intro v; simp
    simp only [if_pos k1, if_pos k2, Int.toNat_natCast, hd, hs, w1, hg d (by simp), Option.bind_some]
    have := chK_BarColours (n := n) (K := K) (x1 := x1) (a := a) (b := b) (c := c) (N := N) (ds := ds) (g := g) hL f r (A ++ [g d]) (by omega) (by simp; omega) (fun e he => hg e (by simp [he]))
    have e : (A ++ [g d]) ++ r.map g = A ++ (d :: r).map g := by simp
    rw [e] at this
    exact this
theorem ch_BarColours {n : Nat} {x1 : Int} {N : Int} {ds : List Door} {ks : List Int} {g : Int → Int} (hn : 1048578 ≤ n) (hd : ds.length ≤ 1048576) (hk : ks.length ≤ 1048576) (h1 : ∀ d ∈ ds, impl_BarColours_1_c0.F n d.2.2 x1 = some (g d.2.2)) (h2 : ∀ k ∈ ks, impl_BarColours_1_c0.F n k x1 = some (g k)) :
    impl_changed_cBarColours_1.F n N ds ks x1 = some (N, tidyL (ds.map (needD g)), ks.map g) := by
  unfold impl_changed_cBarColours_1.F
  rw [ownE hd hk, Option.bind_some]
  have e1 := chD_BarColours (n := n) (K := fun y3 y4 y5 y6 y7 y8 y9 =>
    impl_changed_cBarColours_1.l2 n (fun y11 y12 y13 y14 y15 y16 =>
      (impl_tidy.F n y14 y15 y16).bind fun r17 =>
      some (r17.1, r17.2.1, r17.2.2)) n y3 y4 y5 y6 y7 y8 y9 (y9.length : Int) (0 : Int)) (x1 := x1) (a := 0) (b := []) (c := []) (N := N) (ks := ks) (g := g) hd n ds [] (by omega) (by simp) h1
  have e2 := chK_BarColours (n := n) (K := fun y11 y12 y13 y14 y15 y16 =>
      (impl_tidy.F n y14 y15 y16).bind fun r17 =>
      some (r17.1, r17.2.1, r17.2.2)) (x1 := x1) (a := 0) (b := []) (c := []) (N := N) (ds := ds.map (needD g)) (g := g) hk n ks [] (by omega) (by simp) h2
  simp only [List.nil_append, List.length_nil, Int.natCast_zero] at e1 e2
  rw [e1, e2, tidy_eq (by simpa using hd) (by simpa using (by omega : ds.length < n)), Option.bind_some]
  rfl

/-! ### Doors that need a colour -/
section
variable {n : Nat} {N : Int} {ds : List (Int × Int × Int)} {ks : List Int}
theorem barDel_eq (d : Int × Int × Int) (x : Int) : impl_BarColours_2_c0.F n d.1 d.2.1 d.2.2 x = some (!decide (bitAnd .i64 d.2.2 x = 0)) := rfl
def barP (x : Int) (d : Int × Int × Int) : Bool := !decide (bitAnd .i64 d.2.2 x = 0)
theorem barIdx_l0 {K : Unit → Option Int} {x : Int} {l : List (Int × Int × Int)} (hl : l.length ≤ 1048576) : ∀ (j i : Nat), l.length - i < j → i ≤ l.length → (∀ m, m < i → barP x (l.getD m (0, 0, 0)) = false) →
    (∃ k : Nat, k < l.length ∧ (∀ m, m < k → barP x (l.getD m (0, 0, 0)) = false) ∧ barP x (l.getD k (0, 0, 0)) = true ∧ slices_IndexFunc_3_int_3_int_cBarColours_2.l0 n K j l x l.length i = some (k : Int)) ∨
    ((∀ m, m < l.length → barP x (l.getD m (0, 0, 0)) = false) ∧ slices_IndexFunc_3_int_3_int_cBarColours_2.l0 n K j l x l.length i = K ())
  | 0, i, h, _, _ => by omega
  | j + 1, i, h, hi, hm => by
    rw [slices_IndexFunc_3_int_3_int_cBarColours_2.l0]
    by_cases c : (i : Int) < (l.length : Int)
    · have ci : i < l.length := by omega
      have ei : (i : Int).toNat = i := by omega
      have k1 : decide ((i : Int) < (l.length : Int)) = true := by simpa using c
      have k2 : 0 ≤ (i : Int) ∧ (i : Int) < (l.length : Int) := ⟨by omega, c⟩
      have wi : IntKind.wrap .i64 ((i : Int) + 1) = ((i + 1 : Nat) : Int) := by rw [w64s (by omega) (by omega)]; omega
      rw [if_pos k1, if_pos k2, ei, wi, barDel_eq, Option.bind_some]
      have e : (!decide (bitAnd .i64 (l.getD i (0, 0, 0)).2.2 x = 0)) = barP x (l.getD i (0, 0, 0)) := rfl
      rw [e]
      cases hp : barP x (l.getD i (0, 0, 0)) with
      | true =>
        rw [if_pos rfl]
        exact .inl ⟨i, ci, hm, hp, rfl⟩
      | false =>
        rw [if_neg (by simp)]
        refine barIdx_l0 hl j (i + 1) (by omega) (by omega) fun m hm2 => ?_
        by_cases q : m = i
        · rw [q]; exact hp
        · exact hm m (by omega)
    · have k1 : ¬ decide ((i : Int) < (l.length : Int)) = true := by simpa using c
      rw [if_neg k1]
      exact .inr ⟨fun m hm2 => hm m (by omega), rfl⟩
/-- One element more behind a part that is filtered. -/
theorem take_filter_step {α : Type} (p : α → Bool) (l : List α) (d : α) {j : Nat} (hj : j < l.length) : (l.take (j + 1)).filter p = (l.take j).filter p ++ (if p (l.getD j d) = true then [l.getD j d] else []) := by
  rw [List.take_succ_eq_append_getElem hj, List.filter_append]
  have : l[j] = l.getD j d := by rw [List.getD_eq_getElem?_getD, List.getElem?_eq_getElem hj]; rfl
  rw [← this, List.filter_cons, List.filter_nil]
theorem barDel_l0 {K : List (Int × Int × Int) → Int → Option (List (Int × Int × Int))} {x : Int} {l : List (Int × Int × Int)} (hl : l.length ≤ 1048576) : ∀ (f j i : Nat) (xs : List (Int × Int × Int)), l.length - j < f → i < j → j ≤ l.length → xs.length = l.length → xs.take i = (l.take j).filter (fun d => !barP x d) → xs.drop j = l.drop j →
    ∃ (xs' : List (Int × Int × Int)) (i' : Nat), xs'.length = l.length ∧ i' ≤ l.length ∧ xs'.take i' = l.filter (fun d => !barP x d) ∧ slices_DeleteFunc_3_int_3_int_cBarColours_2.l0 n K f xs x i j = K xs' i'
  | 0, j, i, xs, h, _, _, _, _, _ => by omega
  | f + 1, j, i, xs, h, hij, hj, hlen, ht, hd => by
    rw [slices_DeleteFunc_3_int_3_int_cBarColours_2.l0, hlen]
    by_cases c : (j : Int) < (l.length : Int)
    · have cj : j < l.length := by omega
      have ej : (j : Int).toNat = j := by omega
      have ei : (i : Int).toNat = i := by omega
      have k1 : decide ((j : Int) < (l.length : Int)) = true := by simpa using c
      have k2 : 0 ≤ (j : Int) ∧ (j : Int) < (l.length : Int) := ⟨by omega, c⟩
      have k3 : 0 ≤ (i : Int) ∧ (i : Int) < (l.length : Int) := ⟨by omega, by omega⟩
      have wj : IntKind.wrap .i64 ((j : Int) + 1) = ((j + 1 : Nat) : Int) := by rw [w64s (by omega) (by omega)]; omega
      have wi : IntKind.wrap .i64 ((i : Int) + 1) = ((i + 1 : Nat) : Int) := by rw [w64s (by omega) (by omega)]; omega
      have hx1 := getD_drop (d := ((0, 0, 0) : Int × Int × Int)) (l := xs) (i := j) (by omega)
      have hl1 := getD_drop (d := ((0, 0, 0) : Int × Int × Int)) cj
      have hdd := hd
      rw [hx1, hl1] at hdd
      simp only [List.cons.injEq] at hdd
      rw [if_pos k1, if_pos k2, ej, wj, barDel_eq, Option.bind_some, hdd.1]
      have e : (!decide (bitAnd .i64 (l.getD j (0, 0, 0)).2.2 x = 0)) = barP x (l.getD j (0, 0, 0)) := rfl
      have hstep := take_filter_step (fun d => !barP x d) l ((0, 0, 0) : Int × Int × Int) cj
      rw [e]
      cases hp : barP x (l.getD j (0, 0, 0)) with
      | true =>
        rw [if_neg (by simp)]
        rw [hp] at hstep
        refine barDel_l0 hl f (j + 1) i xs (by omega) (by omega) (by omega) hlen ?_ hdd.2
        rw [hstep, ht]; simp
      | false =>
        rw [hp] at hstep
        rw [if_pos (by simp), if_pos k3, ei, wi]
        refine barDel_l0 hl f (j + 1) (i + 1) _ (by omega) (by omega) (by omega) (by simpa using hlen) ?_ ?_
        · rw [set_take xs i _ (by omega), hstep, ht]; simp
        · rw [List.drop_set_of_lt (by omega)]
          exact hdd.2
    · have k1 : ¬ decide ((j : Int) < (l.length : Int)) = true := by simpa using c
      have : j = l.length := by omega
      rw [if_neg k1]
      refine ⟨xs, i, hlen, by omega, ?_, rfl⟩
      rw [ht, this, List.take_length]
theorem filter_all_false {α : Type} (p : α → Bool) (d : α) (l : List α) (h : ∀ m, m < l.length → p (l.getD m d) = false) : l.filter (fun a => !p a) = l := by
  rw [List.filter_eq_self]
  intro a ha
  obtain ⟨m, hm, rfl⟩ := List.getElem_of_mem ha
  have := h m hm
  rw [List.getD_eq_getElem?_getD, List.getElem?_eq_getElem hm] at this
  have e : (some l[m]).getD d = l[m] := rfl
  rw [e] at this
  rw [this]; rfl
theorem barDel_all (hn : 1048578 ≤ n) {x : Int} {l : List (Int × Int × Int)} (hl : l.length ≤ 1048576) : slices_DeleteFunc_3_int_3_int_cBarColours_2.F n l x = some (l.filter fun d => !barP x d) := by
  unfold slices_DeleteFunc_3_int_3_int_cBarColours_2.F slices_IndexFunc_3_int_3_int_cBarColours_2.F
  rcases barIdx_l0 (n := n) (K := fun _ => some (-1 : Int)) (x := x) hl n 0 (by omega) (by omega) (fun m hm => by omega) with ⟨k, hk, hk2, hk3, he⟩ | ⟨hall, he⟩
  · simp only [Int.natCast_zero] at he
    have wk : IntKind.wrap .i64 ((k : Int) + 1) = ((k + 1 : Nat) : Int) := by rw [w64s (by omega) (by omega)]; omega
    rw [he, Option.bind_some, if_neg (by rw [decide_eq_true_eq]; omega), wk]
    obtain ⟨xs', i', p1, p2, p3, p4⟩ := barDel_l0 (n := n) (K := fun y3 y4 =>
      if 0 ≤ y4 ∧ y4 ≤ (y3.length : Int) then (if 0 ≤ y4 ∧ y4 ≤ ((y3.take y4.toNat ++ List.replicate (y3.length - y4.toNat) ((0 : Int), (0 : Int), (0 : Int))).length : Int) then (some ((y3.take y4.toNat ++ List.replicate (y3.length - y4.toNat) ((0 : Int), (0 : Int), (0 : Int))).take y4.toNat)) else none) else none) (x := x) hl n (k + 1) k l (by omega) (by omega) (by omega) rfl (by
        have hstep := take_filter_step (fun d => !barP x d) l ((0, 0, 0) : Int × Int × Int) hk
        rw [hk3] at hstep
        rw [hstep]
        simp only [Bool.not_true, Bool.false_eq_true, if_false, List.append_nil]
        refine (filter_all_false (barP x) ((0, 0, 0) : Int × Int × Int) (l.take k) fun m hm => ?_).symm
        have hmk : m < k := by simp at hm; omega
        rw [List.getD_eq_getElem?_getD, List.getElem?_take, if_pos hmk, ← List.getD_eq_getElem?_getD]
        exact hk2 m hmk) rfl
    rw [p4]
    have ei : (i' : Int).toNat = i' := by omega
    have q1 : 0 ≤ (i' : Int) ∧ (i' : Int) ≤ (xs'.length : Int) := by omega
    have q2 : 0 ≤ (i' : Int) ∧ (i' : Int) ≤ ((xs'.take i' ++ List.replicate (xs'.length - i') ((0 : Int), (0 : Int), (0 : Int))).length : Int) := by
      rw [List.length_append, List.length_take, List.length_replicate]; omega
    simp only [if_pos q1, ei, if_pos q2]
    rw [List.take_append_of_le_length (by rw [List.length_take]; omega), List.take_take, Nat.min_self, p3]
  · simp only [Int.natCast_zero] at he
    rw [he, Option.bind_some, if_pos (by simp)]
    rw [filter_all_false (barP x) ((0, 0, 0) : Int × Int × Int) l hall]

variable {N : Int} {ds : List (Int × Int × Int)} {ks : List Int}
end

theorem barS_l0 {n : Nat} {K : Int → Int → List Door → List Int → Int → List Door → List Int → Int → List Door → List Int → Option (Int × List Door × List Int)} {x1 N a p : Int} {ds b : List Door} {ks c o : List Int} (hd : ds.length ≤ 30) : ∀ (f i : Nat), ds.length - i < f → i ≤ ds.length →
    spec_l2Barred.l0 n K f x1 N ds ks a b c p ((ds.take i).filter fun d => !barP x1 d) o i = K x1 N ds ks a b c p (ds.filter fun d => !barP x1 d) o
  | 0, i, hf, _ => by omega
  | f + 1, i, hf, hi => by
    rw [spec_l2Barred.l0]
    by_cases cc : (i : Int) < (ds.length : Int)
    · have c2 : i < ds.length := by omega
      have k1 : decide ((i : Int) < (ds.length : Int)) = true := by simpa using cc
      have k2 : 0 ≤ (i : Int) ∧ (i : Int) < (ds.length : Int) := ⟨by omega, cc⟩
      have wi : IntKind.wrap .i64 ((i : Int) + 1) = ((i + 1 : Nat) : Int) := by rw [w64s (by omega) (by omega)]; omega
      have hfl : ((ds.take i).filter fun d => !barP x1 d).length ≤ 30 := by
        have := List.length_filter_le (fun d => !barP x1 d) (ds.take i)
        rw [List.length_take] at this
        omega
      simp only [if_pos k1, if_pos k2, Int.toNat_natCast, wi]
      rw [if_pos (show ((ds.take i).filter fun d => !barP x1 d).length + ([ds.getD i ((0 : Int), (0 : Int), (0 : Int))] : List Door).length ≤ 4398046511104 by simp only [List.length_singleton]; omega)]
      have hst := take_filter_step (fun d => !barP x1 d) ds dz c2
      have ih := barS_l0 (n := n) (K := K) (x1 := x1) (N := N) (a := a) (p := p) (b := b) (ks := ks) (c := c) (o := o) hd f (i + 1) (by omega) (by omega)
      rw [hst] at ih
      have hp : barP x1 (ds.getD i dz) = !decide (bitAnd .i64 (ds.getD i dz).2.2 x1 = 0) := rfl
      rw [hp, Bool.not_not] at ih
      by_cases e : bitAnd .i64 (ds.getD i dz).2.2 x1 = 0
      · rw [if_pos (by rw [decide_eq_true e])] at ih
        rw [if_pos (by rw [decide_eq_true e])]
        exact ih
      · rw [if_neg (by rw [decide_eq_false e]; simp), List.append_nil] at ih
        rw [if_neg (by rw [decide_eq_false e]; simp)]
        exact ih
    · have k1 : ¬ decide ((i : Int) < (ds.length : Int)) = true := by simpa using cc
      rw [if_neg k1, List.take_of_length_le (by omega)]
theorem barS_l2 {n : Nat} {K : Int → List Door → List Int → Int → List Door → List Int → Option (Int × List Door × List Int)} {x1 : Int} {N a p : Int} {ds b q : List Door} {ks c : List Int} (hN : (ks.length : Int) = N) (hk : ks.length ≤ 12) : ∀ (f i : Nat), ks.length - i < f → i ≤ ks.length →
    spec_l2Barred.l2 n K f x1 N ds ks a b c p q ((ks.take i).map fun z => bitClr .i64 z x1) i = K a b c p q (ks.map fun z => bitClr .i64 z x1)
  | 0, i, hf, _ => by omega
  | f + 1, i, hf, hi => by
    rw [spec_l2Barred.l2]
    by_cases cc : (i : Int) < N
    · have c2 : i < ks.length := by omega
      have k1 : decide ((i : Int) < N) = true := by simpa using cc
      have k2 : 0 ≤ (i : Int) ∧ (i : Int) < (ks.length : Int) := ⟨by omega, by omega⟩
      have wi : IntKind.wrap .i64 ((i : Int) + 1) = ((i + 1 : Nat) : Int) := by rw [w64s (by omega) (by omega)]; omega
      rw [if_pos k1, if_pos k2, Int.toNat_natCast, wi]
      rw [if_pos (by simp only [List.length_map, List.length_take, List.length_singleton]; omega)]
      have e : (ks.take i).map (fun z => bitClr .i64 z x1) ++ [bitClr .i64 (ks.getD i 0) x1] = (ks.take (i + 1)).map fun z => bitClr .i64 z x1 := by
        rw [List.take_succ_eq_append_getElem c2, List.map_append, List.getD_eq_getElem?_getD, List.getElem?_eq_getElem c2]
        rfl
      rw [e]
      exact barS_l2 hN hk f (i + 1) (by omega) (by omega)
    · have k1 : ¬ decide ((i : Int) < N) = true := by simpa using cc
      rw [if_neg k1, List.take_of_length_le (by omega)]
open Classical in
theorem BarColours_same {n : Nat} {N : Int} {ds : List Door} {ks : List Int} (hn : 1048578 ≤ n) (s : Int) : ∃ q : RM, (q.2.1.length ≤ 1048576 ∧ q.2.2.1.length ≤ 1048576) ∧ spec_BarColours.F n N ds ks s = some q ∧ impl_BarColours.F n N ds ks s = some q := by
  unfold spec_BarColours.F impl_BarColours.F
  rw [l2Maze_val (by omega), IsMaze_val (by omega), Option.bind_some, Option.bind_some, l2Set_eq, isSet_eq, Option.bind_some, Option.bind_some]
  by_cases h : VM N ds ks
  · have hv : decide (VM N ds ks) = true := by simp [h]
    cases hs : setB s with
    | false => exact ⟨(0, [], [], false), by simp, by simp [hv], by simp [hv]⟩
    | true =>
      have hd := h.dl
      have h1 := h.n1
      have h2 := h.n2
      have hkl := h.kl
      simp only [hv, Bool.not_true, Bool.false_eq_true, if_false]
      unfold spec_l2Barred.F
      have e1 := barS_l0 (n := n) (K := fun y1 y2 y3 y4 y5 y6 y7 y8 y9 y10 =>
        spec_l2Barred.l2 n (fun y11 y12 y13 y14 y15 y16 =>
          some (y14, y15, y16)) n y1 y2 y3 y4 y5 y6 y7 y8 y9 y10 (0 : Int)) (x1 := s) (N := N) (a := 0) (p := N) (b := []) (ds := ds) (ks := ks) (c := []) (o := []) hd n 0 (by omega) (by omega)
      have e2 := barS_l2 (n := n) (K := fun y11 y12 y13 y14 y15 y16 => some (y14, y15, y16)) (x1 := s) (N := N) (a := 0) (p := N) (b := []) (ds := ds) (q := ds.filter fun d => !barP s d) (ks := ks) (c := []) hkl (by omega) n 0 (by omega) (by omega)
      simp only [Int.natCast_zero, List.take_zero, List.map_nil, List.filter_nil] at e1 e2
      have e3 : slices_Clone_3_int_3_int.F n ds = some ds := by
        unfold slices_Clone_3_int_3_int.F
        rw [if_pos (by simp; omega)]
        rfl
      rw [e1, e2, ch_BarColours (g := fun z => bitClr .i64 z s) hn (by omega) (by omega) (fun _ _ => rfl) (fun _ _ => rfl), e3]
      simp only [Option.bind_some]
      rw [barDel_all hn (by omega)]
      simp only [Option.bind_some]
      refine ⟨(N, _, _, true), ⟨?_, ?_⟩, rfl, rfl⟩
      · exact Nat.le_trans (List.length_filter_le _ _) (by omega)
      · simp only [List.length_map]; omega
  · have hv : decide (VM N ds ks) = false := by simp [h]
    exact ⟨(0, [], [], false), by simp, by simp [hv], by simp [hv]⟩
end Go.Pv
