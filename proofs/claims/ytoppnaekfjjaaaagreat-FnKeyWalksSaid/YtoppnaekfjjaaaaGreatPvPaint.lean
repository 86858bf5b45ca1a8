/- Plain laws: repainted mazes; printed in part by a program of mine (pvE.py). -/
import Derived.Test.YtoppnaekfjjaaaaGreatPvNum
import Derived.Test.YtoppnaekfjjaaaaGreatPvMem
set_option linter.unusedVariables false
set_option linter.unusedSimpArgs false
set_option autoImplicit false
namespace Go.Pv
open Go Go.Fx Go.Pf


/-! ### Painted sets -/
def paintN (to : List Int) (l : List Int) (a : Nat) : Nat := l.foldl (fun a c => a ||| 2 ^ (to.getD c.toNat 0).toNat) a
theorem paintN_lt {to : List Int} (hr : ∀ x ∈ to, 0 ≤ x ∧ x < 6) : ∀ (l : List Int) (a : Nat), a < 2 ^ 6 → paintN to l a < 2 ^ 6
  | [], a, ha => ha
  | c :: l, a, ha => by
    refine paintN_lt hr l _ (Nat.or_lt_two_pow ha ?_)
    have h5 : (to.getD c.toNat 0).toNat ≤ 5 := by
      rcases getD_or (l := to) c with h | h
      · have := hr _ h; omega
      · rw [List.getD_eq_getElem?_getD, List.getElem?_eq_none h]; decide
    exact Nat.pow_lt_pow_right (by omega) (by omega)
theorem paintI_l0 {n : Nat} {K : Int → Option Int} {to l : List Int} (ht : to.length = 6) (hr : ∀ x ∈ to, 0 ≤ x ∧ x < 6) (hl : l.length ≤ 12) (hc : ∀ c ∈ l, 0 ≤ c ∧ c < 6) : ∀ (f i a : Nat), l.length - i < f → i ≤ l.length → a < 2 ^ 6 →
    impl_RepaintMaze_1_c0.l0 n K f to (a : Int) l l.length i = K ((paintN to (l.drop i) a : Nat) : Int)
  | 0, i, a, hf, _, _ => by omega
  | f + 1, i, a, hf, hi, ha => by
    rw [impl_RepaintMaze_1_c0.l0]
    by_cases cc : (i : Int) < (l.length : Int)
    · have c2 : i < l.length := by omega
      have k1 : decide ((i : Int) < (l.length : Int)) = true := by simpa using cc
      have k2 : 0 ≤ (i : Int) ∧ (i : Int) < (l.length : Int) := ⟨by omega, cc⟩
      have wi : IntKind.wrap .i64 ((i : Int) + 1) = ((i + 1 : Nat) : Int) := by rw [w64s (by omega) (by omega)]; omega
      have hm := hc _ (getD_mem (d := (0 : Int)) c2)
      have k3 : 0 ≤ l.getD i 0 ∧ l.getD i 0 < (to.length : Int) := by omega
      have hto := hr _ (getD_mem (d := (0 : Int)) (l := to) (i := (l.getD i 0).toNat) (by omega))
      have hdr := getD_drop (d := (0 : Int)) c2
      rw [if_pos k1, if_pos k2, Int.toNat_natCast, if_pos k3, if_neg (by omega), wi]
      have e1 : shL .i64 1 (to.getD (l.getD i 0).toNat 0) = ((2 ^ (to.getD (l.getD i 0).toNat 0).toNat : Nat) : Int) := by
        conv => lhs; rw [show to.getD (l.getD i 0).toNat 0 = (((to.getD (l.getD i 0).toNat 0).toNat : Nat) : Int) by omega]
        exact shL_one (by omega)
      have hp : 2 ^ (to.getD (l.getD i 0).toNat 0).toNat < 2 ^ 6 := Nat.pow_lt_pow_right (by omega) (by omega)
      rw [e1, bitOr_nat (by omega) (by omega), paintI_l0 ht hr hl hc f (i + 1) _ (by omega) (by omega) (Nat.or_lt_two_pow ha hp), hdr]
      rfl
    · have k1 : ¬ decide ((i : Int) < (l.length : Int)) = true := by simpa using cc
      rw [if_neg k1, List.drop_eq_nil_of_le (by omega)]
      rfl
theorem memF_add (S : Nat) : ∀ (k m c : Nat), memF S c (k + m) = memF S c k ++ memF S (c + k) m
  | 0, m, c => by simp [memF]
  | k + 1, m, c => by
    rw [show k + 1 + m = (k + m) + 1 by omega, memF_succ, memF_succ, memF_add S k m (c + 1), show c + 1 + k = c + (k + 1) by omega]
    split <;> simp
theorem memL_six {S : Nat} (h : S < 2 ^ 6) : memL S = memF S 0 6 := by
  unfold memL
  rw [show (12 : Nat) = 6 + 6 by omega, memF_add]
  have : memF S (0 + 6) 6 = [] := by
    apply List.eq_nil_iff_forall_not_mem.2
    intro x hx
    obtain ⟨i, _, h1, _, h2⟩ := memF_mem.1 hx
    have : S.testBit i = false := Nat.testBit_lt_two_pow (Nat.lt_of_lt_of_le h (Nat.pow_le_pow_right (by omega) (by omega)))
    rw [this] at h2
    cases h2
  rw [this, List.append_nil]
theorem paintS_l0 {n : Nat} {K : Int → Option Int} {to : List Int} {x : Nat} (hx : x < 2 ^ 6) (ht : to.length = 6) (hr : ∀ x ∈ to, 0 ≤ x ∧ x < 6) : ∀ (f c a : Nat), 6 - c < f → c ≤ 6 → a < 2 ^ 6 →
    spec_l2Painted.l0 n K f (x : Int) to (a : Int) c = K ((paintN to (memF x c (6 - c)) a : Nat) : Int)
  | 0, c, a, hf, _, _ => by omega
  | f + 1, c, a, hf, hc, ha => by
    rw [spec_l2Painted.l0]
    by_cases cc : (c : Int) < 6
    · have wi : IntKind.wrap .i64 ((c : Int) + 1) = ((c + 1 : Nat) : Int) := by rw [w64s (by omega) (by omega)]; omega
      have k3 : 0 ≤ (c : Int) ∧ (c : Int) < (to.length : Int) := by omega
      have hto := hr _ (getD_mem (d := (0 : Int)) (l := to) (i := c) (by omega))
      have e : 6 - c = (6 - (c + 1)) + 1 := by omega
      rw [if_pos (by rw [decide_eq_true_eq]; exact cc), if_neg (by omega), if_pos k3, Int.toNat_natCast, if_neg (by omega), wi, e, memF_succ]
      cases hb : x.testBit c with
      | true =>
        have h1 : bitAnd .i64 (shR .i64 (x : Int) (c : Int)) 1 = 1 := by
          have := bit_one (a := x) (k := c) (by omega) (by omega)
          rw [hb] at this
          simpa using this
        have e1 : shL .i64 1 (to.getD c 0) = ((2 ^ (to.getD c 0).toNat : Nat) : Int) := by
          conv => lhs; rw [show to.getD c 0 = (((to.getD c 0).toNat : Nat) : Int) by omega]
          exact shL_one (by omega)
        have hp : 2 ^ (to.getD c 0).toNat < 2 ^ 6 := Nat.pow_lt_pow_right (by omega) (by omega)
        rw [h1, e1, bitOr_nat (by omega) (by omega), paintS_l0 hx ht hr f (c + 1) _ (by omega) (by omega) (Nat.or_lt_two_pow ha hp), if_pos rfl]
        rfl
      | false =>
        have h1 : bitAnd .i64 (shR .i64 (x : Int) (c : Int)) 1 = 0 := by
          have := bit_zero (a := x) (k := c) (by omega) (by omega)
          rw [hb] at this
          simpa using this
        have e1 : shL .i64 0 (to.getD c 0) = ((0 : Nat) : Int) := by
          unfold shL
          rw [Int.zero_mul]
          rfl
        rw [h1, e1, bitOr_nat (by omega) (by omega), Nat.or_zero, paintS_l0 hx ht hr f (c + 1) a (by omega) (by omega) ha, if_neg (by simp)]
    · have e : 6 - c = 0 := by omega
      rw [if_neg (by rw [decide_eq_true_eq]; exact cc), e]
      rfl
def paintG (to : List Int) (z : Int) : Int := ((paintN to (memL z.toNat) 0 : Nat) : Int)
theorem paint_spec {n : Nat} {to : List Int} (hn : 100 ≤ n) (ht : to.length = 6) (hr : ∀ x ∈ to, 0 ≤ x ∧ x < 6) {z : Int} (hz : 0 ≤ z ∧ z ≤ 63) : spec_l2Painted.F n z to = some (paintG to z) := by
  unfold spec_l2Painted.F
  have hx : z.toNat < 2 ^ 6 := by omega
  have h := paintS_l0 (n := n) (K := fun y1 => some y1) hx ht hr n 0 0 (by omega) (by omega) (by decide)
  rw [Int.toNat_of_nonneg hz.1] at h
  unfold paintG
  rw [memL_six hx]
  exact h
theorem paint_impl {n : Nat} {to : List Int} (hn : 100 ≤ n) (ht : to.length = 6) (hr : ∀ x ∈ to, 0 ≤ x ∧ x < 6) {z : Int} (hz : 0 ≤ z ∧ z ≤ 63) : impl_RepaintMaze_1_c0.F n z to = some (paintG to z) := by
  unfold impl_RepaintMaze_1_c0.F
  have hx : z.toNat < 2 ^ 6 := by omega
  have hm := members_eq (n := n) (S := z.toNat) (by omega) (by omega)
  rw [Int.toNat_of_nonneg hz.1] at hm
  rw [hm, Option.bind_some]
  have hc : ∀ c ∈ memL z.toNat, 0 ≤ c ∧ c < 6 := by
    intro c hc
    rw [memL_six hx] at hc
    obtain ⟨i, rfl, _, h2, _⟩ := memF_mem.1 hc
    omega
  have h := paintI_l0 (n := n) (K := fun y2 => some y2) ht hr (memL_length _) hc n 0 0 (by have := memL_length z.toNat; omega) (by omega) (by decide)
  simp only [Int.natCast_zero, List.drop_zero] at h
  exact h

/-! ### What RepaintMaze makes of needs and keys -/
theorem chD_RepaintMaze {n : Nat} {K : List Int → Int → List Door → List Int → Int → List Door → List Int → Option (Int × List Door × List Int)} {x1 : List Int} {a N : Int} {b : List Door} {c ks : List Int} {g : Int → Int} {L : Nat} (hL : L ≤ 1048576) : ∀ (f : Nat) (r A : List Door), r.length < f → A.length + r.length = L → (∀ d ∈ r, impl_RepaintMaze_1_c0.F n d.2.2 x1 = some (g d.2.2)) →
    impl_changed_cRepaintMaze_1.l0 n K f x1 a b c N (A ++ r) ks L A.length = K x1 a b c N (A ++ r.map (needD g)) ks
  | 0, r, A, hf, _, _ => by omega
  | f + 1, [], A, hf, hl, _ => by
    rw [impl_changed_cRepaintMaze_1.l0]
    simp only [List.length_nil, Nat.add_zero] at hl
    rw [if_neg (by rw [decide_eq_true_eq]; omega)]
    rfl
  | f + 1, d :: r, A, hf, hl, hg => by
    rw [impl_changed_cRepaintMaze_1.l0]
    simp only [List.length_cons] at hf hl
    have k1 : decide ((A.length : Int) < (L : Int)) = true := by rw [decide_eq_true_eq]; omega
    have k2 : 0 ≤ (A.length : Int) ∧ (A.length : Int) < ((A ++ d :: r).length : Int) := by simp only [List.length_append, List.length_cons]; omega
    have w1 : IntKind.wrap .i64 ((A.length : Int) + 1) = (((A ++ [needD g d]).length : Nat) : Int) := by rw [w64s (by omega) (by omega)]; simp
    have hd : (A ++ d :: r).getD A.length ((0 : Int), (0 : Int), (0 : Int)) = d := by simp [List.getD]
    have hs : ∀ v : Door, (A ++ d :: r).set A.length v = (A ++ [v]) ++ r := by intro v; simp
    simp only [if_pos k1, if_pos k2, Int.toNat_natCast, hd, hs, w1, hg d (by simp), Option.bind_some]
    have := chD_RepaintMaze (n := n) (K := K) (x1 := x1) (a := a) (b := b) (c := c) (N := N) (ks := ks) (g := g) hL f r (A ++ [needD g d]) (by omega) (by simp; omega) (fun e he => hg e (by simp [he]))
    have e : (A ++ [needD g d]) ++ r.map (needD g) = A ++ (d :: r).map (needD g) := by simp
    rw [e] at this
    exact this
theorem chK_RepaintMaze {n : Nat} {K : Int → List Door → List Int → Int → List Door → List Int → Option (Int × List Door × List Int)} {x1 : List Int} {a N : Int} {b ds : List Door} {c : List Int} {g : Int → Int} {L : Nat} (hL : L ≤ 1048576) : ∀ (f : Nat) (r A : List Int), r.length < f → A.length + r.length = L → (∀ d ∈ r, impl_RepaintMaze_1_c0.F n d x1 = some (g d)) →
    impl_changed_cRepaintMaze_1.l2 n K f x1 a b c N ds (A ++ r) L A.length = K a b c N ds (A ++ r.map g)
  | 0, r, A, hf, _, _ => by omega
  | f + 1, [], A, hf, hl, _ => by
    rw [impl_changed_cRepaintMaze_1.l2]
    simp only [List.length_nil, Nat.add_zero] at hl
    rw [if_neg (by rw [decide_eq_true_eq]; omega)]
    rfl
  | f + 1, d :: r, A, hf, hl, hg => by
    rw [impl_changed_cRepaintMaze_1.l2]
    simp only [List.length_cons] at hf hl
    have k1 : decide ((A.length : Int) < (L : Int)) = true := by rw [decide_eq_true_eq]; omega
    have k2 : 0 ≤ (A.length : Int) ∧ (A.length : Int) < ((A ++ d :: r).length : Int) := by simp only [List.length_append, List.length_cons]; omega
    have w1 : IntKind.wrap .i64 ((A.length : Int) + 1) = (((A ++ [g d]).length : Nat) : Int) := by rw [w64s (by omega) (by omega)]; simp
    have hd : (A ++ d :: r).getD A.length (0 : Int) = d := by simp [List.getD]
    have hs : ∀ v : Int, (A ++ d :: r).set A.length v = (A ++ [v]) ++ r := by intro v; simp
    simp only [if_pos k1, if_pos k2, Int.toNat_natCast, hd, hs, w1, hg d (by simp), Option.bind_some]
    have := chK_RepaintMaze (n := n) (K := K) (x1 := x1) (a := a) (b := b) (c := c) (N := N) (ds := ds) (g := g) hL f r (A ++ [g d]) (by omega) (by simp; omega) (fun e he => hg e (by simp [he]))
    have e : (A ++ [g d]) ++ r.map g = A ++ (d :: r).map g := by simp
    rw [e] at this
    exact this
theorem ch_RepaintMaze {n : Nat} {x1 : List Int} {N : Int} {ds : List Door} {ks : List Int} {g : Int → Int} (hn : 1048578 ≤ n) (hd : ds.length ≤ 1048576) (hk : ks.length ≤ 1048576) (h1 : ∀ d ∈ ds, impl_RepaintMaze_1_c0.F n d.2.2 x1 = some (g d.2.2)) (h2 : ∀ k ∈ ks, impl_RepaintMaze_1_c0.F n k x1 = some (g k)) :
    impl_changed_cRepaintMaze_1.F n N ds ks x1 = some (N, tidyL (ds.map (needD g)), ks.map g) := by
  unfold impl_changed_cRepaintMaze_1.F
  rw [ownE hd hk, Option.bind_some]
  have e1 := chD_RepaintMaze (n := n) (K := fun y3 y4 y5 y6 y7 y8 y9 =>
    impl_changed_cRepaintMaze_1.l2 n (fun y11 y12 y13 y14 y15 y16 =>
      (impl_tidy.F n y14 y15 y16).bind fun r17 =>
      some (r17.1, r17.2.1, r17.2.2)) n y3 y4 y5 y6 y7 y8 y9 (y9.length : Int) (0 : Int)) (x1 := x1) (a := 0) (b := []) (c := []) (N := N) (ks := ks) (g := g) hd n ds [] (by omega) (by simp) h1
  have e2 := chK_RepaintMaze (n := n) (K := fun y11 y12 y13 y14 y15 y16 =>
      (impl_tidy.F n y14 y15 y16).bind fun r17 =>
      some (r17.1, r17.2.1, r17.2.2)) (x1 := x1) (a := 0) (b := []) (c := []) (N := N) (ds := ds.map (needD g)) (g := g) hk n ks [] (by omega) (by simp) h2
  simp only [List.nil_append, List.length_nil, Int.natCast_zero] at e1 e2
  rw [e1, e2, tidy_eq (by simpa using hd) (by simpa using (by omega : ds.length < n)), Option.bind_some]
  rfl

theorem spD_RepaintMaze {n : Nat} {K : List Int → Int → List Door → List Int → Int → List Door → List Int → Int → List Door → List Int → Option (Int × List Door × List Int × Bool)} {x1 : List Int} {N a p : Int} {ds b : List Door} {ks c o : List Int} {g : Int → Int} (hn : 1048578 ≤ n) (hd : ds.length ≤ 30) (hg : (∀ d ∈ ds, spec_l2Painted.F n d.2.2 x1 = some (g d.2.2))) : ∀ (f i : Nat) (q : List Door), ds.length - i < f → i ≤ ds.length → LexS q → q.length ≤ i →
    ∃ q', LexS q' ∧ (∀ x, x ∈ q' ↔ x ∈ q ∨ ∃ d ∈ ds.drop i, nrm (needD g d) = x) ∧ q'.length ≤ 30 ∧ spec_RepaintMaze.l0 n K f x1 N ds ks a b c p q o i = K x1 N ds ks a b c p q' o
  | 0, i, q, hf, _, _, _ => by omega
  | f + 1, i, q, hf, hi, hq, hl => by
    rw [spec_RepaintMaze.l0]
    by_cases cc : (i : Int) < (ds.length : Int)
    · have c2 : i < ds.length := by omega
      have k1 : decide ((i : Int) < (ds.length : Int)) = true := by simpa using cc
      have k2 : 0 ≤ (i : Int) ∧ (i : Int) < (ds.length : Int) := ⟨by omega, cc⟩
      have wi : IntKind.wrap .i64 ((i : Int) + 1) = ((i + 1 : Nat) : Int) := by rw [w64s (by omega) (by omega)]; omega
      simp only [if_pos k1, if_pos k2, Int.toNat_natCast, wi]
      rw [hg _ (getD_mem c2), Option.bind_some]
      have hdr := getD_drop (d := dz) c2
      obtain ⟨r, r1, r2, r3, r4, r5⟩ := put_eq (n := n) (l := q) (by omega) (by omega) hq (ds.getD i dz).1 (ds.getD i dz).2.1 (g (ds.getD i dz).2.2)
      rw [r1, Option.bind_some]
      have hr : r.length ≤ i + 1 := by
        by_cases hin : nrm ((ds.getD i dz).1, (ds.getD i dz).2.1, g (ds.getD i dz).2.2) ∈ q
        · rw [r4 hin]; omega
        · rw [r5 hin]; omega
      obtain ⟨q', s1, s2, s3, s4⟩ := spD_RepaintMaze (K := K) (N := N) (a := a) (p := p) (b := b) (ks := ks) (c := c) (o := o) hn hd hg f (i + 1) r (by omega) (by omega) r2 hr
      refine ⟨q', s1, fun x => ?_, s3, s4⟩
      rw [s2 x, r3 x, hdr]
      constructor
      · rintro ((h | h) | ⟨d, h, h'⟩)
        · exact .inl h
        · exact .inr ⟨ds.getD i dz, by simp, h.symm⟩
        · exact .inr ⟨d, List.mem_cons_of_mem _ h, h'⟩
      · rintro (h | ⟨d, h, h'⟩)
        · exact .inl (.inl h)
        · rcases List.mem_cons.1 h with rfl | h
          · exact .inl (.inr h'.symm)
          · exact .inr ⟨d, h, h'⟩
    · have k1 : ¬ decide ((i : Int) < (ds.length : Int)) = true := by simpa using cc
      have : ds.drop i = [] := List.drop_eq_nil_of_le (by omega)
      rw [if_neg k1, this]
      exact ⟨q, hq, fun x => by simp, by omega, rfl⟩
theorem spK_RepaintMaze {n : Nat} {K : Int → List Door → List Int → Int → List Door → List Int → Option (Int × List Door × List Int × Bool)} {x1 : List Int} {N a p : Int} {ds b q : List Door} {ks c : List Int} {g : Int → Int} (hN : (ks.length : Int) = N) (hk : ks.length ≤ 12) (hg : (∀ k ∈ ks, spec_l2Painted.F n k x1 = some (g k))) : ∀ (f i : Nat), ks.length - i < f → i ≤ ks.length →
    spec_RepaintMaze.l2 n K f x1 N ds ks a b c p q ((ks.take i).map g) i = K a b c p q (ks.map g)
  | 0, i, hf, _ => by omega
  | f + 1, i, hf, hi => by
    rw [spec_RepaintMaze.l2]
    by_cases cc : (i : Int) < N
    · have c2 : i < ks.length := by omega
      have k1 : decide ((i : Int) < N) = true := by simpa using cc
      have k2 : 0 ≤ (i : Int) ∧ (i : Int) < (ks.length : Int) := ⟨by omega, by omega⟩
      have wi : IntKind.wrap .i64 ((i : Int) + 1) = ((i + 1 : Nat) : Int) := by rw [w64s (by omega) (by omega)]; omega
      rw [if_pos k1, if_pos k2, Int.toNat_natCast, wi]
      rw [hg _ (getD_mem c2), Option.bind_some]
      rw [if_pos (by simp only [List.length_map, List.length_take, List.length_singleton]; omega)]
      have e : (ks.take i).map g ++ [g (ks.getD i 0)] = (ks.take (i + 1)).map g := by
        rw [List.take_succ_eq_append_getElem c2, List.map_append, List.getD_eq_getElem?_getD, List.getElem?_eq_getElem c2]
        rfl
      rw [e]
      exact spK_RepaintMaze hN hk hg f (i + 1) (by omega) (by omega)
    · have k1 : ¬ decide ((i : Int) < N) = true := by simpa using cc
      rw [if_neg k1, List.take_of_length_le (by omega)]

open Classical in
theorem RepaintMaze_same {n : Nat} {N : Int} {ds : List Door} {ks to : List Int} (hn : 1048578 ≤ n) (hl : to.length ≤ 1048576) : ∃ q : RM, (q.2.1.length ≤ 1048576 ∧ q.2.2.1.length ≤ 1048576) ∧ spec_RepaintMaze.F n N ds ks to = some q ∧ impl_RepaintMaze.F n N ds ks to = some q := by
  unfold spec_RepaintMaze.F impl_RepaintMaze.F
  rw [l2Maze_val (by omega), IsMaze_val (by omega), Option.bind_some, Option.bind_some]
  by_cases h : VM N ds ks
  · have hv : decide (VM N ds ks) = true := by simp [h]
    have h1 := h.n1
    have h2 := h.n2
    have hd := h.dl
    have hkl := h.kl
    simp only [hv, Bool.not_true, Bool.false_eq_true, if_false]
    rw [l2Order_eq (by omega) (by omega) hl hn, isOrder_eq (by omega) (by omega) hl hn, Option.bind_some, Option.bind_some]
    by_cases ho : Ord to 6
    · have hov : decide (Ord to 6) = true := by simp [ho]
      simp only [hov, Bool.not_true, Bool.false_eq_true, if_false]
      have ht : to.length = 6 := by have := ho.2; omega
      have hr := ho.range (by omega)
      have gd : ∀ d ∈ ds, 0 ≤ d.2.2 ∧ d.2.2 ≤ 63 := fun d hd => by have := h.door d hd; omega
      have gk : ∀ k ∈ ks, 0 ≤ k ∧ k ≤ 63 := h.keys
      obtain ⟨q', s1, s2, s3, s4⟩ := spD_RepaintMaze (n := n) (K := fun y5 y6 y7 y8 y9 y10 y11 y12 y13 y14 =>
        spec_RepaintMaze.l2 n (fun y16 y17 y18 y19 y20 y21 =>
          some (y19, y20, y21, true)) n y5 y6 y7 y8 y9 y10 y11 y12 y13 y14 (0 : Int)) (x1 := to) (N := N) (a := 0) (p := N) (b := []) (ds := ds) (ks := ks) (c := []) (o := []) (g := paintG to) hn hd (fun d hd => paint_spec (by omega) ht hr (gd d hd)) n 0 [] (by omega) (by omega) List.Pairwise.nil (by simp)
      have e2 := spK_RepaintMaze (n := n) (K := fun y16 y17 y18 y19 y20 y21 => some (y19, y20, y21, true)) (x1 := to) (N := N) (a := 0) (p := N) (b := []) (ds := ds) (q := q') (ks := ks) (c := []) (g := paintG to) hkl (by omega) (fun k hk => paint_spec (by omega) ht hr (gk k hk)) n 0 (by omega) (by omega)
      simp only [Int.natCast_zero, List.take_zero, List.map_nil] at s4 e2
      rw [s4, e2, ch_RepaintMaze (g := paintG to) hn (by omega) (by omega) (fun d hd => paint_impl (by omega) ht hr (gd d hd)) (fun k hk => paint_impl (by omega) ht hr (gk k hk)), Option.bind_some]
      have e : q' = tidyL (ds.map (needD (paintG to))) := by
        refine lex_ext s1 (tidyL_lex _) fun x => ?_
        rw [s2 x, tidyL_mem]
        simp only [List.drop_zero, List.not_mem_nil, false_or, List.mem_map]
        constructor
        · rintro ⟨d, hd1, hd2⟩
          exact ⟨_, ⟨d, hd1, rfl⟩, hd2⟩
        · rintro ⟨_, ⟨d, hd1, rfl⟩, hd2⟩
          exact ⟨d, hd1, hd2⟩
      rw [e]
      refine ⟨(N, _, _, true), ⟨?_, ?_⟩, rfl, rfl⟩
      · rw [← e]; simp only; omega
      · simp only [List.length_map]; omega
    · have hov : decide (Ord to 6) = false := by simp [ho]
      simp only [hov]
      exact ⟨(0, [], [], false), by simp, rfl, rfl⟩
  · have hv : decide (VM N ds ks) = false := by simp [h]
    simp only [hv]
    exact ⟨(0, [], [], false), by simp, rfl, rfl⟩
end Go.Pv
