/- Plain laws: orders, colours and walks that are drawn; mazes that are held against themselves. -/
import Derived.Test.YtfgncboicamdjaaPvDrawM
import Derived.Test.YtfgncboicamdjaaPvMark
import Derived.Test.YtfgncboicamdjaaPvSteps
set_option linter.unusedVariables false
set_option linter.unusedSimpArgs false
set_option autoImplicit false
namespace Go.Pv
open Go Go.Fx Go.Pf

section
variable {n : Nat}
theorem rInts_l0 {K : Unit → Option Bool} {xs : List Int} (hx : xs.length ≤ 1048576) : ∀ (j i : Nat), xs.length - i < j → laws_rInts.l0 n K j xs xs (i : Int) = K ()
  | 0, i, h => by omega
  | j + 1, i, h => by
    rw [laws_rInts.l0]
    by_cases c : (i : Int) < (xs.length : Int)
    · have wi : IntKind.wrap .i64 ((i : Int) + 1) = ((i + 1 : Nat) : Int) := by rw [w64s (by omega) (by omega)]; omega
      rw [if_pos (by simpa using c), if_pos ⟨by omega, c⟩, if_pos ⟨by omega, c⟩, wi, neqI_self, if_neg (by simp)]
      exact rInts_l0 hx j (i + 1) (by omega)
    · rw [if_neg (by simpa using c)]
theorem rInts_self (hn : 1048578 ≤ n) {xs : List Int} (hx : xs.length ≤ 1048576) : laws_rInts.F n xs xs = some true := by
  unfold laws_rInts.F
  have := rInts_l0 (n := n) (K := fun _ => some true) hx n 0 (by omega)
  simp only [Int.natCast_zero] at this
  rw [neqI_self, if_neg (by simp), this]
variable {cd : List Int} {a s : Int}
theorem open_some {N : Int} {ds : List (Int × Int × Int)} {ks : List Int} (hn : 40 ≤ n) (hd : ds.length ≤ 30) (x y u : Int) : ∃ b, spec_l2Open.F n N ds ks x y u = some b :=
  ⟨_, l2Open_eq (by omega) (by omega)⟩
theorem walk_l2 (hn : 40 ≤ n) {N : Int} {ds : List (Int × Int × Int)} {ks : List Int} (h : VM N ds ks) {K : List Int → Int → Int → Int → List (Int × Int × Int) → List Int → List Int → Int → Int → Int → Int → Option (List Int × Int × Int × List Int)} {w : List Int} {x6 x7 x8 : Int} :
    ∀ (j c : Nat) (x9 : Int), N.toNat - c < j → c ≤ N.toNat → 0 ≤ x9 ∧ x9 < N → ∃ y9, (0 ≤ y9 ∧ y9 < N) ∧ spec_l1Cur_keyWalk.l2 n K j cd a s N ds ks w x6 x7 x8 x9 c = K cd a s N ds ks w x6 x7 x8 y9
  | 0, c, x9, hj, _, _ => by omega
  | j + 1, c, x9, hj, hc, hx => by
    have h1 := h.n1
    have h2 := h.n2
    rw [spec_l1Cur_keyWalk.l2]
    by_cases cc : (c : Int) < N
    · obtain ⟨b, hb⟩ := open_some (n := n) (N := N) (ks := ks) hn h.dl x8 x9 x6
      rw [if_pos (by simpa using cc), hb, Option.bind_some]
      cases b with
      | true => exact ⟨x9, hx, rfl⟩
      | false =>
        simp only [Bool.not_false, if_true]
        rw [if_neg (by omega), w64s (x := x9 + 1) (by omega) (by omega), w64s (x := (c : Int) + 1) (by omega) (by omega), show ((c : Int) + 1) = ((c + 1 : Nat) : Int) by omega, Int.tmod_eq_emod_of_nonneg (by omega)]
        exact walk_l2 hn h j (c + 1) _ (by omega) (by omega) ⟨Int.emod_nonneg _ (by omega), Int.emod_lt_of_pos _ (by omega)⟩
    · rw [if_neg (by simpa using cc)]
      exact ⟨x9, hx, rfl⟩
theorem walk_l0 (hn : 1000 ≤ n) {N : Int} {ds : List (Int × Int × Int)} {ks : List Int} (h : VM N ds ks) (hb : Bytes cd) {K : List Int → Int → Int → Int → List (Int × Int × Int) → List Int → List Int → Option (List Int × Int × Int × List Int)} {C : Int} {P : List Int → Prop} (hC : 0 ≤ C)
    (hK : ∀ a s l, 0 ≤ a → a ≤ 1152921504604900000 → l.length ≤ 30 → 0 < l.length → Dr cd a C (K cd a s N ds ks l) P) : ∀ (j : Nat) (a s : Int) (w : List Int) (x6 t : Int), t.toNat < j → t ≤ 12 → 0 < w.length → w.length + t.toNat ≤ 20 → 0 ≤ a → a + 2 * t.toNat ≤ 1152921504604900000 → Dr cd a (C + 2 * t.toNat) (spec_l1Cur_keyWalk.l0 n K j cd a s N ds ks w x6 t) P
  | 0, a, s, w, x6, t, hj, _, _, _, _, _ => by omega
  | j + 1, a, s, w, x6, t, hj, ht, hw, hwl, h0, h1 => by
    have hN1 := h.n1
    have hN2 := h.n2
    have hkl := h.kl
    rw [spec_l1Cur_keyWalk.l0]
    by_cases c : t > 0
    · have wl : IntKind.wrap .i64 ((w.length : Int) - 1) = (w.length : Int) - 1 := w64s (by omega) (by omega)
      have k1 : 0 ≤ (w.length : Int) - 1 ∧ (w.length : Int) - 1 < (w.length : Int) := by omega
      rw [if_pos (by simpa using c), wl, if_pos k1]
      have e : C + 2 * (t.toNat : Int) = 2 + (C + 2 * ((t - 1).toNat : Int)) := by omega
      rw [e]
      refine Dr.bind (pick_ok hb h0 (by omega) N) fun a1 s1 v1 h2 h3 hv => ?_
      have hvN : v1 < N := by
        rcases Int.lt_or_le 1 N with g | g
        · exact hv.2.1 g
        · have := hv.2.2 g; omega
      simp only
      obtain ⟨y9, hy, e2⟩ := walk_l2 (n := n) (cd := cd) (a := a1) (s := s1) (by omega) h (K := fun y5 y6 y7 y8 y9 y10 y11 y12 y13 y14 y15 =>
        (spec_l2Open.F n y8 y9 y10 y14 y15 y12).bind fun r16 =>
        if (!r16) = true then
          K y5 y6 y7 y8 y9 y10 y11
        else
          if 0 ≤ y15 ∧ y15 < (y10.length : Int) then (if y11.length + ([y15] : List (Int)).length ≤ 4398046511104 then (spec_l1Cur_keyWalk.l0 n K j y5 y6 y7 y8 y9 y10 (y11 ++ ([y15] : List (Int))) (bitOr .i64 y12 (y10.getD y15.toNat (0 : Int))) (IntKind.wrap .i64 (y13 - (1 : Int)))) else none) else none) (w := w) (x6 := x6) (x7 := t) (x8 := w.getD ((w.length : Int) - 1).toNat 0) n 0 v1 (by omega) (by omega) ⟨hv.1, hvN⟩
      simp only [Int.natCast_zero] at e2
      rw [e2]
      obtain ⟨b, hb2⟩ := open_some (n := n) (N := N) (ks := ks) (by omega) h.dl (w.getD ((w.length : Int) - 1).toNat 0) y9 x6
      rw [hb2, Option.bind_some]
      cases b with
      | false =>
        simp only [Bool.not_false, if_true]
        exact (hK a1 s1 w (by omega) (by omega) (by omega) hw).mono (by omega) fun _ h => h
      | true =>
        simp only [Bool.not_true, Bool.false_eq_true, if_false]
        have k2 : 0 ≤ y9 ∧ y9 < (ks.length : Int) := by omega
        have k3 : w.length + ([y9] : List Int).length ≤ 4398046511104 := by simp; omega
        rw [if_pos k2, if_pos k3, w64 (x := t - 1) (by omega) (by omega)]
        exact walk_l0 hn h hb hC hK j a1 s1 _ _ (t - 1) (by omega) (by omega) (by simp) (by simp; omega) (by omega) (by omega)
    · rw [if_neg (by simpa using c)]
      exact (hK a s w h0 (by omega) (by omega) hw).mono (by omega) fun _ h => h
theorem walk_ok (hn : 1000 ≤ n) (hb : Bytes cd) (h0 : 0 ≤ a) (h1 : a ≤ 1152921504604000000) (N : Int) (ds : List (Int × Int × Int)) (ks : List Int) : Dr cd a 60 (spec_l1Cur_keyWalk.F n cd a s N ds ks) fun l => l.length ≤ 100 := by
  classical
  unfold spec_l1Cur_keyWalk.F
  rw [l2Maze_val (by omega), Option.bind_some]
  by_cases h : VM N ds ks
  · have hv : decide (VM N ds ks) = true := by simp [h]
    have hN1 := h.n1
    have hkl := h.kl
    rw [hv]
    simp only [Bool.not_true, Bool.false_eq_true, if_false]
    have k1 : (0 : Int) ≤ 0 ∧ (0 : Int) < (ks.length : Int) := by omega
    rw [if_pos k1]
    refine Dr.mono (C := 2 + 50) (Dr.bind (C := 2) (D := 50) (among_ok hb h0 (by omega) (by simp)) fun a1 s1 v1 h2 h3 hv1 => ?_) (by omega) fun _ h => h
    have hv2 : 0 ≤ v1 ∧ v1 ≤ 12 := by
      simp at hv1
      omega
    refine (walk_l0 (n := n) (C := 8) (P := fun l => l.length ≤ 100) hn h hb (by omega) (fun a s l g0 g1 g2 g3 => ?_) n a1 s1 [0] _ v1 (by omega) (by omega) (by simp) (by simp; omega) (by omega) (by omega)).mono (by omega) fun _ h => h
    unfold spec_l1Cur_keyWalk.c16
    refine Dr.bind (C := 2) (D := 6) (pick_ok hb g0 (by omega) 24) fun a2 s2 v2 h4 h5 _ => ?_
    simp only
    split
    · refine Dr.bind (C := 2) (D := 4) (pick_ok hb (by omega) (by omega) _) fun a3 s3 v3 h6 h7 hv3 => ?_
      refine Dr.bind (C := 4) (D := 0) (nodeOf_ok hb (by omega) (by omega) N ds ks) fun a4 s4 v4 h8 h9 _ => ?_
      have hlt : v3 < (l.length : Int) := by
        rcases Int.lt_or_le 1 (l.length : Int) with g | g
        · exact hv3.2.1 g
        · have := hv3.2.2 g; omega
      have k : 0 ≤ v3 ∧ v3 < (l.length : Int) := ⟨hv3.1, hlt⟩
      simp only [if_pos k]
      exact Dr.ret (Int.le_refl 0) (by simp; omega)
    · split
      · refine Dr.mono (C := 2 + 0) (Dr.bind (C := 2) (D := 0) (pick_ok hb (by omega) (by omega) N) fun a3 s3 v3 h6 h7 hv3 => ?_) (by omega) fun _ h => h
        have k : l.length + ([v3] : List Int).length ≤ 4398046511104 := by simp; omega
        simp only [if_pos k]
        exact Dr.ret (Int.le_refl 0) (by simp; omega)
      · split
        · exact Dr.ret (by omega) (by simp)
        · exact Dr.ret (by omega) (by omega)
  · have hv : decide (VM N ds ks) = false := by simp [h]
    rw [hv]
    simp only [Bool.not_false, if_true]
    exact Dr.ret (by omega) (by simp)
end
end Go.Pv
