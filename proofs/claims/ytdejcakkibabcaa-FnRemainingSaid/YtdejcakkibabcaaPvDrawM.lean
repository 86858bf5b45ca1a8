/- Plain laws: mazes, nodes and sets that are drawn. -/
import Derived.Test.YtdejcakkibabcaaPvDraw
set_option linter.unusedVariables false
set_option linter.unusedSimpArgs false
set_option autoImplicit false
namespace Go.Pv
open Go Go.Fx Go.Pf

section
variable {n : Nat} {cd : List Int} {a s : Int}
abbrev MzV := Int × List (Int × Int × Int) × List Int
/-- A drawn maze is small. -/
def Small (v : MzV) : Prop := v.2.1.length ≤ 40 ∧ v.2.2.length ≤ 40

theorem mz_door (hn : 100 ≤ n) (hb : Bytes cd) {β : Type} {R : List Int → Int → Int → List (Int × Int × Int) → Option (List Int × Int × Int × β)} {P : β → Prop} {C x m h : Int} {ds : List (Int × Int × Int)} (hd : ds.length ≤ 40) (h0 : 0 ≤ a) (h1 : a ≤ 1152921504606000000)
    (hR : ∀ a' s' ds', a ≤ a' → a' ≤ a + 10 → ds'.length ≤ ds.length + 1 → Dr cd a' C (R cd a' s' ds') P) (h00 : Dr cd a C (R cd a s ds) P) :
    Dr cd a (10 + C) (if (decide (x > 0)) = true then
          (spec_l1Cur_few.F n cd a s m).bind fun r4 =>
          (spec_l1Cur_one.F n r4.1 r4.2.1 r4.2.2.1 (3 : Int)).bind fun r5 =>
          if (!r5.2.2.2) = true then
            (spec_l1Cur_pick.F n r5.1 r5.2.1 r5.2.2.1 x).bind fun r6 =>
            (spec_l2Put.F n ds r6.2.2.2 x (bitAnd .i64 r4.2.2.2 h)).bind fun r7 =>
            R r6.1 r6.2.1 r6.2.2.1 r7
          else
            (spec_l1Cur_pick.F n r5.1 r5.2.1 r5.2.2.1 x).bind fun r8 =>
            (spec_l2Put.F n ds r8.2.2.2 x r4.2.2.2).bind fun r9 =>
            R r8.1 r8.2.1 r8.2.2.1 r9
        else R cd a s ds) P := by
  by_cases c : x > 0
  · rw [if_pos (by simpa using c)]
    have e : 10 + C = 6 + (2 + (2 + C)) := by omega
    rw [e]
    refine Dr.bind (few_ok (by omega) hb h0 (by omega) m) fun a1 s1 v1 h2 h3 _ => ?_
    refine Dr.bind (one_ok hb (by omega) (by omega) 3) fun a2 s2 v2 h4 h5 _ => ?_
    simp only
    split
    · refine Dr.bind (pick_ok hb (by omega) (by omega) x) fun a3 s3 v3 h6 h7 _ => ?_
      obtain ⟨r, hr, hl⟩ := putAny (n := n) (l := ds) (by omega) (by omega) v3 x (bitAnd .i64 v1 h)
      simp only [hr, Option.bind_some]
      exact hR a3 s3 r (by omega) (by omega) hl
    · refine Dr.bind (pick_ok hb (by omega) (by omega) x) fun a3 s3 v3 h6 h7 _ => ?_
      obtain ⟨r, hr, hl⟩ := putAny (n := n) (l := ds) (by omega) (by omega) v3 x v1
      simp only [hr, Option.bind_some]
      exact hR a3 s3 r (by omega) (by omega) hl
  · rw [if_neg (by simpa using c)]
    exact h00.mono (by omega) fun _ h => h

theorem mz_l0 (hn : 100 ≤ n) (hb : Bytes cd) {K : List Int → Int → Int → Int → Int → List (Int × Int × Int) → List Int → Int → List (Int × Int × Int) → List Int → Int → Option (List Int × Int × Int × MzV)} {P : MzV → Prop} {C N m : Int} {p0 : Int} {p1 : List (Int × Int × Int)} {p2 : List Int} {q : Int}
    (hK : ∀ a s ds ks, 0 ≤ a → a ≤ 1152921504605000000 → ds.length ≤ 13 → ks.length ≤ 13 → Dr cd a C (K cd a s N p0 p1 p2 q ds ks m) P) : ∀ (j : Nat) (a s : Int) (ds : List (Int × Int × Int)) (ks : List Int) (h : Int) (x : Nat),
    0 ≤ a → a + 20 * (13 - (x : Int)) ≤ 1152921504605000000 → 13 - x < j → x ≤ 13 → ds.length ≤ x → ks.length = x → Dr cd a (C + 20 * (13 - (x : Int))) (spec_l1Cur_someMaze.l0 n K j cd a s N p0 p1 p2 q ds ks m h (x : Int)) P
  | 0, a, s, ds, ks, h, x, _, _, hj, _, _, _ => by omega
  | j + 1, a, s, ds, ks, h, x, h0, h1, hj, hx, hd, hk => by
    rw [spec_l1Cur_someMaze.l0]
    have fin := (hK a s ds ks h0 (by omega) (by omega) (by omega)).mono (D := C + 20 * (13 - (x : Int))) (by omega) fun _ h => h
    by_cases c : (x : Int) < N
    · rw [if_pos (by simpa using c)]
      by_cases c2 : (x : Int) < 13
      · rw [if_pos (by simpa using c2)]
        have wi : IntKind.wrap .i64 ((x : Int) + 1) = ((x + 1 : Nat) : Int) := by rw [w64s (by omega) (by omega)]; omega
        have e : C + 20 * (13 - (x : Int)) = 2 + (8 + (10 + (C + 20 * (13 - ((x + 1 : Nat) : Int))))) := by omega
        rw [e]
        refine Dr.bind (one_ok hb h0 (by omega) 2) fun a1 s1 v1 h2 h3 _ => ?_
        simp only [wi]
        have ih : ∀ (a' s' : Int) (ds' : List (Int × Int × Int)) (kk h' : Int), a1 ≤ a' → a' ≤ a1 + 12 → ds'.length ≤ ds.length + 1 → Dr cd a' (C + 20 * (13 - ((x + 1 : Nat) : Int))) (spec_l1Cur_someMaze.l0 n K j cd a' s' N p0 p1 p2 q ds' (ks ++ [kk]) m h' ((x + 1 : Nat) : Int)) P := fun a' s' ds' kk h' g1 g2 g3 =>
          mz_l0 hn hb hK j a' s' ds' (ks ++ [kk]) h' (x + 1) (by omega) (by omega) (by omega) (by omega) (by omega) (by simp; omega)
        have gk : ∀ kk : Int, ks.length + ([kk] : List Int).length ≤ 4398046511104 := fun kk => by simp; omega
        by_cases c3 : v1 = true
        · rw [if_pos c3]
          have e2 : 8 + (10 + (C + 20 * (13 - ((x + 1 : Nat) : Int)))) = 2 + (6 + (10 + (C + 20 * (13 - ((x + 1 : Nat) : Int))))) := by omega
          rw [e2]
          refine Dr.bind (pick_ok hb (by omega) (by omega) m) fun a2 s2 v2 h4 h5 hv2 => ?_
          simp only [if_neg (show ¬ v2 < 0 by omega), if_pos (gk _)]
          exact (mz_door (R := fun c a s d => spec_l1Cur_someMaze.l0 n K j c a s N p0 p1 p2 q d (ks ++ [shL .i64 1 v2]) m (bitOr .i64 h (shL .i64 1 v2)) ((x + 1 : Nat) : Int)) hn hb (by omega) (by omega) (by omega)
            (fun a' s' ds' g1 g2 g3 => ih a' s' ds' _ _ (by omega) (by omega) g3) (ih a2 s2 ds _ _ (by omega) (by omega) (by omega))).mono (by omega) fun _ h => h
        · rw [if_neg c3]
          simp only [if_pos (gk _)]
          exact (mz_door (R := fun c a s d => spec_l1Cur_someMaze.l0 n K j c a s N p0 p1 p2 q d (ks ++ [(0 : Int)]) m (bitOr .i64 h 0) ((x + 1 : Nat) : Int)) hn hb (by omega) (by omega) (by omega)
            (fun a' s' ds' g1 g2 g3 => ih a' s' ds' _ _ (by omega) (by omega) g3) (ih a1 s1 ds _ _ (by omega) (by omega) (by omega))).mono (by omega) fun _ h => h
      · rw [if_neg (by simpa using c2)]
        exact fin
    · rw [if_neg (by simpa using c)]
      exact fin

theorem mz_l2 (hn : 100 ≤ n) (hb : Bytes cd) {K : List Int → Int → Int → Int → List (Int × Int × Int) → List Int → Int → List (Int × Int × Int) → List Int → Option (List Int × Int × Int × MzV)} {P : MzV → Prop} {C N m : Int} {p0 : Int} {p1 : List (Int × Int × Int)} {p2 : List Int} {q : Int} {ks : List Int}
    (hK : ∀ a s ds, 0 ≤ a → a ≤ 1152921504605800000 → ds.length ≤ 30 → Dr cd a C (K cd a s p0 p1 p2 q ds ks) P) : ∀ (j : Nat) (a s : Int) (ds : List (Int × Int × Int)) (k : Int),
    0 ≤ a → a + 10 * k.toNat ≤ 1152921504605800000 → k.toNat < j → k ≤ 10 → ds.length + k.toNat ≤ 30 → Dr cd a (C + 10 * k.toNat) (spec_l1Cur_someMaze.l2 n K j cd a s N p0 p1 p2 q ds ks m k) P
  | 0, a, s, ds, k, _, _, hj, _, _ => by omega
  | j + 1, a, s, ds, k, h0, h1, hj, hk, hd => by
    rw [spec_l1Cur_someMaze.l2]
    have fin := (hK a s ds h0 (by omega) (by omega)).mono (D := C + 10 * (k.toNat : Int)) (by omega) fun _ h => h
    by_cases c : k > 0
    · rw [if_pos (by simpa using c)]
      by_cases c2 : N > 1
      · rw [if_pos (by simpa using c2)]
        by_cases c3 : N < 13
        · rw [if_pos (by simpa using c3)]
          have e : C + 10 * (k.toNat : Int) = 2 + (2 + (6 + (C + 10 * ((k - 1).toNat : Int)))) := by omega
          rw [e]
          refine Dr.bind (pick_ok hb h0 (by omega) N) fun a1 s1 v1 h2 h3 _ => ?_
          refine Dr.bind (pick_ok hb (by omega) (by omega) N) fun a2 s2 v2 h4 h5 _ => ?_
          simp only [w64 (x := k - 1) (by omega) (by omega)]
          by_cases c4 : (!decide (v1 = v2)) = true
          · rw [if_pos c4]
            refine Dr.bind (few_ok (by omega) hb (by omega) (by omega) m) fun a3 s3 v3 h6 h7 _ => ?_
            obtain ⟨r, hr, hl⟩ := putAny (n := n) (l := ds) (by omega) (by omega) v1 v2 v3
            simp only [hr, Option.bind_some]
            exact mz_l2 hn hb hK j a3 s3 r (k - 1) (by omega) (by omega) (by omega) (by omega) (by omega)
          · rw [if_neg c4]
            exact (mz_l2 hn hb hK j a2 s2 ds (k - 1) (by omega) (by omega) (by omega) (by omega) (by omega)).mono (by omega) fun _ h => h
        · rw [if_neg (by simpa using c3)]
          exact fin
      · rw [if_neg (by simpa using c2)]
        exact fin
    · rw [if_neg (by simpa using c)]
      exact fin

theorem mz_c22 (hb : Bytes cd) (h0 : 0 ≤ a) (h1 : a ≤ 1152921504605900000) {p0 : Int} {p1 : List (Int × Int × Int)} {p2 : List Int} {q : Int} {ds : List (Int × Int × Int)} {ks : List Int} (hd : ds.length ≤ 30) (hk : ks.length ≤ 13) :
    Dr cd a 6 (spec_l1Cur_someMaze.c22 n cd a s p0 p1 p2 q ds ks) Small := by
  unfold spec_l1Cur_someMaze.c22
  refine Dr.bind (C := 2) (D := 4) (pick_ok hb h0 (by omega) 60) fun a1 s1 v1 h2 h3 hv => ?_
  simp only
  have base : Small (q, ds, ks) := ⟨by show ds.length ≤ 40; omega, by show ks.length ≤ 40; omega⟩
  split
  · refine Dr.bind (C := 2) (D := 2) (among_ok hb (by omega) (by omega) (by simp)) fun a2 s2 v2 h4 h5 _ => ?_
    exact .ret (by omega) ⟨by show ds.length ≤ 40; omega, by show ks.length ≤ 40; omega⟩
  · split
    · split
      · rename_i c
        have hpos : 0 < ds.length := by simpa using c
        refine Dr.bind (C := 2) (D := 2) (pick_ok hb (by omega) (by omega) _) fun a2 s2 v2 h4 h5 hv2 => ?_
        have k : 0 ≤ v2 ∧ v2 < (ds.length : Int) := by
          obtain ⟨p1, p2, p3⟩ := hv2
          refine ⟨p1, ?_⟩
          by_cases c : (ds.length : Int) ≤ 1
          · rw [p3 c]; omega
          · exact p2 (by omega)
        simp only [if_pos k]
        exact .ret (by omega) ⟨by show (ds.set _ _).length ≤ 40; simp; omega, by show ks.length ≤ 40; omega⟩
      · exact .ret (by omega) base
    · split
      · split
        · rename_i c
          have hpos : 0 < ks.length := by simpa using c
          refine Dr.bind (C := 2) (D := 2) (pick_ok hb (by omega) (by omega) _) fun a2 s2 v2 h4 h5 hv2 => ?_
          have k : 0 ≤ v2 ∧ v2 < (ks.length : Int) := by
            obtain ⟨p1, p2, p3⟩ := hv2
            refine ⟨p1, ?_⟩
            by_cases c : (ks.length : Int) ≤ 1
            · rw [p3 c]; omega
            · exact p2 (by omega)
          refine Dr.bind (C := 2) (D := 0) (among_ok hb (by omega) (by omega) (by simp)) fun a3 s3 v3 h6 h7 _ => ?_
          simp only [if_pos k]
          exact .ret (by omega) ⟨by show ds.length ≤ 40; omega, by show (ks.set _ _).length ≤ 40; simp; omega⟩
        · exact .ret (by omega) base
      · split
        · split
          · rename_i c
            have hpos : 0 < ds.length := by simpa using c
            have k1 : 0 ≤ (0 : Int) ∧ (0 : Int) < (ds.length : Int) := by omega
            have k2 : ds.length + ([(ds.getD 0 ((0 : Int), (0 : Int), (0 : Int)))] : List (Int × Int × Int)).length ≤ 4398046511104 := by simp; omega
            rw [if_pos k1, if_pos k2]
            exact .ret (by omega) ⟨by show (ds ++ _).length ≤ 40; simp; omega, by show ks.length ≤ 40; omega⟩
          · exact .ret (by omega) base
        · split
          · exact .ret (by omega) ⟨by simp, by simp⟩
          · exact .ret (by omega) base
theorem someMaze_ok (hn : 100 ≤ n) (hb : Bytes cd) (h0 : 0 ≤ a) (h1 : a ≤ 1152921504604000000) (m : Int) : Dr cd a 400 (spec_l1Cur_someMaze.F n cd a s m) Small := by
  unfold spec_l1Cur_someMaze.F
  refine Dr.bind (C := 2) (D := 398) (pick_ok hb h0 (by omega) 6) fun a1 s1 v1 h2 h3 hv1 => ?_
  have := mz_l0 (n := n) (C := 2 + (6 + 60)) (N := m) (m := IntKind.wrap .i64 (1 + v1)) (p0 := 0) (p1 := []) (p2 := []) (q := m) (P := Small) (K := fun y16 y17 y18 y19 y20 y21 y22 y23 y24 y25 y26 =>
    spec_l1Cur_someMaze.c16 n y16 y17 y18 y19 y20 y21 y22 y23 y24 y25 y26) hn hb (fun a s ds ks g0 g1 g2 g3 => by
      unfold spec_l1Cur_someMaze.c16
      refine Dr.bind (pick_ok hb g0 (by omega) 6) fun a2 s2 v2 h4 h5 hv2 => ?_
      have hk6 : v2.toNat ≤ 6 := by have := hv2.2.1 (by omega); omega
      exact (mz_l2 (n := n) (C := 6) (P := Small) (K := fun y32 y33 y34 y35 y36 y37 y38 y39 y40 => spec_l1Cur_someMaze.c22 n y32 y33 y34 y35 y36 y37 y38 y39 y40) hn hb
        (fun a s ds p0 p1 p2 => mz_c22 hb p0 (by omega) p2 g3) n a2 s2 ds v2 (by omega) (by omega) (by omega) (by omega) (by omega)).mono (by omega) fun _ h => h)
    n a1 s1 [] [] 0 0 (by omega) (by omega) (by omega) (by omega) (by simp) (by simp)
  exact this.mono (by omega) fun _ h => h
theorem maze_ok (hn : 100 ≤ n) (hb : Bytes cd) (h0 : 0 ≤ a) (h1 : a ≤ 1152921504603000000) : Dr cd a 402 (spec_l1Cur_maze.F n cd a s) Small := by
  unfold spec_l1Cur_maze.F
  refine Dr.bind (C := 2) (D := 400) (among_ok hb h0 (by omega) (by simp)) fun a1 s1 v1 h2 h3 _ => ?_
  refine Dr.bind (C := 400) (D := 0) (someMaze_ok hn hb (by omega) (by omega) v1) fun a2 s2 v2 h4 h5 hv => ?_
  exact .ret (by omega) hv
theorem nodeOf_ok (hb : Bytes cd) (h0 : 0 ≤ a) (h1 : a ≤ 1152921504605000000) (N : Int) (ds : List (Int × Int × Int)) (ks : List Int) : Dr cd a 4 (spec_l1Cur_nodeOf.F n cd a s N ds ks) fun _ => True := by
  unfold spec_l1Cur_nodeOf.F
  refine Dr.bind (C := 2) (D := 2) (one_ok hb h0 (by omega) 30) fun a1 s1 v1 h2 h3 _ => ?_
  simp only
  split
  · refine Dr.bind (C := 2) (D := 0) (among_ok hb (by omega) (by omega) (by simp)) fun a2 s2 v2 h4 h5 _ => ?_
    exact Dr.ret (Int.le_refl 0) trivial
  · obtain ⟨p, hp⟩ : ∃ p, spec_l1Least.F n N 12 = some p := by unfold spec_l1Least.F; split <;> exact ⟨_, rfl⟩
    obtain ⟨q, hq⟩ : ∃ q, spec_l1Most.F n p 1 = some q := by unfold spec_l1Most.F; split <;> exact ⟨_, rfl⟩
    rw [hp, Option.bind_some, hq, Option.bind_some]
    refine Dr.bind (C := 2) (D := 0) (pick_ok hb (by omega) (by omega) q) fun a2 s2 v2 h4 h5 _ => ?_
    exact Dr.ret (Int.le_refl 0) trivial
end
end Go.Pv
