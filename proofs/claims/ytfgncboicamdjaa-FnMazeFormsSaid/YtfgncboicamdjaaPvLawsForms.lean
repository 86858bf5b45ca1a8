/- The plain law of forms of mazes: doors and keys put and taken away, mazes joined. -/
import Derived.Test.YtfgncboicamdjaaPvForms
import Derived.Test.YtfgncboicamdjaaPvDrawM
import Derived.Test.YtfgncboicamdjaaPvDrawW
set_option linter.unusedVariables false
set_option linter.unusedSimpArgs false
set_option autoImplicit false
namespace Go.Pv
open Go Go.Fx Go.Pf
section
variable {n : Nat} {cd : List Int}
theorem drawAdd_ok (hn : 1000 ≤ n) (hb : Bytes cd) : ∃ N ds ks x y s, spec_DrawAddDoor.F n cd = some (N, ds, ks, x, y, s) ∧ ds.length ≤ 40 ∧ ks.length ≤ 40 := by
  unfold spec_DrawAddDoor.F
  obtain ⟨a1, s1, ⟨N, ds, ks⟩, e1, h1, h2, hd, hk⟩ := maze_ok (n := n) (s := 0) (by omega) hb (Int.le_refl 0) (by omega)
  rw [e1, Option.bind_some]
  obtain ⟨a2, s2, x, e2, h3, h4, _⟩ := nodeOf_ok (n := n) (s := s1) (a := a1) hb (by omega) (by omega) N ds ks
  simp only [e2, Option.bind_some]
  obtain ⟨a3, s3, y, e3, h5, h6, _⟩ := nodeOf_ok (n := n) (s := s2) (a := a2) hb (by omega) (by omega) N ds ks
  simp only [e3, Option.bind_some]
  obtain ⟨a4, s4, z, e4, _⟩ := colours_ok (n := n) (s := s3) (a := a3) (by omega) hb (by omega) (by omega)
  simp only [e4, Option.bind_some]
  exact ⟨_, _, _, _, _, _, rfl, hd, hk⟩
theorem drawPut_ok (hn : 1000 ≤ n) (hb : Bytes cd) : ∃ N ds ks x s, spec_DrawPutKeys.F n cd = some (N, ds, ks, x, s) ∧ ds.length ≤ 40 ∧ ks.length ≤ 40 := by
  unfold spec_DrawPutKeys.F spec_DrawReachWith.F
  obtain ⟨a1, s1, ⟨N, ds, ks⟩, e1, h1, h2, hd, hk⟩ := maze_ok (n := n) (s := 0) (by omega) hb (Int.le_refl 0) (by omega)
  rw [e1, Option.bind_some]
  obtain ⟨a2, s2, x, e2, h3, h4, _⟩ := nodeOf_ok (n := n) (s := s1) (a := a1) hb (by omega) (by omega) N ds ks
  simp only [e2, Option.bind_some]
  obtain ⟨a4, s4, z, e4, _⟩ := colours_ok (n := n) (s := s2) (a := a2) (by omega) hb (by omega) (by omega)
  simp only [e4, Option.bind_some]
  exact ⟨_, _, _, _, _, rfl, hd, hk⟩
theorem drawDrop_ok (hn : 1000 ≤ n) (hb : Bytes cd) : ∃ N ds ks x, spec_DrawDropDoor.F n cd = some (N, ds, ks, x) ∧ ds.length ≤ 40 ∧ ks.length ≤ 40 := by
  unfold spec_DrawDropDoor.F
  obtain ⟨a1, s1, ⟨N, ds, ks⟩, e1, h1, h2, hd, hk⟩ := maze_ok (n := n) (s := 0) (by omega) hb (Int.le_refl 0) (by omega)
  rw [e1, Option.bind_some]
  obtain ⟨a2, s2, x, e2, h3, h4, _⟩ := pick_ok (n := n) (s := s1) (a := a1) hb (by omega) (by omega) (IntKind.wrap .i64 ((ds.length : Int) + (1 : Int)))
  simp only [e2, Option.bind_some]
  obtain ⟨a3, s3, y, e3, h5, h6, _⟩ := pick_ok (n := n) (s := s2) (a := a2) hb (by omega) (by omega) 24
  simp only [e3, Option.bind_some]
  exact ⟨_, _, _, _, rfl, hd, hk⟩
theorem drawJoin_ok (hn : 1000 ≤ n) (hb : Bytes cd) : ∃ N ds ks M es js, spec_DrawJoinMazes.F n cd = some (N, ds, ks, M, es, js) := by
  unfold spec_DrawJoinMazes.F
  obtain ⟨a1, s1, v1, e1, h1, h2, _⟩ := among_ok (n := n) (s := 0) (a := 0) hb (Int.le_refl 0) (by omega) (l := [(3 : Int), (4 : Int), (5 : Int), (2 : Int), (1 : Int), (8 : Int)]) (by simp)
  rw [e1, Option.bind_some]
  obtain ⟨a2, s2, ⟨N, ds, ks⟩, e2, h3, h4, _⟩ := someMaze_ok (n := n) (s := s1) (a := a1) (by omega) hb (by omega) (by omega) v1
  simp only [e2, Option.bind_some]
  obtain ⟨a3, s3, v3, e3, h5, h6, _⟩ := among_ok (n := n) (s := s2) (a := a2) hb (by omega) (by omega) (l := [(3 : Int), (4 : Int), (5 : Int), (2 : Int), (1 : Int), (6 : Int)]) (by simp)
  simp only [e3, Option.bind_some]
  obtain ⟨a4, s4, ⟨M, es, js⟩, e4, h7, h8, _⟩ := someMaze_ok (n := n) (s := s3) (a := a3) (by omega) hb (by omega) (by omega) v3
  simp only [e4, Option.bind_some]
  exact ⟨_, _, _, _, _, _, rfl⟩
theorem rInts_l0_some {K : Unit → Option Bool} (hK : ∃ b, K () = some b) {xs ys : List Int} (hx : xs.length ≤ 1048576) (he : xs.length = ys.length) : ∀ (j i : Nat), xs.length - i < j → ∃ b, laws_rInts.l0 n K j xs ys (i : Int) = some b
  | 0, i, h => by omega
  | j + 1, i, h => by
    rw [laws_rInts.l0]
    by_cases c : i < xs.length
    · have wi : IntKind.wrap .i64 ((i : Int) + 1) = ((i + 1 : Nat) : Int) := by rw [w64s (by omega) (by omega)]; omega
      rw [if_pos (by simpa using c), if_pos ⟨by omega, by omega⟩, if_pos ⟨by omega, by omega⟩, wi]
      split
      · exact ⟨_, rfl⟩
      · exact rInts_l0_some hK hx he j (i + 1) (by omega)
    · rw [if_neg (by simpa using c)]
      exact hK
theorem rInts_some (hn : 1048578 ≤ n) {xs ys : List Int} (hx : xs.length ≤ 1048576) : ∃ b, laws_rInts.F n xs ys = some b := by
  unfold laws_rInts.F
  by_cases c : xs.length = ys.length
  · rw [if_neg (by rw [c]; simp)]
    exact rInts_l0_some ⟨_, rfl⟩ hx c n 0 (by omega)
  · rw [if_pos (by rw [decide_eq_false (by omega)]; rfl)]
    exact ⟨_, rfl⟩
theorem rMaze_l0_some {K : Unit → Option Bool} (hK : ∃ b, K () = some b) {N M : Int} {ds es : List (Int × Int × Int)} {ks js : List Int} (hx : ds.length ≤ 1048576) (he : ds.length = es.length) : ∀ (j i : Nat), ds.length - i < j → ∃ b, laws_rMaze.l0 n K j N ds ks M es js (i : Int) = some b
  | 0, i, h => by omega
  | j + 1, i, h => by
    rw [laws_rMaze.l0]
    by_cases c : i < ds.length
    · have wi : IntKind.wrap .i64 ((i : Int) + 1) = ((i + 1 : Nat) : Int) := by rw [w64s (by omega) (by omega)]; omega
      rw [if_pos (by simpa using c), if_pos ⟨by omega, by omega⟩, if_pos ⟨by omega, by omega⟩, wi]
      split
      · exact ⟨_, rfl⟩
      · exact rMaze_l0_some hK hx he j (i + 1) (by omega)
    · rw [if_neg (by simpa using c)]
      exact hK
theorem rMaze_some (hn : 1048578 ≤ n) {N M : Int} {ds es : List (Int × Int × Int)} {ks js : List Int} (hx : ds.length ≤ 1048576) (hk : ks.length ≤ 1048576) : ∃ b, laws_rMaze.F n N ds ks M es js = some b := by
  unfold laws_rMaze.F
  split
  · exact ⟨_, rfl⟩
  · by_cases c : ds.length = es.length
    · rw [if_neg (by rw [c]; simp)]
      obtain ⟨b, hb⟩ := rInts_some (n := n) hn (xs := ks) (ys := js) hk
      rw [hb, Option.bind_some]
      split
      · exact ⟨_, rfl⟩
      · exact rMaze_l0_some ⟨_, rfl⟩ hx c n 0 (by omega)
    · rw [if_pos (by rw [decide_eq_false (by omega)]; rfl)]
      exact ⟨_, rfl⟩
theorem dropR_len {N : Int} {ds : List Door} {ks : List Int} {x : Int} : (dropR N ds ks x).2.1.length ≤ ds.length ∧ (dropR N ds ks x).2.2.1.length ≤ ks.length := by
  unfold dropR
  split
  · refine ⟨?_, Nat.le_refl _⟩
    simp only [List.length_append, List.length_take, List.length_drop]
    rename_i h
    omega
  · exact ⟨by simp, by simp⟩
theorem forms_l0 (hn : 1048578 ≤ n) {K : Int → (List (Int × Int × Int)) → (List (Int)) → Int → (List (Int × Int × Int)) → (List (Int)) → Int → (List (Int × Int × Int)) → (List (Int)) → Int → Int → (List (Int × Int × Int)) → (List (Int)) → Bool → Int → (List (Int × Int × Int)) → (List (Int)) → Int → Int → Int → (List (Int × Int × Int)) → (List (Int)) → Bool → Int → (List (Int × Int × Int)) → (List (Int)) → Int → (List (Int × Int × Int)) → (List (Int)) → Int → (List (Int × Int × Int)) → (List (Int)) → Bool → Bool → Option (Bool)}
    {N M : Int} {ds es : List (Int × Int × Int)} {ks us : List Int} {a0 : Int} {a1 : List (Int × Int × Int)} {a2 : List Int} {a3 b0 : Int} {b1 : List (Int × Int × Int)} {b2 : List Int} {b3 : Bool} {c0 : Int} {c1 : List (Int × Int × Int)} {c2 : List Int} {c3 c4 d0 : Int} {d1 : List (Int × Int × Int)} {d2 : List Int} {d3 : Bool} {e0 : Int} {e1 : List (Int × Int × Int)} {e2 : List Int} {f0 : Int} {f1 : List (Int × Int × Int)} {f2 : List Int} {g0 : Int} {g1 : List (Int × Int × Int)} {g2 : List Int} {g3 : Bool}
    (h1 : ds.length ≤ 1048576) (h2 : ks.length ≤ 1048576) (h3 : es.length ≤ 1048576) (h4 : us.length ≤ 1048576) : ∀ (j i : Nat) (b : Bool), es.length - i < j → (b = true ∨ ∃ k : Nat, i ≤ k ∧ k < es.length ∧ dropR M es us (k : Int) = (N, ds, ks, true)) →
      laws_FnMazeForms.l0 n K j N ds ks M es us a0 a1 a2 a3 b0 b1 b2 b3 c0 c1 c2 c3 c4 d0 d1 d2 d3 e0 e1 e2 f0 f1 f2 g0 g1 g2 g3 b (i : Int) = K N ds ks M es us a0 a1 a2 a3 b0 b1 b2 b3 c0 c1 c2 c3 c4 d0 d1 d2 d3 e0 e1 e2 f0 f1 f2 g0 g1 g2 g3 true
  | 0, i, b, hj, _ => by omega
  | j + 1, i, b, hj, hb => by
    rw [laws_FnMazeForms.l0]
    by_cases c : i < es.length
    · have wi : IntKind.wrap .i64 ((i : Int) + 1) = ((i + 1 : Nat) : Int) := by rw [w64s (by omega) (by omega)]; omega
      rw [if_pos (by simpa using c), DropDoor_val (by omega), Option.bind_some, wi]
      obtain ⟨l1, l2⟩ := dropR_len (N := M) (ds := es) (ks := us) (x := (i : Int))
      obtain ⟨v, hv⟩ := rMaze_some (n := n) hn (N := (dropR M es us (i : Int)).1) (M := N) (ds := (dropR M es us (i : Int)).2.1) (es := ds) (ks := (dropR M es us (i : Int)).2.2.1) (js := ks) (by omega) (by omega)
      rw [hv, Option.bind_some]
      by_cases hq : dropR M es us (i : Int) = (N, ds, ks, true)
      · rw [hq] at hv ⊢
        rw [rMaze_self hn h1 h2] at hv
        cases hv
        rw [if_pos rfl, if_pos rfl]
        exact forms_l0 hn h1 h2 h3 h4 j (i + 1) true (by omega) (.inl rfl)
      · have next : b = true ∨ ∃ k : Nat, i + 1 ≤ k ∧ k < es.length ∧ dropR M es us (k : Int) = (N, ds, ks, true) := by
          rcases hb with hb | ⟨k, k1, k2, k3⟩
          · exact .inl hb
          · by_cases e : k = i
            · subst e; exact absurd k3 hq
            · exact .inr ⟨k, by omega, k2, k3⟩
        split
        · split
          · exact forms_l0 hn h1 h2 h3 h4 j (i + 1) true (by omega) (.inl rfl)
          · exact forms_l0 hn h1 h2 h3 h4 j (i + 1) b (by omega) next
        · exact forms_l0 hn h1 h2 h3 h4 j (i + 1) b (by omega) next
    · rw [if_neg (by simpa using c)]
      rcases hb with rfl | ⟨k, k1, k2, _⟩
      · rfl
      · omega
theorem addR_len {N : Int} {ds : List Door} {ks : List Int} {a b c : Int} : (addR N ds ks a b c).2.1.length ≤ ds.length + 1 ∧ (addR N ds ks a b c).2.2.1.length ≤ ks.length := by
  unfold addR
  split
  · refine ⟨?_, Nat.le_refl _⟩
    have := tidyL_len (ds ++ [nrm (a, b, c)])
    simpa using this
  · exact ⟨by simp, by simp⟩
theorem putR_len {N : Int} {ds : List Door} {ks : List Int} {x s : Int} : (putR N ds ks x s).2.1.length ≤ ds.length ∧ (putR N ds ks x s).2.2.1.length ≤ ks.length := by
  unfold putR
  split
  · exact ⟨Nat.le_refl _, by simp⟩
  · exact ⟨by simp, by simp⟩
end
theorem lawMazeForms (cd : List Int) (hw : ∀ x ∈ cd, (Lit.int .u8 x).wf = true) : ∃ n, laws_FnMazeForms.F n cd = some true := by
  classical
  refine ⟨2000000, ?_⟩
  have hb : Bytes cd := fun x hx => by
    have := hw x hx
    simp [Lit.wf, IntKind.min, IntKind.max, IntKind.signed, IntKind.bits] at this
    omega
  unfold laws_FnMazeForms.F
  obtain ⟨g, hg⟩ : ∃ g, laws_rBig.F 2000000 cd = some g := ⟨_, rfl⟩
  rw [hg, Option.bind_some]
  cases g with
  | true => rfl
  | false =>
  rw [if_neg (by simp)]
  obtain ⟨N, ds, ks, a, b, c, e1, hd1, hk1⟩ := drawAdd_ok (n := 2000000) (by omega) hb
  obtain ⟨N2, ds2, ks2, k, e2, hd2, hk2⟩ := drawDrop_ok (n := 2000000) (by omega) hb
  obtain ⟨N3, ds3, ks3, x, s, e3, hd3, hk3⟩ := drawPut_ok (n := 2000000) (by omega) hb
  obtain ⟨E, es, eks, F, fs, fks, e4⟩ := drawJoin_ok (n := 2000000) (by omega) hb
  -- joined
  obtain ⟨q, ⟨q1, q2⟩, q3, q4⟩ := JoinMazes_same (n := 2000000) (N := E) (ds := es) (ks := eks) (M := F) (es := fs) (js := fks) (by omega)
  have h42 : laws_FnMazeForms.c42 2000000 E es eks F fs fks q.1 q.2.1 q.2.2.1 q.2.2.2 = some true := by
    unfold laws_FnMazeForms.c42
    cases hq : q.2.2.2 with
    | false => rfl
    | true =>
      obtain ⟨j1, j2, j3⟩ := join_more (n := 2000000) (by omega) q4 q3 hq
      obtain ⟨r, r1, r2, r3, _, r5⟩ := FirstWay_q (n := 2000000) (N := E) (ds := es) (ks := eks) (by omega)
      rw [if_neg (by simp), r3, Option.bind_some, r2, Option.bind_some, beqB_self, if_neg (by simp), rInts_self (by omega) (by omega), Option.bind_some, if_neg (by simp)]
      have m1 := j3.le.n1
      have m2 := j3.le.n2
      have m3 := j1.n1
      have m4 := j1.n2
      have hsz : decide (q.1 = IntKind.wrap .i64 (IntKind.wrap .i64 (E + F) - 1)) = true := by
        rw [w64s (x := E + F) (by omega) (by omega), w64s (by omega) (by omega), j2]
        simp
      unfold laws_FnMazeForms.c48
      obtain ⟨S, s1, s2, v, s3, s4⟩ := r5 j3.le
      rcases s4 with ⟨_, rfl⟩ | ⟨v1, v2, v3, w, v4, v5, v6⟩
      · rw [if_neg (by simp), hsz]
      · rw [v3, if_pos rfl, v4, keyWalk_more (by omega) j3 s1 s2 (by omega) v6, Option.bind_some, if_pos rfl, if_pos rfl, hsz]
  -- keys that are put
  have h38 : laws_FnMazeForms.c38 2000000 N3 ds3 ks3 x s (putR N3 ds3 ks3 x s).1 (putR N3 ds3 ks3 x s).2.1 (putR N3 ds3 ks3 x s).2.2.1 (putR N3 ds3 ks3 x s).2.2.2 E es eks F fs fks q.1 q.2.1 q.2.2.1 q.2.2.2 = some true := by
    unfold laws_FnMazeForms.c38
    by_cases hp : VM N3 ds3 ks3 ∧ inB x 0 (N3 - 1) = true ∧ setB s = true
    · have e : putR N3 ds3 ks3 x s = (N3, ds3, ks3.set x.toNat s, true) := by unfold putR; rw [if_pos hp]
      rw [e]
      obtain ⟨p1, p2, p3⟩ := hp
      have hkl := p1.kl
      have hx := p2
      simp only [inB, Bool.and_eq_true, decide_eq_true_eq] at hx
      have hlt : x.toNat < ks3.length := by omega
      rw [if_pos rfl, if_pos ⟨hx.1, by omega⟩]
      simp only
      rw [PutKeys_val (by omega) (by omega) (by rw [List.length_set]; omega), Option.bind_some, put_back p1 p2 p3, if_neg (by simp), if_pos ⟨hx.1, by rw [List.length_set]; omega⟩, set_getD' hlt, if_neg (by simp), rMaze_self (by omega) (by simp only; omega) (by simp only; omega), Option.bind_some, if_neg (by simp)]
      exact h42
    · have e : putR N3 ds3 ks3 x s = (0, [], [], false) := by unfold putR; rw [if_neg hp]
      rw [e, if_neg (by simp)]
      exact h42
  -- doors that are dropped
  have h33 : laws_FnMazeForms.c33 2000000 N2 ds2 ks2 k (dropR N2 ds2 ks2 k).1 (dropR N2 ds2 ks2 k).2.1 (dropR N2 ds2 ks2 k).2.2.1 (dropR N2 ds2 ks2 k).2.2.2 N3 ds3 ks3 x s (putR N3 ds3 ks3 x s).1 (putR N3 ds3 ks3 x s).2.1 (putR N3 ds3 ks3 x s).2.2.1 (putR N3 ds3 ks3 x s).2.2.2 E es eks F fs fks q.1 q.2.1 q.2.2.1 q.2.2.2 = some true := by
    unfold laws_FnMazeForms.c33
    by_cases hp : VM N2 ds2 ks2 ∧ 0 ≤ k ∧ k < (ds2.length : Int)
    · have e : dropR N2 ds2 ks2 k = (N2, ds2.take k.toNat ++ ds2.drop (k.toNat + 1), ks2, true) := by unfold dropR; rw [if_pos hp]
      rw [e]
      obtain ⟨p1, p2, p3⟩ := hp
      have hlt : k.toNat < ds2.length := by omega
      rw [if_pos rfl, if_pos ⟨p2, p3⟩]
      have := drop_add p1 hlt
      simp only
      rw [AddDoor_val (by omega), Option.bind_some]
      have this' : addR N2 (ds2.take k.toNat ++ ds2.drop (k.toNat + 1)) ks2 (ds2.getD k.toNat ((0 : Int), (0 : Int), (0 : Int))).2.1 (ds2.getD k.toNat ((0 : Int), (0 : Int), (0 : Int))).1 (ds2.getD k.toNat ((0 : Int), (0 : Int), (0 : Int))).2.2 = (N2, ds2, ks2, true) := this
      rw [this', if_neg (by simp), rMaze_self (by omega) (by simp only; omega) (by simp only; omega), Option.bind_some, if_neg (by simp)]
      exact h38
    · have e : dropR N2 ds2 ks2 k = (0, [], [], false) := by unfold dropR; rw [if_neg hp]
      rw [e, if_neg (by simp)]
      exact h38
  -- doors that are added
  have h23 : laws_FnMazeForms.c23 2000000 N ds ks (addR N ds ks a b c).1 (addR N ds ks a b c).2.1 (addR N ds ks a b c).2.2.1 (addR N ds ks a b c).2.2.2 N2 ds2 ks2 k (dropR N2 ds2 ks2 k).1 (dropR N2 ds2 ks2 k).2.1 (dropR N2 ds2 ks2 k).2.2.1 (dropR N2 ds2 ks2 k).2.2.2 N3 ds3 ks3 x s (putR N3 ds3 ks3 x s).1 (putR N3 ds3 ks3 x s).2.1 (putR N3 ds3 ks3 x s).2.2.1 (putR N3 ds3 ks3 x s).2.2.2 E es eks F fs fks q.1 q.2.1 q.2.2.1 q.2.2.2 = some true := by
    unfold laws_FnMazeForms.c23
    by_cases hp : AddQ N ds ks a b c
    · have hlen := add_len hp
      obtain ⟨m, m1, m2⟩ := add_drop hp
      rw [addR_pos hp, if_pos rfl]
      have := forms_l0 (n := 2000000) (by omega) (K := fun y20 y21 y22 y23 y24 y25 y26 y27 y28 y29 y30 y31 y32 y33 y34 y35 y36 y37 y38 y39 y40 y41 y42 y43 y44 y45 y46 y47 y48 y49 y50 y51 y52 y53 =>
        if (!y53) = true then
          some false
        else
          if (!decide ((y24.length : Int) = (IntKind.wrap .i64 ((y21.length : Int) + (1 : Int))))) = true then
            some false
          else
            laws_FnMazeForms.c33 2000000 y26 y27 y28 y29 y30 y31 y32 y33 y34 y35 y36 y37 y38 y39 y40 y41 y42 y43 y44 y45 y46 y47 y48 y49 y50 y51 y52)
        (N := N) (M := N) (ds := ds) (es := tidyL (ds ++ [nrm (a, b, c)])) (ks := ks) (us := ks) (a0 := N2) (a1 := ds2) (a2 := ks2) (a3 := k) (b0 := (dropR N2 ds2 ks2 k).1) (b1 := (dropR N2 ds2 ks2 k).2.1) (b2 := (dropR N2 ds2 ks2 k).2.2.1) (b3 := (dropR N2 ds2 ks2 k).2.2.2)
        (c0 := N3) (c1 := ds3) (c2 := ks3) (c3 := x) (c4 := s) (d0 := (putR N3 ds3 ks3 x s).1) (d1 := (putR N3 ds3 ks3 x s).2.1) (d2 := (putR N3 ds3 ks3 x s).2.2.1) (d3 := (putR N3 ds3 ks3 x s).2.2.2) (e0 := E) (e1 := es) (e2 := eks) (f0 := F) (f1 := fs) (f2 := fks) (g0 := q.1) (g1 := q.2.1) (g2 := q.2.2.1) (g3 := q.2.2.2)
        (by omega) (by omega) (by omega) (by omega) 2000000 0 false (by omega) (.inr ⟨m, by omega, m1, m2⟩)
      rw [show ((0 : Nat) : Int) = 0 from rfl] at this
      rw [this, if_neg (by simp), w64s (x := (ds.length : Int) + 1) (by omega) (by omega), hlen, if_neg (by simp)]
      exact h33
    · rw [addR_neg hp, if_neg (by simp)]
      exact h33
  -- the questions
  have h18 : laws_FnMazeForms.c18 2000000 cd N ds ks (addR N ds ks a b c).1 (addR N ds ks a b c).2.1 (addR N ds ks a b c).2.2.1 (addR N ds ks a b c).2.2.2 N2 ds2 ks2 k (dropR N2 ds2 ks2 k).1 (dropR N2 ds2 ks2 k).2.1 (dropR N2 ds2 ks2 k).2.2.1 (dropR N2 ds2 ks2 k).2.2.2 N3 ds3 ks3 x s (putR N3 ds3 ks3 x s).1 (putR N3 ds3 ks3 x s).2.1 (putR N3 ds3 ks3 x s).2.2.1 (putR N3 ds3 ks3 x s).2.2.2 = some true := by
    unfold laws_FnMazeForms.c18
    simp only [e4, Option.bind_some]
    rw [q4, Option.bind_some, q3, Option.bind_some, beqB_self, if_neg (by simp), rMaze_self (by omega) q1 q2, Option.bind_some, if_neg (by simp)]
    exact h23
  have h13 : laws_FnMazeForms.c13 2000000 cd N ds ks (addR N ds ks a b c).1 (addR N ds ks a b c).2.1 (addR N ds ks a b c).2.2.1 (addR N ds ks a b c).2.2.2 N2 ds2 ks2 k (dropR N2 ds2 ks2 k).1 (dropR N2 ds2 ks2 k).2.1 (dropR N2 ds2 ks2 k).2.2.1 (dropR N2 ds2 ks2 k).2.2.2 = some true := by
    unfold laws_FnMazeForms.c13
    simp only [e3, Option.bind_some]
    obtain ⟨p, _, p2, p3⟩ := PutKeys_same (n := 2000000) (N := N3) (ds := ds3) (ks := ks3) (by omega) (by omega) (by omega) x s
    rw [PutKeys_val (by omega) (by omega) (by omega)] at p3
    cases p3
    obtain ⟨l1, l2⟩ := putR_len (N := N3) (ds := ds3) (ks := ks3) (x := x) (s := s)
    rw [PutKeys_val (by omega) (by omega) (by omega), Option.bind_some, p2, Option.bind_some, beqB_self, if_neg (by simp), rMaze_self (by omega) (by omega) (by omega), Option.bind_some, if_neg (by simp)]
    exact h18
  have h8 : laws_FnMazeForms.c8 2000000 cd N ds ks (addR N ds ks a b c).1 (addR N ds ks a b c).2.1 (addR N ds ks a b c).2.2.1 (addR N ds ks a b c).2.2.2 = some true := by
    unfold laws_FnMazeForms.c8
    simp only [e2, Option.bind_some]
    obtain ⟨p, _, p2, p3⟩ := DropDoor_same (n := 2000000) (N := N2) (ds := ds2) (ks := ks2) (by omega) k
    rw [DropDoor_val (by omega)] at p3
    cases p3
    obtain ⟨l1, l2⟩ := dropR_len (N := N2) (ds := ds2) (ks := ks2) (x := k)
    rw [DropDoor_val (by omega), Option.bind_some, p2, Option.bind_some, beqB_self, if_neg (by simp), rMaze_self (by omega) (by omega) (by omega), Option.bind_some, if_neg (by simp)]
    exact h13
  simp only [e1, Option.bind_some]
  obtain ⟨p, _, p2, p3⟩ := AddDoor_same (n := 2000000) (N := N) (ds := ds) (ks := ks) (by omega) a b c
  rw [AddDoor_val (by omega)] at p3
  cases p3
  obtain ⟨l1, l2⟩ := addR_len (N := N) (ds := ds) (ks := ks) (a := a) (b := b) (c := c)
  rw [AddDoor_val (by omega), Option.bind_some, p2, Option.bind_some, beqB_self, if_neg (by simp), rMaze_self (by omega) (by omega) (by omega), Option.bind_some, if_neg (by simp)]
  exact h8
end Go.Pv
