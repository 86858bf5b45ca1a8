/- Plain laws: questions about doors, needs, sets and texts that are drawn. -/
import Derived.Test.YtfgncboicamdjaaGreatDoorPvDrawM
import Derived.Test.YtfgncboicamdjaaGreatDoorPvDrawW
import Derived.Test.YtfgncboicamdjaaGreatDoorPvMText
set_option linter.unusedVariables false
set_option linter.unusedSimpArgs false
set_option autoImplicit false
namespace Go.Pv
open Go Go.Fx Go.Pf
section
variable {n : Nat} {cd : List Int}
theorem pick_lt (hb : Bytes cd) {a s : Int} (h0 : 0 ≤ a) (h1 : a ≤ 1152921504606846000) {m : Int} (hm : 0 < m) : Dr cd a 2 (spec_l1Cur_pick.F n cd a s m) fun v => 0 ≤ v ∧ v < m := by
  refine (pick_ok hb h0 h1 m).mono (Int.le_refl 2) fun v hv => ⟨hv.1, ?_⟩
  rcases Int.lt_or_le 1 m with h | h
  · exact hv.2.1 h
  · have := hv.2.2 h
    omega
open Classical in
theorem drawOpen_ok (hn : 1000 ≤ n) (hb : Bytes cd) : ∃ N ds ks x y s, spec_DrawIsOpenTo.F n cd = some (N, ds, ks, x, y, s) ∧ ds.length ≤ 40 ∧ ks.length ≤ 40 := by
  unfold spec_DrawIsOpenTo.F
  obtain ⟨a1, s1, ⟨N, ds, ks⟩, e1, h1, h2, hd, hk⟩ := maze_ok (n := n) (s := 0) (by omega) hb (Int.le_refl 0) (by omega)
  rw [e1, Option.bind_some]
  obtain ⟨a2, s2, x, e2, h3, h4, _⟩ := nodeOf_ok (n := n) (s := s1) (a := a1) hb (by omega) (by omega) N ds ks
  simp only [e2, Option.bind_some]
  obtain ⟨a3, s3, y, e3, h5, h6, _⟩ := nodeOf_ok (n := n) (s := s2) (a := a2) hb (by omega) (by omega) N ds ks
  simp only [e3, Option.bind_some]
  have col : ∀ (a s : Int) (x y : Int), 0 ≤ a → a ≤ 1152921504606000000 → ∃ z, ((spec_l1Cur_colours.F n cd a s).bind fun r => some (N, ds, ks, x, y, r.2.2.2)) = some (N, ds, ks, x, y, z) := by
    intro a s x y h0 h1
    obtain ⟨a4, s4, z, e4, _⟩ := colours_ok (n := n) (s := s) (a := a) (by omega) hb h0 (by omega)
    rw [e4]
    exact ⟨z, rfl⟩
  simp only at hd hk
  rw [l2Maze_val (by omega), Option.bind_some]
  split
  · split
    · rename_i c
      have hpos : 0 < (ds.length : Int) := by simpa using c
      obtain ⟨a4, s4, v, e4, h7, h8, _⟩ := one_ok (n := n) (s := s3) (a := a3) hb (by omega) (by omega) 3
      simp only [e4, Option.bind_some]
      split
      · obtain ⟨a5, s5, u, e5, h9, h10, hu⟩ := pick_lt (n := n) (s := s4) (a := a4) hb (by omega) (by omega) hpos
        simp only [e5, Option.bind_some]
        rw [if_pos hu]
        obtain ⟨z, hz⟩ := col a5 s5 _ _ (by omega) (by omega)
        exact ⟨_, _, _, _, _, _, hz, hd, hk⟩
      · obtain ⟨z, hz⟩ := col a4 s4 _ _ (by omega) (by omega)
        exact ⟨_, _, _, _, _, _, hz, hd, hk⟩
    · obtain ⟨z, hz⟩ := col a3 s3 _ _ (by omega) (by omega)
      exact ⟨_, _, _, _, _, _, hz, hd, hk⟩
  · obtain ⟨z, hz⟩ := col a3 s3 _ _ (by omega) (by omega)
    exact ⟨_, _, _, _, _, _, hz, hd, hk⟩
theorem drawNeeds_l0 (hn : 1000 ≤ n) (hb : Bytes cd) {N b : Int} {c : List (Int × Int × Int)} {d ks : List Int} {x y : Int} : ∀ (j : Nat) (a s k : Int) (ds : List (Int × Int × Int)), 0 ≤ a → a + 6 * k.toNat ≤ 1152921504606000000 → k.toNat < j → k ≤ 10 → ds.length + k.toNat ≤ 50 →
    ∃ r, spec_DrawLeastNeeds.l0 n (fun y10 y11 y12 y13 y14 y15 y16 y17 => some (y13, y14, y15, y16, y17)) j b c d cd a s N ds ks x y k = some (N, r, ks, x, y)
  | 0, a, s, k, ds, _, _, h, _, _ => by omega
  | j + 1, a, s, k, ds, h0, h1, hj, hk, hd => by
    unfold spec_DrawLeastNeeds.l0
    by_cases c : k > 0
    · rw [if_pos (by simpa using c)]
      obtain ⟨a1, s1, v, e1, h2, h3, _⟩ := few_ok (n := n) (s := s) (a := a) (by omega) hb h0 (by omega) 6
      obtain ⟨r, hr, hl⟩ := putAny (n := n) (l := ds) (by omega) (by omega) x y v
      simp only [e1, Option.bind_some, hr]
      rw [w64 (x := k - 1) (by omega) (by omega)]
      exact drawNeeds_l0 hn hb j a1 s1 (k - 1) r (by omega) (by omega) (by omega) (by omega) (by omega)
    · rw [if_neg (by simpa using c)]
      exact ⟨ds, rfl⟩
open Classical in
theorem drawNeeds_ok (hn : 1000 ≤ n) (hb : Bytes cd) : ∃ N ds ks x y, spec_DrawLeastNeeds.F n cd = some (N, ds, ks, x, y) := by
  unfold spec_DrawLeastNeeds.F
  obtain ⟨a1, s1, ⟨N, ds, ks⟩, e1, h1, h2, hd, hk⟩ := maze_ok (n := n) (s := 0) (by omega) hb (Int.le_refl 0) (by omega)
  rw [e1, Option.bind_some]
  obtain ⟨a2, s2, x, e2, h3, h4, _⟩ := nodeOf_ok (n := n) (s := s1) (a := a1) hb (by omega) (by omega) N ds ks
  simp only [e2, Option.bind_some]
  obtain ⟨a3, s3, y, e3, h5, h6, _⟩ := nodeOf_ok (n := n) (s := s2) (a := a2) hb (by omega) (by omega) N ds ks
  simp only [e3, Option.bind_some]
  simp only at hd hk
  rw [l2Maze_val (by omega), Option.bind_some]
  split
  · split
    · rename_i c
      have hpos : 0 < (ds.length : Int) := by simpa using c
      obtain ⟨a4, s4, v, e4, h7, h8, _⟩ := one_ok (n := n) (s := s3) (a := a3) hb (by omega) (by omega) 4
      simp only [e4, Option.bind_some]
      split
      · obtain ⟨a5, s5, u, e5, h9, h10, hu⟩ := pick_lt (n := n) (s := s4) (a := a4) hb (by omega) (by omega) hpos
        simp only [e5, Option.bind_some]
        rw [if_pos hu]
        obtain ⟨a6, s6, w, e6, h11, h12, hw⟩ := pick_lt (n := n) (s := s5) (a := a5) hb (by omega) (by omega) (m := 3) (by omega)
        simp only [e6, Option.bind_some]
        obtain ⟨r, hr⟩ := drawNeeds_l0 (n := n) hn hb (N := N) (b := 0) (c := []) (d := []) (ks := ks) (x := (ds.getD u.toNat ((0 : Int), (0 : Int), (0 : Int))).1) (y := (ds.getD u.toNat ((0 : Int), (0 : Int), (0 : Int))).2.1) n a6 s6 w ds (by omega) (by omega) (by omega) (by omega) (by omega)
        exact ⟨_, _, _, _, _, hr⟩
      · exact ⟨_, _, _, _, _, rfl⟩
    · exact ⟨_, _, _, _, _, rfl⟩
  · exact ⟨_, _, _, _, _, rfl⟩
theorem drawReach_ok (hn : 1000 ≤ n) (hb : Bytes cd) : ∃ N ds ks x s, spec_DrawReachWith.F n cd = some (N, ds, ks, x, s) := by
  unfold spec_DrawReachWith.F
  obtain ⟨a1, s1, ⟨N, ds, ks⟩, e1, h1, h2, hd, hk⟩ := maze_ok (n := n) (s := 0) (by omega) hb (Int.le_refl 0) (by omega)
  rw [e1, Option.bind_some]
  obtain ⟨a2, s2, x, e2, h3, h4, _⟩ := nodeOf_ok (n := n) (s := s1) (a := a1) hb (by omega) (by omega) N ds ks
  simp only [e2, Option.bind_some]
  obtain ⟨a4, s4, z, e4, _⟩ := colours_ok (n := n) (s := s2) (a := a2) (by omega) hb (by omega) (by omega)
  simp only [e4, Option.bind_some]
  exact ⟨_, _, _, _, _, rfl⟩
theorem drawDoorsAt_ok (hn : 1000 ≤ n) (hb : Bytes cd) : ∃ N ds ks x, spec_DrawDoorsAt.F n cd = some (N, ds, ks, x) := by
  unfold spec_DrawDoorsAt.F
  obtain ⟨a1, s1, ⟨N, ds, ks⟩, e1, h1, h2, hd, hk⟩ := maze_ok (n := n) (s := 0) (by omega) hb (Int.le_refl 0) (by omega)
  rw [e1, Option.bind_some]
  obtain ⟨a2, s2, x, e2, h3, h4, _⟩ := nodeOf_ok (n := n) (s := s1) (a := a1) hb (by omega) (by omega) N ds ks
  simp only [e2, Option.bind_some]
  exact ⟨_, _, _, _, rfl⟩
theorem drawSet_l0 (hb : Bytes cd) {K : List Int → Int → Int → List Int → Option (List Int)} {P : List Int → Prop} (hK : ∀ a s l, 0 ≤ a → a ≤ 1152921504606800000 → l.length ≤ 20 → ∃ r, K cd a s l = some r ∧ P r) : ∀ (j : Nat) (a s k : Int) (l : List Int), 0 ≤ a → a + 2 * k.toNat ≤ 1152921504606800000 → k.toNat < j → k ≤ 10 → l.length + k.toNat ≤ 20 →
    ∃ r, spec_DrawSetOf.l0 n K j cd a s l k = some r ∧ P r
  | 0, a, s, k, l, _, _, h, _, _ => by omega
  | j + 1, a, s, k, l, h0, h1, hj, hk, hl => by
    unfold spec_DrawSetOf.l0
    by_cases c : k > 0
    · rw [if_pos (by simpa using c)]
      obtain ⟨a1, s1, v, e1, h2, h3, _⟩ := pick_ok (n := n) (s := s) (a := a) hb h0 (by omega) 6
      simp only [e1, Option.bind_some]
      rw [if_pos (by simp; omega), w64 (x := k - 1) (by omega) (by omega)]
      exact drawSet_l0 hb hK j a1 s1 (k - 1) _ (by omega) (by omega) (by omega) (by omega) (by simp; omega)
    · rw [if_neg (by simpa using c)]
      exact hK a s l h0 (by omega) (by omega)
theorem drawSet_ok (hn : 1000 ≤ n) (hb : Bytes cd) : ∃ l, spec_DrawSetOf.F n cd = some l ∧ l.length ≤ 100 := by
  unfold spec_DrawSetOf.F
  obtain ⟨a1, s1, v, e1, h1, h2, hv⟩ := pick_lt (n := n) (s := 0) (a := 0) hb (by omega) (by omega) (m := 5) (by omega)
  rw [e1, Option.bind_some]
  refine drawSet_l0 (n := n) hb (fun a s l h0 h1 hl => ?_) n a1 s1 v [] (by omega) (by omega) (by omega) (by omega) (by simp; omega)
  obtain ⟨a2, s2, w, e2, h3, h4, _⟩ := one_ok (n := n) (s := s) (a := a) hb h0 (by omega) 20
  simp only [e2, Option.bind_some]
  split
  · obtain ⟨a3, s3, u, e3, h5, h6, _⟩ := among_ok (n := n) (s := s2) (a := a2) hb (by omega) (by omega) (l := [(6 : Int), (-1 : Int), (5 : Int)]) (by simp)
    simp only [e3, Option.bind_some]
    rw [if_pos (by simp; omega)]
    exact ⟨_, rfl, by simp; omega⟩
  · exact ⟨_, rfl, by omega⟩
theorem drawColours_ok (hn : 1000 ≤ n) (hb : Bytes cd) : ∃ s, spec_DrawColoursOf.F n cd = some s := by
  unfold spec_DrawColoursOf.F
  obtain ⟨a4, s4, z, e4, _⟩ := colours_ok (n := n) (s := 0) (a := 0) (by omega) hb (by omega) (by omega)
  rw [e4]
  exact ⟨_, rfl⟩
theorem ext_size (s : ByteArray) (a b : Nat) : (s.extract a b).size ≤ s.size := by
  rw [by_size, by_size, by_extract]
  have h1 : (((by_ s).drop a).take (b - a)).length ≤ ((by_ s).drop a).length := by rw [List.length_take]; omega
  rw [List.length_drop] at h1
  omega
theorem ext_rest (s : ByteArray) {a : Nat} (h : a ≤ s.size) : (s.extract a s.size).size = s.size - a := by
  rw [by_size, by_rest, List.length_drop, ← by_size]
theorem spoilt_ok (hn : 1000 ≤ n) (hb : Bytes cd) {a s : Int} (h0 : 0 ≤ a) (h1 : a ≤ 1152921504606000000) {x y : ByteArray} (hx : 0 < x.size) (hxs : x.size ≤ 5000) (hy : 0 < y.size) (hys : y.size ≤ 100) :
    ∃ a1 s1 r, spec_l1Cur_spoilt.F n cd a s x y = some (cd, a1, s1, r) ∧ r.size ≤ 20000 := by
  unfold spec_l1Cur_spoilt.F
  have hne : (x.toList == ByteArray.empty.toList) = false := by
    rw [eq_bytes]
    have : x ≠ ByteArray.empty := fun e => by rw [e] at hx; exact absurd hx (by decide)
    simpa using this
  rw [hne, if_neg (by simp)]
  obtain ⟨a1, s1, u, e1, h3, h4, hu⟩ := pick_lt (n := n) (s := s) (a := a) hb h0 (by omega) (m := (x.size : Int)) (by omega)
  simp only [e1, Option.bind_some]
  obtain ⟨a2, s2, v, e2, h5, h6, hv⟩ := pick_lt (n := n) (s := s1) (a := a1) hb (by omega) (by omega) (m := (y.size : Int)) (by omega)
  simp only [e2, Option.bind_some]
  have k1 : 0 ≤ v ∧ v ≤ (y.size : Int) := ⟨hv.1, by omega⟩
  have k2 : 0 ≤ (1 : Int) ∧ (1 : Int) ≤ ((y.extract v.toNat y.size).size : Int) := ⟨by omega, by rw [ext_rest y (by omega)]; omega⟩
  obtain ⟨a3, s3, w, e3, h7, h8, _⟩ := pick_ok (n := n) (s := s2) (a := a2) hb (by omega) (by omega) 3
  have k3 : 0 ≤ u ∧ u ≤ (x.size : Int) := ⟨hu.1, by omega⟩
  have wu : IntKind.wrap .i64 (u + 1) = u + 1 := w64s (by omega) (by omega)
  have k4 : 0 ≤ u + 1 ∧ u + 1 ≤ (x.size : Int) := ⟨by omega, by omega⟩
  have z1 := ext_size x 0 u.toNat
  have z2 := ext_size (y.extract v.toNat y.size) 0 1
  have z3 := ext_size y v.toNat y.size
  have z4 := ext_size x u.toNat x.size
  have z5 := ext_size x (u + 1).toNat x.size
  have sa : ∀ a b : ByteArray, (a ++ b).size = a.size + b.size := fun a b => by rw [by_size, by_append, List.length_append, ← by_size, ← by_size]
  simp only [if_pos k1, if_pos k2, e3, Option.bind_some, if_pos k3, wu, if_pos k4, sa]
  split
  · rw [if_pos (by omega), if_pos (by omega)]
    exact ⟨_, _, _, rfl, by simp only [sa]; omega⟩
  · split
    · rw [if_pos (by omega), if_pos (by omega)]
      exact ⟨_, _, _, rfl, by simp only [sa]; omega⟩
    · rw [if_pos (by omega)]
      exact ⟨_, _, _, rfl, by simp only [sa]; omega⟩
theorem mazeT_small {N : Int} {ds : List (Int × Int × Int)} {ks : List Int} (h : VM N ds ks) : 0 < (mazeT N ds ks).length ∧ (mazeT N ds ks).length ≤ 5000 := by
  have hs := h.small
  have h1 := itoa_len hs.n
  have hj := join_len (c := 44) (map_itoa_len hs.k)
  rw [List.length_map] at hj
  have hk := h.kl
  have hN := h.n2
  have hd : ∀ l : List (Int × Int × Int), (∀ d ∈ l, Num3 d) → (l.flatMap doorT).length ≤ 24 * l.length := by
    intro l
    induction l with
    | nil => intro _; simp
    | cons d l ih =>
      intro h
      have := ih fun x hx => h x (List.mem_cons_of_mem _ hx)
      have := doorT_len (h d (List.mem_cons_self ..))
      rw [List.flatMap_cons, List.length_append, List.length_cons]
      omega
    done
  have h3 := hd ds hs.d
  have h4 := h.dl
  unfold mazeT
  simp only [List.length_append, List.length_cons]
  omega
open Classical in
theorem drawText_ok (hn : 2000 ≤ n) (hb : Bytes cd) : ∃ t, spec_DrawParseMaze.F n cd = some t ∧ t.size ≤ 1048576 := by
  unfold spec_DrawParseMaze.F
  obtain ⟨a1, s1, ⟨N, ds, ks⟩, e1, h1, h2, hd, hk⟩ := maze_ok (n := n) (s := 0) (by omega) hb (Int.le_refl 0) (by omega)
  rw [e1, Option.bind_some]
  simp only
  rw [l2Maze_val (by omega), Option.bind_some]
  by_cases h : VM N ds ks
  · rw [if_pos (by simpa using h), l2Text_val hn h.small h.kl.symm (by have := h.kl; have := h.n1; omega), Option.bind_some]
    obtain ⟨a2, s2, w, e2, h3, h4, _⟩ := one_ok (n := n) (s := s1) (a := a1) hb (by omega) (by omega) 3
    simp only [e2, Option.bind_some]
    obtain ⟨m1, m2⟩ := mazeT_small h
    split
    · obtain ⟨a3, s3, r, e3, h5⟩ := spoilt_ok (n := n) (by omega) hb (s := s2) (a := a2) (by omega) (by omega) (x := ⟨(mazeT N ds ks).toArray⟩) (y := ⟨#[48, 49, 50, 51, 44, 32, 45]⟩) m1 m2 (by decide) (by decide)
      rw [e3]
      exact ⟨r, rfl, by omega⟩
    · exact ⟨_, rfl, by rw [size_mk']; omega⟩
  · rw [if_neg (by simpa using h)]
    obtain ⟨a2, s2, w, e2, h3, h4, _⟩ := one_ok (n := n) (s := s1) (a := a1) hb (by omega) (by omega) 3
    simp only [e2, Option.bind_some]
    split
    · obtain ⟨a3, s3, r, e3, h5⟩ := spoilt_ok (n := n) (by omega) hb (s := s2) (a := a2) (by omega) (by omega) (x := ⟨#[50, 32, 49, 44, 48, 32, 48, 45, 49, 45, 49]⟩) (y := ⟨#[48, 49, 50, 51, 44, 32, 45]⟩) (by decide) (by decide) (by decide) (by decide)
      rw [e3]
      exact ⟨r, rfl, by omega⟩
    · exact ⟨_, rfl, by decide⟩
end
end Go.Pv
