/- The plain law of FnOpenDoors. -/
import Derived.Test.YtfgncboicamdjaaGreatDoorPvOpenV
import Derived.Test.YtfgncboicamdjaaGreatDoorPvDrawO
set_option linter.unusedVariables false
set_option linter.unusedSimpArgs false
set_option autoImplicit false
namespace Go.Pv
open Go Go.Fx Go.Pf
section
variable {n : Nat}
theorem rHas_l0 {K : Unit → Option Bool} {l : List Int} {x : Int} (hl : l.length ≤ 1048576) : ∀ (j i : Nat), l.length - i < j → laws_rHas.l0 n K j l x (i : Int) = if x ∈ l.drop i then some true else K ()
  | 0, i, h => by omega
  | j + 1, i, h => by
    unfold laws_rHas.l0
    by_cases c : i < l.length
    · have wi : IntKind.wrap .i64 ((i : Int) + 1) = ((i + 1 : Nat) : Int) := by rw [w64s (by omega) (by omega)]; omega
      have k1 : decide ((i : Int) < (l.length : Int)) = true := by simpa using c
      have k2 : 0 ≤ (i : Int) ∧ (i : Int) < (l.length : Int) := ⟨by omega, by omega⟩
      rw [if_pos k1, if_pos k2, Int.toNat_natCast, wi, rHas_l0 hl j (i + 1) (by omega), getD_drop (d := 0) c]
      by_cases e : l.getD i 0 = x
      · rw [if_pos (by simpa using e), if_pos (by rw [← e]; exact List.mem_cons_self ..)]
      · rw [if_neg (by simpa using e)]
        have : (x ∈ l.getD i 0 :: l.drop (i + 1)) ↔ x ∈ l.drop (i + 1) := by
          rw [List.mem_cons]
          constructor
          · rintro (h | h)
            · exact absurd h.symm e
            · exact h
          · exact .inr
        by_cases m : x ∈ l.drop (i + 1)
        · rw [if_pos m, if_pos (this.2 m)]
        · rw [if_neg m, if_neg (fun q => m (this.1 q))]
    · have k1 : ¬ decide ((i : Int) < (l.length : Int)) = true := by simpa using c
      rw [if_neg k1, List.drop_of_length_le (by omega), if_neg (by simp)]
theorem rHas_val (hn : 1048578 ≤ n) {l : List Int} {x : Int} (hl : l.length ≤ 1048576) : laws_rHas.F n l x = some (decide (x ∈ l)) := by
  unfold laws_rHas.F
  have := rHas_l0 (n := n) (K := fun _ => some false) (x := x) hl n 0 (by omega)
  simp only [Int.natCast_zero, List.drop_zero] at this
  rw [this]
  by_cases h : x ∈ l
  · simp [h]
  · simp [h]
theorem open_l0 (hn : 1048578 ≤ n) {K : Int → Bool → Bool → List Int → Option Bool} {x6 : Int} {x7 x8 : Bool} {x11 a b : List Int} (ha : a.length ≤ 1048576) (hb : b.length ≤ 1048576) (h : ∀ x ∈ a, x ∈ b) : ∀ (j i : Nat), a.length - i < j → laws_FnOpenDoors.l0 n K j x6 x7 x8 x11 a b (i : Int) = K x6 x7 x8 x11
  | 0, i, hj => by omega
  | j + 1, i, hj => by
    unfold laws_FnOpenDoors.l0
    by_cases c : i < a.length
    · have wi : IntKind.wrap .i64 ((i : Int) + 1) = ((i + 1 : Nat) : Int) := by rw [w64s (by omega) (by omega)]; omega
      have k1 : decide ((i : Int) < (a.length : Int)) = true := by simpa using c
      have k2 : 0 ≤ (i : Int) ∧ (i : Int) < (a.length : Int) := ⟨by omega, by omega⟩
      have hm := h _ (getD_mem (d := 0) c)
      rw [if_pos k1, if_pos k2, Int.toNat_natCast, rHas_val hn hb, Option.bind_some, if_neg (by simpa using hm), wi, open_l0 hn ha hb h j (i + 1) (by omega)]
    · have k1 : ¬ decide ((i : Int) < (a.length : Int)) = true := by simpa using c
      rw [if_neg k1]
theorem some_l2 {K : Bool → Bool → Option Bool} {s : Int} {x7 : Bool} {l : List Int} (hl : l.length ≤ 1048576) : ∀ (j i : Nat) (b : Bool), l.length - i < j → laws_FnOpenDoors.l2 n K j s x7 l b (i : Int) = K x7 (b || (l.drop i).any fun v => hasB s v)
  | 0, i, b, hj => by omega
  | j + 1, i, b, hj => by
    unfold laws_FnOpenDoors.l2
    by_cases c : i < l.length
    · have wi : IntKind.wrap .i64 ((i : Int) + 1) = ((i + 1 : Nat) : Int) := by rw [w64s (by omega) (by omega)]; omega
      have k1 : decide ((i : Int) < (l.length : Int)) = true := by simpa using c
      have k2 : 0 ≤ (i : Int) ∧ (i : Int) < (l.length : Int) := ⟨by omega, by omega⟩
      rw [if_pos k1]
      cases b with
      | true => rw [if_pos rfl, wi, some_l2 hl j (i + 1) true (by omega)]; rfl
      | false =>
        rw [if_neg (by simp), if_pos k2, if_pos k2, Int.toNat_natCast, wi, some_l2 hl j (i + 1) _ (by omega), getD_drop (d := 0) c, List.any_cons]
        rfl
    · have k1 : ¬ decide ((i : Int) < (l.length : Int)) = true := by simpa using c
      rw [if_neg k1, List.drop_of_length_le (by omega)]
      simp
end

open Classical in
theorem lawOpenDoors (cd : List Int) (hw : ∀ x ∈ cd, (Lit.int .u8 x).wf = true) : ∃ n, laws_FnOpenDoors.F n cd = some true := by
  refine ⟨2000000, ?_⟩
  have hb : Bytes cd := fun x hx => by
    have := hw x hx
    simp [Lit.wf, IntKind.min, IntKind.max, IntKind.signed, IntKind.bits] at this
    omega
  unfold laws_FnOpenDoors.F
  obtain ⟨g, hg⟩ : ∃ g, laws_rBig.F 2000000 cd = some g := ⟨_, rfl⟩
  rw [hg, Option.bind_some]
  cases g with
  | true => rfl
  | false =>
  rw [if_neg (by simp)]
  -- a door that is open
  obtain ⟨N, ds, ks, x, y, s, e1, hdl, hkl⟩ := drawOpen_ok (n := 2000000) (by omega) hb
  obtain ⟨r, o1, o2, o3⟩ := isOpen_q (n := 2000000) (N := N) (ds := ds) (ks := ks) (by omega) (x := x) (y := y) (s := s) (fun _ _ => trivial)
  simp only [e1, Option.bind_some]
  rw [o2, Option.bind_some, o1, Option.bind_some, beqB_self, beqB_self, if_neg (by simp), if_neg (by simp)]
  obtain ⟨q, hq1, q2, q3, q4⟩ := leastNeeds_q (n := 2000000) (N := N) (ds := ds) (ks := ks) (by omega) x y
  unfold laws_FnOpenDoors.c8
  rw [q3, Option.bind_some, q2, Option.bind_some, beqB_self, if_neg (by simp)]
  -- the last question
  have h63 : laws_FnOpenDoors.c63 2000000 s r.1 r.2 q.1 = some true := by
    unfold laws_FnOpenDoors.c63
    cases hr : r.2 with
    | false => rfl
    | true =>
      obtain ⟨hk, hop⟩ := o3 hr
      have hqq := q4 hk.vm hk.x hk.y
      rw [if_neg (by simp)]
      have := some_l2 (n := 2000000) (K := fun y45 y46 => some (y46 == y45)) (s := s) (x7 := r.1) (l := q.1) hq1 2000000 0 false (by omega)
      simp only [Int.natCast_zero, List.drop_zero, Bool.false_or] at this
      rw [this, hop, hqq]
      obtain ⟨S, rfl⟩ : ∃ S : Nat, s = (S : Int) := ⟨s.toNat, by have := hk.s; omega⟩
      have hno := needs_open hk.vm (x := x) (y := y) (s := S) (by have := hk.s; omega)
      have : ((needsL ds x y).any fun v => hasB (S : Int) v) = openB ds x y (S : Int) := by
        rw [Bool.eq_iff_iff, List.any_eq_true]
        exact hno
      simp only [this]
      simp
  -- reaching
  have h54 : ∀ (M : Int) (es : List (Int × Int × Int)) (us : List Int) (u h : Int) (p : List Int × Bool), p.1.length ≤ 1048576 → impl_ReachWith.F 2000000 M es us u h = some p → laws_FnOpenDoors.c54 2000000 s r.1 r.2 q.1 M es us u h p.1 p.2 = some true := by
    intro M es us u h p hp1 hp
    unfold laws_FnOpenDoors.c54
    obtain ⟨p', hp1', _, p3, p4, p5⟩ := reachWith_q (n := 2000000) (N := M) (ds := es) (ks := us) (by omega) u h
    rw [hp] at p3
    cases p3
    cases hb2 : p.2 with
    | false => exact h63
    | true =>
      obtain ⟨v1, v2, v3⟩ := p4 hb2
      have hpv := p5 v1 v2 v3
      obtain ⟨t, ht, ht6, hst⟩ := or5_set v3
      obtain ⟨p', hp1', _, w3, _, w5⟩ := reachWith_q (n := 2000000) (N := M) (ds := es) (ks := us) (by omega) u (bitOr .i64 h 5)
      have hw := w5 v1 v2 (by rw [ht]; have : (2 : Nat) ^ 6 = 64 := by decide
                              omega)
      rw [if_pos rfl, w3, Option.bind_some, hw, if_neg (by simp), rHas_val (by omega) hp1, Option.bind_some, hpv]
      have p6 : (2 : Nat) ^ 6 = 64 := by decide
      have eh : h = ((h.toNat : Nat) : Int) := by omega
      rw [if_neg (by simpa using reach_self v1 v2)]
      have hl1 := memL_length (reachN es h u)
      have hl2 := memL_length (reachN es (bitOr .i64 h 5) u)
      have := open_l0 (n := 2000000) (by omega) (K := fun y41 y42 y43 y44 => laws_FnOpenDoors.c63 2000000 y41 y42 y43 y44) (x6 := s) (x7 := r.1) (x8 := r.2) (x11 := q.1) (a := memL (reachN es h u)) (b := memL (reachN es (bitOr .i64 h 5) u)) (by omega) (by omega) (by
        intro z hz
        rw [ht]
        rw [eh] at hz
        exact reach_more v1 v2 (by omega) ht6 hst hz) 2000000 0 (by omega)
      simp only [Int.natCast_zero] at this
      rw [this]
      exact h63
  -- a text
  have h49 : ∀ (M : Int) (es : List (Int × Int × Int)) (us : List Int) (u h : Int) (p : List Int × Bool), p.1.length ≤ 1048576 → impl_ReachWith.F 2000000 M es us u h = some p → laws_FnOpenDoors.c49 2000000 cd s r.1 r.2 q.1 M es us u h p.1 p.2 = some true := by
    intro M es us u h p hp1 hp
    unfold laws_FnOpenDoors.c49
    obtain ⟨t, ht, hts⟩ := drawText_ok (n := 2000000) (by omega) hb
    rw [ht, Option.bind_some, implParseM_val (by omega) hts, Option.bind_some, specParseM_val (by omega) hts, Option.bind_some]
    obtain ⟨l1, l2⟩ := resM_len' (by_ t)
    rw [beqB_self, if_neg (by simp), rMaze_self (by omega) l1 l2, Option.bind_some, if_neg (by simp)]
    exact h54 M es us u h p hp1 hp
  have h41 : ∀ (M : Int) (es : List (Int × Int × Int)) (us : List Int) (u h : Int) (p : List Int × Bool), p.1.length ≤ 1048576 → impl_ReachWith.F 2000000 M es us u h = some p → laws_FnOpenDoors.c41 2000000 cd N ds ks s r.1 r.2 q.1 M es us u h p.1 p.2 = some true := by
    intro M es us u h p hp1 hp
    unfold laws_FnOpenDoors.c41
    obtain ⟨b, t1, t2⟩ := mazeText_same (n := 2000000) (by omega) N ds ks
    rw [t2, Option.bind_some, t1, Option.bind_some]
    have hself : ∀ s : ByteArray, (!(s.toList == s.toList)) = false := fun s => by rw [eq_bytes]; simp
    rw [hself, if_neg (by simp), beqB_self, if_neg (by simp)]
    unfold laws_FnOpenDoors.c45
    cases hb2 : b.2 with
    | false => exact h49 M es us u h p hp1 hp
    | true =>
      have hvm : VM N ds ks := by
        by_cases hv : VM N ds ks
        · exact hv
        · exfalso
          have hvf : decide (VM N ds ks) = false := by simpa using hv
          unfold spec_MazeText.F at t1
          rw [l2Maze_val (by omega), hvf] at t1
          have : some (ByteArray.empty, false) = some b := t1
          cases this
          cases hb2
      have hbv : b = (⟨(mazeT N ds ks).toArray⟩, true) := by
        rw [implText_val (by omega) hvm] at t2
        exact (Option.some.inj t2).symm
      rw [if_pos rfl, hbv]
      have hsz := mazeT_len hvm
      rw [implParseM_val (by omega) (by rw [size_mk']; omega), Option.bind_some, by_mk, resM_text hvm, if_neg (by simp)]
      have hd1 := hvm.dl
      have hk1 := hvm.kl
      have hk2 := hvm.n2
      show (laws_rMaze.F 2000000 N ds ks N ds ks).bind _ = _
      rw [rMaze_self (by omega) (by omega) (by omega), Option.bind_some, if_neg (by simp)]
      exact h49 M es us u h p hp1 hp
  have h27 : ∀ (M : Int) (es : List (Int × Int × Int)) (us : List Int) (u h : Int) (p : List Int × Bool), p.1.length ≤ 1048576 → impl_ReachWith.F 2000000 M es us u h = some p → laws_FnOpenDoors.c27 2000000 cd N ds ks s r.1 r.2 q.1 M es us u h p.1 p.2 = some true := by
    intro M es us u h p hp1 hp
    unfold laws_FnOpenDoors.c27
    obtain ⟨l, hl, hll⟩ := drawSet_ok (n := 2000000) (by omega) hb
    obtain ⟨so, so1, so2⟩ := SetOf_q (n := 2000000) (by omega) (xs := l) (by omega)
    rw [hl, Option.bind_some, so1, Option.bind_some, so2, Option.bind_some, if_neg (by simp), beqB_self, if_neg (by simp)]
    unfold laws_FnOpenDoors.c32
    obtain ⟨c, hc⟩ := drawColours_ok (n := 2000000) (by omega) hb
    obtain ⟨co, co1, co2, co3, co4⟩ := coloursOf_q (n := 2000000) (by omega) c
    rw [hc, Option.bind_some, co2, Option.bind_some, co3, Option.bind_some, beqB_self, if_neg (by simp), rInts_self (by omega) co1, Option.bind_some, if_neg (by simp)]
    unfold laws_FnOpenDoors.c37
    cases hb2 : co.2 with
    | false => exact h41 M es us u h p hp1 hp
    | true =>
      rw [if_pos rfl, co4 hb2, Option.bind_some, if_neg (by simp), if_neg (by simp)]
      exact h41 M es us u h p hp1 hp
  have h12 : laws_FnOpenDoors.c12 2000000 cd N ds ks s r.1 r.2 q.1 = some true := by
    unfold laws_FnOpenDoors.c12
    obtain ⟨N2, ds2, ks2, x2, y2, e2⟩ := drawNeeds_ok (n := 2000000) (by omega) hb
    obtain ⟨p, p1, p2, p3, _⟩ := leastNeeds_q (n := 2000000) (N := N2) (ds := ds2) (ks := ks2) (by omega) x2 y2
    simp only [e2, Option.bind_some]
    rw [p3, Option.bind_some, p2, Option.bind_some, beqB_self, if_neg (by simp), rInts_self (by omega) p1, Option.bind_some, if_neg (by simp)]
    unfold laws_FnOpenDoors.c17
    obtain ⟨N3, ds3, ks3, x3, s3, e3⟩ := drawReach_ok (n := 2000000) (by omega) hb
    obtain ⟨w, w1, w2, w3, _, _⟩ := reachWith_q (n := 2000000) (N := N3) (ds := ds3) (ks := ks3) (by omega) x3 s3
    simp only [e3, Option.bind_some]
    rw [w3, Option.bind_some, w2, Option.bind_some, beqB_self, if_neg (by simp), rInts_self (by omega) w1, Option.bind_some, if_neg (by simp)]
    unfold laws_FnOpenDoors.c22
    obtain ⟨N4, ds4, ks4, x4, e4⟩ := drawDoorsAt_ok (n := 2000000) (by omega) hb
    obtain ⟨v, v1, v2, v3⟩ := DoorsAt_same (n := 2000000) (N := N4) (ds := ds4) (ks := ks4) (by omega) x4
    simp only [e4, Option.bind_some]
    rw [v3, Option.bind_some, v2, Option.bind_some, beqB_self, if_neg (by simp), rInts_self (by omega) v1, Option.bind_some, if_neg (by simp)]
    obtain ⟨m, m1, m2⟩ := isMaze_same (n := 2000000) (by omega) N4 ds4 ks4
    have m1' : spec_IsMaze.F 2000000 N4 ds4 ks4 = some m := by
      unfold spec_IsMaze.F
      rw [m1]
      rfl
    rw [m2, Option.bind_some, m1', Option.bind_some, beqB_self, if_neg (by simp)]
    exact h27 N3 ds3 ks3 x3 s3 w w1 w3
  cases hr : r.2 with
  | false =>
    rw [if_neg (by simp), rInts_self (by omega) hq1, Option.bind_some, if_neg (by simp)]
    rw [hr] at h12
    exact h12
  | true =>
    obtain ⟨hk, _⟩ := o3 hr
    have hqq := q4 hk.vm hk.x hk.y
    have hq2 : q.2 = true := by rw [hqq]
    rw [if_pos rfl, hq2, if_neg (by simp), rInts_self (by omega) hq1, Option.bind_some, if_neg (by simp)]
    rw [hr] at h12
    exact h12
end Go.Pv
