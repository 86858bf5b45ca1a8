/- The plain law of walks: what is taken is kept; free, barred, repainted, renumbered and mirrored mazes. -/
import Derived.Test.YtoppnaekfjjaaaaGreatPvKeep
import Derived.Test.YtoppnaekfjjaaaaGreatPvMirror
import Derived.Test.YtoppnaekfjjaaaaGreatPvDrawW
import Derived.Test.YtoppnaekfjjaaaaGreatPvL4B
set_option linter.unusedVariables false
set_option linter.unusedSimpArgs false
set_option autoImplicit false
namespace Go.Pv
open Go Go.Fx Go.Pf

/-- A number of steps, as it is told. -/
def tld (v : Int) : Int × Bool := (if (0 : Int) > v then (0 : Int) else v, decide (v ≥ (0 : Int)))
section
variable {n : Nat} {N : Int} {ds : List Door} {ks : List Int}
theorem few_impl (hn : 1048600 ≤ n) (h : VM N ds ks) : ∃ v, IsFew N ds ks v ∧ impl_FewestSteps.F n N ds ks = some (tld v) := by
  obtain ⟨v, h1, h2⟩ := few_val (n := n) (by omega) h
  obtain ⟨q, _, h3, h4⟩ := FewestSteps_same (n := n) (N := N) (ds := ds) (ks := ks) (by omega)
  refine ⟨v, h1, ?_⟩
  rw [h4, ← h3, h2]
  rfl
theorem few_uniq {v w : Int} (h : IsFew N ds ks v) (k : IsFew N ds ks w) : v = w := by
  rcases h with ⟨h1, ⟨t, h2⟩, h3⟩ | ⟨h1, h2⟩ <;> rcases k with ⟨k1, ⟨u, k2⟩, k3⟩ | ⟨k1, k2⟩
  · have := h3 _ _ k2
    have := k3 _ _ h2
    omega
  · exact absurd h2 (k2 _ _)
  · exact absurd k2 (h2 _ _)
  · omega
open Classical in
theorem paint_cases (hn : 1048600 ≤ n) {to : List Int} (hl : to.length ≤ 1048576) : (VM N ds ks ∧ Ord to 6 ∧ impl_RepaintMaze.F n N ds ks to = some (N, tidyL (ds.map (needD (paintG to))), ks.map (paintG to), true)) ∨ ∃ q : RM, impl_RepaintMaze.F n N ds ks to = some q ∧ q.2.2.2 = false := by
  unfold impl_RepaintMaze.F
  rw [IsMaze_val (by omega), Option.bind_some]
  by_cases h : VM N ds ks
  · have hv : decide (VM N ds ks) = true := by simp [h]
    have hd := h.dl
    have h2 := h.n2
    have hkl := h.kl
    rw [hv]
    simp only [Bool.not_true, Bool.false_eq_true, if_false]
    rw [isOrder_eq (by omega) (by omega) hl (by omega), Option.bind_some]
    by_cases ho : Ord to 6
    · have hov : decide (Ord to 6) = true := by simp [ho]
      have ht : to.length = 6 := by have := ho.2; omega
      have hr := ho.range (by omega)
      have gd : ∀ d ∈ ds, 0 ≤ d.2.2 ∧ d.2.2 ≤ 63 := fun d hd => by have := h.door d hd; omega
      rw [hov]
      simp only [Bool.not_true, Bool.false_eq_true, if_false]
      rw [ch_RepaintMaze (g := paintG to) (by omega) (by omega) (by omega) (fun d hd => paint_impl (by omega) ht hr (gd d hd)) (fun k hk => paint_impl (by omega) ht hr (h.keys k hk)), Option.bind_some]
      exact .inl ⟨h, ho, rfl⟩
    · have hov : decide (Ord to 6) = false := by simp [ho]
      rw [hov]
      exact .inr ⟨_, rfl, rfl⟩
  · have hv : decide (VM N ds ks) = false := by simp [h]
    rw [hv]
    exact .inr ⟨_, rfl, rfl⟩
open Classical in
theorem free_cases (hn : 1048600 ≤ n) (s : Int) : (VM N ds ks ∧ setB s = true) ∨ ∃ q : RM, impl_FreeColours.F n N ds ks s = some q ∧ q.2.2.2 = false := by
  by_cases h : VM N ds ks
  · cases hs : setB s with
    | true => exact .inl ⟨h, rfl⟩
    | false =>
      unfold impl_FreeColours.F
      rw [IsMaze_val (by omega), Option.bind_some, isSet_eq, Option.bind_some, hs]
      have hv : decide (VM N ds ks) = true := by simp [h]
      rw [hv]
      exact .inr ⟨_, rfl, rfl⟩
  · unfold impl_FreeColours.F
    rw [IsMaze_val (by omega), Option.bind_some]
    have hv : decide (VM N ds ks) = false := by simp [h]
    rw [hv]
    exact .inr ⟨_, rfl, rfl⟩
open Classical in
theorem mirror_cases' (hn : 1048600 ≤ n) : VM N ds ks ∨ ∃ q : RM, impl_MirrorMaze.F n N ds ks = some q ∧ q.2.2.2 = false := by
  by_cases h : VM N ds ks
  · exact .inl h
  · unfold impl_MirrorMaze.F
    rw [IsMaze_val (by omega), Option.bind_some]
    have hv : decide (VM N ds ks) = false := by simp [h]
    rw [hv]
    exact .inr ⟨_, rfl, rfl⟩
end

section
variable {n : Nat} {m : Int × List Door × List Int} {w l : List Int}
/-- The end: what is taken is kept. -/
theorem kw45 (h50 : laws_FnKeyWalks.c50 n m.1 m.2.1 m.2.2 w l = some true) {A B : Int × List Door × List Int} {two : Bool}
    (hp : two = true → ∃ q, impl_FewestSteps.F n A.1 A.2.1 A.2.2 = some q ∧ impl_FewestSteps.F n B.1 B.2.1 B.2.2 = some q) : laws_FnKeyWalks.c45 n m.1 m.2.1 m.2.2 w l A.1 A.2.1 A.2.2 B.1 B.2.1 B.2.2 two = some true := by
  unfold laws_FnKeyWalks.c45
  cases two with
  | false => simpa using h50
  | true =>
    obtain ⟨q, h1, h2⟩ := hp rfl
    simp [h1, h2, h50]
theorem kw39 {A B C D E : Int × List Door × List Int} {two four : Bool} (h45 : laws_FnKeyWalks.c45 n m.1 m.2.1 m.2.2 w l A.1 A.2.1 A.2.2 B.1 B.2.1 B.2.2 two = some true)
    (hf : four = true → ∃ v v1 v2 : Int, impl_FewestSteps.F n C.1 C.2.1 C.2.2 = some (tld v) ∧ impl_FewestSteps.F n D.1 D.2.1 D.2.2 = some (tld v1) ∧ impl_FewestSteps.F n E.1 E.2.1 E.2.2 = some (tld v2) ∧ (0 ≤ v → 0 ≤ v1 ∧ v1 ≤ v) ∧ (0 ≤ v2 → 0 ≤ v ∧ v ≤ v2)) :
    laws_FnKeyWalks.c39 n m.1 m.2.1 m.2.2 w l A.1 A.2.1 A.2.2 B.1 B.2.1 B.2.2 two C.1 C.2.1 C.2.2 D.1 D.2.1 D.2.2 four E.1 E.2.1 E.2.2 = some true := by
  unfold laws_FnKeyWalks.c39
  cases four with
  | false => simpa using h45
  | true =>
    obtain ⟨v, v1, v2, e1, e2, e3, g1, g2⟩ := hf rfl
    simp only [if_true, e1, e2, e3, Option.bind_some, tld]
    by_cases c : 0 ≤ v
    · obtain ⟨a1, a2⟩ := g1 c
      have n1 : ¬ ((0 : Int) > v) := by omega
      have n2 : ¬ ((0 : Int) > v1) := by omega
      have n3 : ¬ (v1 > v) := by omega
      by_cases c2 : 0 ≤ v2
      · obtain ⟨b1, b2⟩ := g2 c2
        have n4 : ¬ ((0 : Int) > v2) := by omega
        have n5 : ¬ (v > v2) := by omega
        simp [c, a1, c2, n1, n2, n3, n4, n5, h45]
      · simp [c, a1, c2, n1, n2, n3, h45]
    · have c2 : ¬ 0 ≤ v2 := fun z => c (g2 z).1
      simp [c, c2, h45]
theorem kw35 (hn : 1048600 ≤ n) {A B C D E F G : Int × List Door × List Int} {two four six : Bool} (h39 : laws_FnKeyWalks.c39 n m.1 m.2.1 m.2.2 w l A.1 A.2.1 A.2.2 B.1 B.2.1 B.2.2 two C.1 C.2.1 C.2.2 D.1 D.2.1 D.2.2 four E.1 E.2.1 E.2.2 = some true)
    (hF1 : F.2.1.length ≤ 1048576) (hF2 : F.2.2.length ≤ 1048576) (hm : six = true → impl_MirrorMaze.F n G.1 G.2.1 G.2.2 = some (F.1, F.2.1, F.2.2, true)) :
    laws_FnKeyWalks.c35 n m.1 m.2.1 m.2.2 w l A.1 A.2.1 A.2.2 B.1 B.2.1 B.2.2 two F.1 F.2.1 F.2.2 C.1 C.2.1 C.2.2 D.1 D.2.1 D.2.2 four E.1 E.2.1 E.2.2 G.1 G.2.1 G.2.2 six = some true := by
  unfold laws_FnKeyWalks.c35
  cases six with
  | false => simpa using h39
  | true => simp [hm rfl, rMaze_self (n := n) (by omega) hF1 hF2, h39]
theorem lawKeyWalks (cd : List Int) (hw : ∀ x ∈ cd, (Lit.int .u8 x).wf = true) : ∃ n, laws_FnKeyWalks.F n cd = some true := by
  classical
  have hb : Bytes cd := fun x hx => by
    have := hw x hx
    simp only [Lit.wf, Bool.and_eq_true, decide_eq_true_eq] at this
    have h1 : IntKind.min .u8 = 0 := by decide
    have h2 : IntKind.max .u8 = 255 := by decide
    omega
  refine ⟨2000000, ?_⟩
  generalize hn0 : (2000000 : Nat) = n
  have hn : 1048600 ≤ n := by omega
  unfold laws_FnKeyWalks.F laws_rBig.F
  rw [Option.bind_some]
  split
  · rfl
  -- the first maze and a walk
  obtain ⟨a1, s1, ⟨N, ds, ks⟩, e1, i1, i2, q1⟩ := maze_ok (n := n) (s := 0) (by omega) hb (Int.le_refl 0) (by omega)
  obtain ⟨a2, s2, ws, e2, _, _, q2⟩ := walk_ok (n := n) (s := s1) (a := a1) (by omega) hb (by omega) (by omega) N ds ks
  have dT : spec_DrawTakenOn.F n cd = some (N, ds, ks, ws) := by
    unfold spec_DrawTakenOn.F spec_DrawIsKeyWalk.F
    rw [e1, Option.bind_some]
    simp only [e2, Option.bind_some]
  obtain ⟨a3, s3, to, e3, _, _, q3⟩ := order_ok (n := n) (s := s1) (a := a1) (by omega) hb (by omega) (by omega) 6
  have dP : spec_DrawRepaintMaze.F n cd = some (N, ds, ks, to) := by
    unfold spec_DrawRepaintMaze.F
    rw [e1, Option.bind_some]
    simp only [e3, Option.bind_some]
  obtain ⟨a4, s4, od, e4, _, _, q4⟩ := order_ok (n := n) (s := s1) (a := a1) (by omega) hb (by omega) (by omega) N
  have dN : spec_DrawNumberMaze.F n cd = some (N, ds, ks, od) := by
    unfold spec_DrawNumberMaze.F
    rw [e1, Option.bind_some]
    simp only [e4, Option.bind_some]
  obtain ⟨a5, s5, st, e5, _, _, _⟩ := colours_ok (n := n) (s := s1) (a := a1) (by omega) hb (by omega) (by omega)
  have dF : spec_DrawFreeColours.F n cd = some (N, ds, ks, st) := by
    unfold spec_DrawFreeColours.F
    rw [e1, Option.bind_some]
    simp only [e5, Option.bind_some]
  have hd : ds.length ≤ 1048576 := by have : ds.length ≤ 40 := q1.1; omega
  have hk : ks.length ≤ 1048576 := by have : ks.length ≤ 40 := q1.2; omega
  -- what is taken
  have taken : ∃ r : List Int × Bool, r.1.length ≤ 1048576 ∧ (r.1 = [] ∨ (VM N ds ks ∧ Gd N ks ws ws.length r.1)) ∧ spec_TakenOn.F n N ds ks ws = some r ∧ impl_TakenOn.F n N ds ks ws = some r ∧
      ∃ q : Bool × Bool, spec_IsKeyWalk.F n N ds ks ws = some q ∧ impl_IsKeyWalk.F n N ds ks ws = some q ∧ (if q.2 = true then r.2 = q.1 else r.2 = false) := by
    unfold spec_TakenOn.F impl_TakenOn.F spec_IsKeyWalk.F impl_IsKeyWalk.F
    rw [l2Maze_val (by omega), IsMaze_val (by omega)]
    by_cases h : VM N ds ks
    · obtain ⟨q, hq, _, h1, h2⟩ := taken_same (n := n) (by omega) h (ws := ws) (by omega) (by omega)
      have hg := taken_good (n := n) h (ws := ws) (by omega) h2
      refine ⟨q, hq, hg.imp (fun x => x) (fun x => ⟨h, x⟩), by simp [h, h1], by simp [h, h2], (q.2, true), by simp [h, h1], by simp [h, h2], by simp⟩
    · exact ⟨([], false), by simp, .inl rfl, by simp [h], by simp [h], (false, false), by simp [h], by simp [h], by simp⟩
  obtain ⟨r, hr1, hr2, t1, t2, q, t3, t4, t5⟩ := taken
  have h50 := walks_c50 (n := n) (N := N) (ds := ds) (ks := ks) (ws := ws) (by omega) (by omega) hr2
  obtain ⟨P, ⟨p1, p2⟩, p3, p4⟩ := RepaintMaze_same (n := n) (N := N) (ds := ds) (ks := ks) (to := to) (by omega) (by omega)
  obtain ⟨Q, ⟨o1, o2⟩, o3, o4⟩ := NumberMaze_same (n := n) (N := N) (ds := ds) (ks := ks) (to := od) (by omega) (by omega)
  obtain ⟨F, ⟨f1, f2⟩, f3, f4⟩ := FreeColours_same (n := n) (N := N) (ds := ds) (ks := ks) (by omega) st
  obtain ⟨B, ⟨b1, b2⟩, b3, b4⟩ := BarColours_same (n := n) (N := N) (ds := ds) (ks := ks) (by omega) st
  obtain ⟨M, ⟨m1, m2⟩, m3, m4⟩ := MirrorMaze_same (n := n) (N := N) (ds := ds) (ks := ks) (by omega)
  -- repainted
  have h45 := kw45 (n := n) (m := (N, ds, ks)) (w := ws) (l := r.1) h50 (A := (N, ds, ks)) (B := (P.1, P.2.1, P.2.2.1)) (two := P.2.2.2) (fun ht => by
    rcases paint_cases (n := n) (N := N) (ds := ds) (ks := ks) (to := to) hn (by omega) with ⟨h, ho, hv⟩ | ⟨z, hz, hz2⟩
    · rw [p4] at hv
      simp only [Option.some.injEq] at hv
      subst hv
      obtain ⟨v, g1, g2⟩ := few_impl (n := n) hn h
      obtain ⟨hv', hv2⟩ := paint_few h ho
      obtain ⟨v', g3, g4⟩ := few_impl (n := n) hn hv'
      have := hv2 v v' g1 g3
      subst this
      exact ⟨tld v, g2, g4⟩
    · rw [p4] at hz
      cases hz
      rw [hz2] at ht
      cases ht)
  -- free and barred
  have hflag : F.2.2.2 = B.2.2.2 ∧ (F.2.2.2 = true → ∃ v v1 v2 : Int, impl_FewestSteps.F n N ds ks = some (tld v) ∧ impl_FewestSteps.F n F.1 F.2.1 F.2.2.1 = some (tld v1) ∧ impl_FewestSteps.F n B.1 B.2.1 B.2.2.1 = some (tld v2) ∧ (0 ≤ v → 0 ≤ v1 ∧ v1 ≤ v) ∧ (0 ≤ v2 → 0 ≤ v ∧ v ≤ v2)) := by
    rcases free_cases (n := n) (N := N) (ds := ds) (ks := ks) hn st with ⟨h, hs⟩ | ⟨z, hz, hz2⟩
    · have hF := free_val (n := n) (by omega) h hs
      have hB := bar_val (n := n) (by omega) h hs
      rw [f4] at hF
      rw [b4] at hB
      simp only [Option.some.injEq] at hF hB
      subst hF hB
      have hsr := setB_iff.1 hs
      obtain ⟨v, g1, g2⟩ := few_impl (n := n) hn h
      obtain ⟨vf, hvf⟩ := free_few h hsr
      obtain ⟨vb, hvb⟩ := bar_few h hsr
      obtain ⟨v1, g3, g4⟩ := few_impl (n := n) hn vf
      obtain ⟨v2, g5, g6⟩ := few_impl (n := n) hn vb
      exact ⟨rfl, fun _ => ⟨v, v1, v2, g2, g4, g6, hvf v v1 g1 g3, hvb v v2 g1 g5⟩⟩
    · have hb0 : B.2.2.2 = false := by
        have hnot : ¬ (VM N ds ks ∧ setB st = true) := by
          rintro ⟨h, hs⟩
          rw [free_val (n := n) (by omega) h hs] at hz
          cases hz
          cases hz2
        unfold impl_BarColours.F at b4
        rw [IsMaze_val (by omega), Option.bind_some, isSet_eq, Option.bind_some] at b4
        by_cases h : VM N ds ks
        · have hs : setB st = false := by
            cases hs : setB st with
            | true => exact absurd ⟨h, hs⟩ hnot
            | false => rfl
          simp [h, hs] at b4
          rw [← b4]
        · simp [h] at b4
          rw [← b4]
      rw [f4] at hz
      cases hz
      exact ⟨by rw [hz2, hb0], fun h => by rw [hz2] at h; cases h⟩
  have h39 := kw39 (n := n) (m := (N, ds, ks)) (w := ws) (l := r.1) (A := (N, ds, ks)) (B := (P.1, P.2.1, P.2.2.1)) (C := (N, ds, ks)) (D := (F.1, F.2.1, F.2.2.1)) (E := (B.1, B.2.1, B.2.2.1)) (two := P.2.2.2) (four := F.2.2.2) h45 hflag.2
  have h35 := kw35 (n := n) (m := (N, ds, ks)) (w := ws) (l := r.1) hn (A := (N, ds, ks)) (B := (P.1, P.2.1, P.2.2.1)) (C := (N, ds, ks)) (D := (F.1, F.2.1, F.2.2.1)) (E := (B.1, B.2.1, B.2.2.1)) (F := (N, ds, ks)) (G := (M.1, M.2.1, M.2.2.1)) (two := P.2.2.2) (four := F.2.2.2) (six := M.2.2.2) h39 hd hk (fun hs => by
    rcases mirror_cases' (n := n) (N := N) (ds := ds) (ks := ks) hn with h | ⟨z, hz, hz2⟩
    · obtain ⟨r', g1, g2, g3⟩ := mirror_val (n := n) (by omega) h
      rw [m4] at g3
      simp only [Option.some.injEq] at g3
      subst g3
      exact mirror_back (n := n) (by omega) h g1 g2
    · rw [m4] at hz
      cases hz
      rw [hz2] at hs
      cases hs)
  have bb : ∀ b : Bool, (!(b == b)) = false := fun b => by cases b <;> rfl
  have h31 : laws_FnKeyWalks.c31 n N ds ks ws r.1 N ds ks P.1 P.2.1 P.2.2.1 P.2.2.2 N ds ks N ds ks F.1 F.2.1 F.2.2.1 F.2.2.2 B.1 B.2.1 B.2.2.1 = some true := by
    unfold laws_FnKeyWalks.c31
    simp only [m3, m4, Option.bind_some, bb, Bool.false_eq_true, if_false, rMaze_self (n := n) (by omega) m1 m2, Bool.not_true]
    exact h35
  have h27 : laws_FnKeyWalks.c27 n N ds ks ws r.1 N ds ks P.1 P.2.1 P.2.2.1 P.2.2.2 N ds ks N ds ks st F.1 F.2.1 F.2.2.1 F.2.2.2 = some true := by
    unfold laws_FnKeyWalks.c27
    simp only [b3, b4, Option.bind_some, bb, Bool.false_eq_true, if_false, ← hflag.1, rMaze_self (n := n) (by omega) b1 b2, Bool.not_true]
    exact h31
  have h22 : laws_FnKeyWalks.c22 n cd N ds ks ws r.1 N ds ks P.1 P.2.1 P.2.2.1 P.2.2.2 N ds ks = some true := by
    unfold laws_FnKeyWalks.c22
    simp only [dF, f3, f4, Option.bind_some, bb, Bool.false_eq_true, if_false, rMaze_self (n := n) (by omega) f1 f2, Bool.not_true]
    exact h27
  have h17 : laws_FnKeyWalks.c17 n cd N ds ks ws r.1 N ds ks P.1 P.2.1 P.2.2.1 P.2.2.2 = some true := by
    unfold laws_FnKeyWalks.c17
    simp only [dN, o3, o4, Option.bind_some, bb, Bool.false_eq_true, if_false, rMaze_self (n := n) (by omega) o1 o2, Bool.not_true]
    exact h22
  have h12 : laws_FnKeyWalks.c12 n cd N ds ks ws r.1 = some true := by
    unfold laws_FnKeyWalks.c12
    simp only [dP, p3, p4, Option.bind_some, bb, Bool.false_eq_true, if_false, rMaze_self (n := n) (by omega) p1 p2, Bool.not_true]
    exact h17
  rw [dT, Option.bind_some]
  simp only [t1, t2, Option.bind_some, bb, Bool.false_eq_true, if_false, rInts_self (n := n) (by omega) hr1, Bool.not_true]
  unfold laws_FnKeyWalks.c8
  simp only [t3, t4, Option.bind_some, bb, Bool.false_eq_true, if_false]
  cases hq : q.2 with
  | true =>
    rw [hq] at t5
    simp only [if_true] at t5
    rw [t5]
    simp only [if_true, bb, Bool.false_eq_true, if_false]
    exact h12
  | false =>
    rw [hq] at t5
    simp only [Bool.false_eq_true, if_false] at t5
    rw [t5]
    simp only [Bool.false_eq_true, if_false, bb]
    exact h12
end
end Go.Pv
