/- Plain laws: a maze that is mirrored twice is as it was. -/
import Derived.Test.YtoppnaekfjjaaaaGreatPvTurn
set_option linter.unusedVariables false
set_option linter.unusedSimpArgs false
set_option autoImplicit false
namespace Go.Pv
open Go Go.Fx Go.Pf

theorem upF_get : ∀ (m : Nat) (a : Int) (t : Nat), t < m → (upF a m).getD t 0 = a + t
  | 0, a, t, h => by omega
  | m + 1, a, 0, h => by simp [upF]
  | m + 1, a, t + 1, h => by
    show (upF (a + 1) m).getD t 0 = _
    rw [upF_get m (a + 1) t (by omega)]
    omega
theorem rev_get {m t : Nat} (h : t < m) : ((upF 0 m).reverse).getD t 0 = (m : Int) - 1 - t := by
  have hl : (upF 0 m).length = m := upF_len m 0
  rw [List.getD_eq_getElem?_getD, List.getElem?_reverse (by omega), ← List.getD_eq_getElem?_getD, hl, upF_get m 0 _ (by omega)]
  omega
section
variable {n : Nat} {N : Int} {ds : List Door} {ks : List Int}
theorem mirK_l2 {K' : Int → List Door → List Int → Int → List Door → List Int → Option (Int × List Door × List Int)} {to : List Int} {a' p' : Int} {b' q' : List Door} {c' : List Int} (hN : (ks.length : Int) = N) (hk : ks.length ≤ 12) (hto : (to.length : Int) = N) (ht : ∀ t, t < ks.length → to.getD t 0 = (ks.length : Int) - 1 - t) :
    ∀ (f i : Nat) (o : List Int), ks.length - i < f → i ≤ ks.length → o.length = ks.length →
    ∃ r, r.length = ks.length ∧ (∀ x, x < ks.length → r.getD x 0 = if i ≤ ks.length - 1 - x then ks.getD (ks.length - 1 - x) 0 else o.getD x 0) ∧ impl_numbered.l2 n K' f to a' b' c' p' q' o ks ks.length i = K' a' b' c' p' q' r
  | 0, i, o, hf, _, _ => by omega
  | f + 1, i, o, hf, hi, ho => by
    rw [impl_numbered.l2]
    by_cases cc : i < ks.length
    · have k1 : decide ((i : Int) < (ks.length : Int)) = true := by rw [decide_eq_true_eq]; omega
      have k2 : 0 ≤ (i : Int) ∧ (i : Int) < (ks.length : Int) := ⟨by omega, by omega⟩
      have k3 : 0 ≤ (i : Int) ∧ (i : Int) < (to.length : Int) := ⟨by omega, by omega⟩
      have wi : IntKind.wrap .i64 ((i : Int) + 1) = ((i + 1 : Nat) : Int) := by rw [w64s (by omega) (by omega)]; omega
      have hti := ht i cc
      have k4 : 0 ≤ to.getD i 0 ∧ to.getD i 0 < (o.length : Int) := by omega
      simp only [if_pos k1, if_pos k2, if_pos k3, Int.toNat_natCast, if_pos k4, wi]
      obtain ⟨r, r1, r2, r3⟩ := mirK_l2 (K' := K') (to := to) (a' := a') (p' := p') (b' := b') (q' := q') (c' := c') hN hk hto ht f (i + 1) (o.set (to.getD i 0).toNat (ks.getD i 0)) (by omega) (by omega) (by rw [List.length_set]; exact ho)
      refine ⟨r, r1, fun x hx => ?_, r3⟩
      rw [r2 x hx]
      by_cases e : x = ks.length - 1 - i
      · have e1 : (to.getD i 0).toNat = x := by omega
        have e2 : ks.length - 1 - x = i := by omega
        rw [if_neg (by omega), if_pos (by omega), e1, e2]
        exact set_getD' (by omega)
      · have e1 : (to.getD i 0).toNat ≠ x := by omega
        by_cases g : i + 1 ≤ ks.length - 1 - x
        · rw [if_pos g, if_pos (by omega)]
        · rw [if_neg g, if_neg (by omega)]
          exact getD_set_ne _ _ _ e1
    · rw [if_neg (by rw [decide_eq_true_eq]; omega)]
      refine ⟨o, ho, fun x hx => ?_, rfl⟩
      rw [if_neg (by omega)]
/-- The order of a mirrored maze. -/
def mirO (N : Int) : List Int := (upF 0 N.toNat).reverse
theorem mirO_get (h : VM N ds ks) {x : Int} (hx : 0 ≤ x ∧ x < N) : (mirO N).getD x.toNat 0 = N - 1 - x := by
  unfold mirO
  rw [rev_get (by omega)]
  omega
theorem mirror_val (hn : 1048578 ≤ n) (h : VM N ds ks) : ∃ r, r.length = ks.length ∧ (∀ x, x < ks.length → r.getD x 0 = ks.getD (ks.length - 1 - x) 0) ∧ impl_MirrorMaze.F n N ds ks = some (N, tidyL (ds.map (renD (mirO N))), r, true) := by
  classical
  have h1 := h.n1
  have h2 := h.n2
  have hd := h.dl
  have hkl := h.kl
  have hv : decide (VM N ds ks) = true := by simp [h]
  have ho : Ord (mirO N) N := ord_mirror h1
  have hto := ho.2
  have hdoor : ∀ d ∈ ds, (0 ≤ d.1 ∧ d.1 < ((mirO N).length : Int)) ∧ (0 ≤ d.2.1 ∧ d.2.1 < ((mirO N).length : Int)) := by
    intro d hd
    have := h.door d hd
    omega
  obtain ⟨r, t1, t2, t3⟩ := mirK_l2 (n := n) (K' := fun y12 y13 y14 y15 y16 y17 =>
      (impl_tidy.F n y15 y16 y17).bind fun r18 =>
      some (r18.1, r18.2.1, r18.2.2)) (to := mirO N) (N := N) (a' := 0) (p' := N) (b' := []) (q' := ds.map (renD (mirO N))) (ks := ks) (c' := []) hkl (by omega) hto (fun t ht => by
        have := mirO_get h (x := (t : Int)) ⟨by omega, by omega⟩
        rw [Int.toNat_natCast] at this
        rw [this]
        omega) n 0 ks (by omega) (by omega) rfl
  have e1 := numD_l0 (n := n) (K := fun y2 y3 y4 y5 y6 y7 y8 y9 y10 y11 =>
    impl_numbered.l2 n (fun y12 y13 y14 y15 y16 y17 =>
      (impl_tidy.F n y15 y16 y17).bind fun r18 =>
      some (r18.1, r18.2.1, r18.2.2)) n y2 y6 y7 y8 y9 y10 y11 y5 (y5.length : Int) (0 : Int)) (to := mirO N) (N := N) (a := 0) (p := N) (b := []) (ds := ds) (ks := ks) (c := []) (o := ks) (by omega) hdoor n 0 (by omega) (by omega)
  simp only [Int.natCast_zero, List.take_zero, List.map_nil, List.nil_append, List.drop_zero] at e1 t3
  have hnum : impl_numbered.F n N ds ks (mirO N) = some (N, tidyL (ds.map (renD (mirO N))), r) := by
    unfold impl_numbered.F
    rw [ownE (by omega) (by omega), Option.bind_some, e1, t3, tidy_eq (by simp; omega) (by simp; omega), Option.bind_some]
    rfl
  refine ⟨r, t1, fun x hx => ?_, ?_⟩
  · rw [t2 x hx, if_pos (by omega)]
  · unfold impl_MirrorMaze.F
    rw [IsMaze_val (by omega), Option.bind_some, hv]
    simp only [Bool.not_true, Bool.false_eq_true, if_false]
    rw [counting_eq (by omega) (by omega) (by omega), Option.bind_some, reverse_up (by omega) h1 h2, Option.bind_some]
    show (impl_numbered.F n N ds ks (mirO N)).bind _ = _
    rw [hnum]
    rfl
/-- A mirrored door. -/
def mirD (N : Int) (d : Door) : Door := (N - 1 - d.2.1, N - 1 - d.1, d.2.2)
theorem mir_door (h : VM N ds ks) {d : Door} (hd : d ∈ ds) : nrm (renD (mirO N) d) = mirD N d := by
  have hr := h.door d hd
  have e1 := mirO_get h (x := d.1) ⟨hr.1, by omega⟩
  have e2 := mirO_get h (x := d.2.1) ⟨by omega, hr.2.2.1⟩
  unfold renD nrm mirD
  simp only [e1, e2]
  rw [if_pos (by omega), if_neg (by omega)]
theorem mir_vm (h : VM N ds ks) {r : List Int} (hl : r.length = ks.length) (hr : ∀ x, x < ks.length → r.getD x 0 = ks.getD (ks.length - 1 - x) 0) : VM N (tidyL (ds.map (renD (mirO N)))) r ∧ ∀ e, e ∈ tidyL (ds.map (renD (mirO N))) ↔ ∃ d ∈ ds, e = mirD N d := by
  have hkl := h.kl
  have hm : ∀ e, e ∈ tidyL (ds.map (renD (mirO N))) ↔ ∃ d ∈ ds, e = mirD N d := by
    intro e
    rw [tidyL_mem]
    constructor
    · rintro ⟨_, hm, rfl⟩
      obtain ⟨d, hd, rfl⟩ := List.mem_map.1 hm
      exact ⟨d, hd, mir_door h hd⟩
    · rintro ⟨d, hd, rfl⟩
      exact ⟨_, List.mem_map.2 ⟨d, hd, rfl⟩, mir_door h hd⟩
  refine ⟨⟨h.n1, h.n2, ?_, by rw [hl]; exact hkl, fun e he => ?_, lexS_at (tidyL_lex _), fun k hk => ?_⟩, hm⟩
  · have := tidyL_len (ds.map (renD (mirO N)))
    rw [List.length_map] at this
    exact Nat.le_trans this h.dl
  · obtain ⟨d, hd, rfl⟩ := (hm e).1 he
    have := h.door d hd
    unfold mirD
    simp only
    omega
  · obtain ⟨i, hi, rfl⟩ := List.mem_iff_getElem.1 hk
    have e := hr i (by omega)
    rw [List.getD_eq_getElem?_getD, List.getElem?_eq_getElem hi] at e
    simp only [Option.getD_some] at e
    rw [e]
    exact h.keys _ (getD_mem (by omega))
theorem mirror_back (hn : 1048578 ≤ n) (h : VM N ds ks) {r : List Int} (hl : r.length = ks.length) (hr : ∀ x, x < ks.length → r.getD x 0 = ks.getD (ks.length - 1 - x) 0) : impl_MirrorMaze.F n N (tidyL (ds.map (renD (mirO N)))) r = some (N, ds, ks, true) := by
  obtain ⟨hv, hm⟩ := mir_vm h hl hr
  obtain ⟨r2, s1, s2, s3⟩ := mirror_val hn hv
  obtain ⟨_, hm2⟩ := mir_vm hv s1 s2
  have e1 : tidyL ((tidyL (ds.map (renD (mirO N)))).map (renD (mirO N))) = ds := by
    refine lex_ext (tidyL_lex _) (lexS_of h.sorted) fun x => ?_
    rw [hm2]
    have inv : ∀ d : Door, mirD N (mirD N d) = d := fun d => by
      unfold mirD
      obtain ⟨a, b, c⟩ := d
      simp only [Prod.mk.injEq, and_true]
      omega
    constructor
    · rintro ⟨e, he, rfl⟩
      obtain ⟨d, hd, rfl⟩ := (hm e).1 he
      rw [inv]
      exact hd
    · intro hx
      exact ⟨mirD N x, (hm _).2 ⟨x, hx, rfl⟩, (inv x).symm⟩
  have e2 : r2 = ks := by
    apply List.ext_getElem (by omega)
    intro i h1 h2
    have a := s2 i (by omega)
    rw [hl] at a
    have b := hr (ks.length - 1 - i) (by omega)
    rw [show ks.length - 1 - (ks.length - 1 - i) = i by omega] at b
    rw [b] at a
    simpa [List.getD_eq_getElem?_getD, h1, h2] using a
  rw [s3, e1, e2]
end
end Go.Pv
