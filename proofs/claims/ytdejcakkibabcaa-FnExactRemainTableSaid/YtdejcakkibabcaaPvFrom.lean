/- Plain laws: the least numbers of steps in which one can win, as the reference finds them round by round; they are the program's. -/
import Derived.Test.YtdejcakkibabcaaPvRem
import Derived.Test.YtdejcakkibabcaaPvNode
set_option linter.unusedVariables false
set_option linter.unusedSimpArgs false
set_option autoImplicit false
namespace Go.Pv
open Go Go.Fx Go.Pf

theorem setK_idem (ks : List Int) (s : Nat) (z : Int) : setK ks (setK ks s z) z = setK ks s z := by
  unfold setK
  rw [Nat.or_assoc, Nat.or_self]
/-- The set that one holds at a state's number. -/
def hK (ks : List Int) (p : Nat) : Nat := setK ks (p % 64) ((p / 64 : Nat) : Int)
/-- What a state's entry tells after so many rounds. -/
def PT (N : Int) (ds : List (Int × Int × Int)) (ks : List Int) (t p : Nat) (v : Int) : Prop :=
  (0 ≤ v ∧ v < (t : Int) ∧ Wn N ds ks v.toNat ((p / 64 : Nat) : Int) (hK ks p) ∧ ∀ k : Nat, Wn N ds ks k ((p / 64 : Nat) : Int) (hK ks p) → v ≤ (k : Int)) ∨
  (v = -1 ∧ ∀ k : Nat, k < t → ¬ Wn N ds ks k ((p / 64 : Nat) : Int) (hK ks p))
def Mid (N : Int) (ds : List (Int × Int × Int)) (ks : List Int) (t p : Nat) (g : List Int) : Prop :=
  ∀ q, q < g.length → PT N ds ks (if q < p then t + 1 else t) q (g.getD q 0)
theorem cneg_lt : ∀ {o : List Int} {i : Nat}, i < o.length → 0 ≤ o.getD i 0 → cneg o < o.length
  | [], i, h, _ => by simp at h
  | e :: o, 0, h, h1 => by
    simp only [List.getD_cons_zero] at h1
    have n1 : ¬ e < 0 := by omega
    have := cneg_le o
    simp only [cneg, List.countP_cons, n1, decide_false, Bool.false_eq_true, if_false, List.length_cons] at this ⊢
    omega
  | e :: o, i + 1, h, h1 => by
    have := cneg_lt (o := o) (i := i) (by simpa using h) (by simpa using h1)
    simp only [cneg, List.countP_cons, List.length_cons] at this ⊢
    split <;> omega

section
variable {n : Nat} {N : Int} {ds : List (Int × Int × Int)} {ks : List Int}
theorem wn_succ {k : Nat} {x : Int} {s : Nat} : Wn N ds ks (k + 1) x s ↔ ∃ z ∈ memL (stepsN ds x (s : Int)), Wn N ds ks k z (setK ks s z) := Iff.rfl
/-- Where a step leads. -/
theorem next_at (h : VM N ds ks) {p : Nat} {z : Int} (hz : z ∈ memL (stepsN ds ((p / 64 : Nat) : Int) (hK ks p : Int))) (hS : hK ks p < 64) :
    (idI z ((setK ks (hK ks p) z : Nat) : Int)).toNat < 64 * N.toNat ∧ (((idI z ((setK ks (hK ks p) z : Nat) : Int)).toNat / 64 : Nat) : Int) = z ∧ hK ks (idI z ((setK ks (hK ks p) z : Nat) : Int)).toNat = setK ks (hK ks p) z ∧ 0 ≤ idI z ((setK ks (hK ks p) z : Nat) : Int) := by
  have hzr := steps_mem h hz
  obtain ⟨_, o2⟩ := setK_val h hzr hS
  have h1 : (((idI z ((setK ks (hK ks p) z : Nat) : Int)).toNat / 64 : Nat) : Int) = z := by unfold idI; omega
  have h2 : (idI z ((setK ks (hK ks p) z : Nat) : Int)).toNat % 64 = setK ks (hK ks p) z := by unfold idI; omega
  refine ⟨by unfold idI; omega, h1, ?_, by unfold idI; omega⟩
  show setK ks ((idI z ((setK ks (hK ks p) z : Nat) : Int)).toNat % 64) (((idI z ((setK ks (hK ks p) z : Nat) : Int)).toNat / 64 : Nat) : Int) = _
  rw [h1, h2, setK_idem]
theorem hK_lt (h : VM N ds ks) {p : Nat} (hp : p < 64 * N.toNat) : hK ks p < 64 := by
  have h1 := h.n1
  exact (setK_val h (z := ((p / 64 : Nat) : Int)) ⟨by omega, by omega⟩ (s := p % 64) (Nat.mod_lt _ (by omega))).2
theorem step_iff (h : VM N ds ks) {t p : Nat} {g : List Int} (hg : g.length = 64 * N.toNat) (hp : p < g.length) (ht : 1 ≤ t) (hM : Mid N ds ks t p g) (hv : g.getD p 0 < 0) :
    (∃ z ∈ memL (stepsN ds ((p / 64 : Nat) : Int) (hK ks p : Int)), g.getD (idI z ((setK ks (hK ks p) z : Nat) : Int)).toNat 0 = (t : Int) - 1) ↔ Wn N ds ks t ((p / 64 : Nat) : Int) (hK ks p) := by
  obtain ⟨u, rfl⟩ : ∃ u, t = u + 1 := ⟨t - 1, by omega⟩
  have hS := hK_lt h (p := p) (by omega)
  have hno : ∀ k : Nat, k < u + 1 → ¬ Wn N ds ks k ((p / 64 : Nat) : Int) (hK ks p) := by
    have := hM p hp
    rw [if_neg (Nat.lt_irrefl p)] at this
    rcases this with ⟨h1, _⟩ | ⟨_, h2⟩
    · omega
    · exact h2
  rw [wn_succ]
  constructor
  · rintro ⟨z, hz, hgz⟩
    refine ⟨z, hz, ?_⟩
    obtain ⟨q1, q2, q3, _⟩ := next_at h hz hS
    have := hM _ (show _ < g.length by rw [hg]; exact q1)
    rw [hgz] at this
    rcases this with ⟨h1, h2, h3, h4⟩ | ⟨h1, _⟩
    · rw [q2, q3] at h3
      rw [show (((u + 1 : Nat) : Int) - 1).toNat = u by omega] at h3
      exact h3
    · omega
  · rintro ⟨z, hz, hw⟩
    refine ⟨z, hz, ?_⟩
    obtain ⟨q1, q2, q3, _⟩ := next_at h hz hS
    have := hM _ (show _ < g.length by rw [hg]; exact q1)
    generalize (idI z ((setK ks (hK ks p) z : Nat) : Int)).toNat = q at *
    rcases this with ⟨h1, h2, h3, h4⟩ | ⟨h1, h2⟩
    · rw [q2, q3] at h3 h4
      have hle := h4 u hw
      by_cases e : g.getD q 0 = (u : Int)
      · rw [e]; omega
      · exact absurd (wn_succ.2 ⟨z, hz, h3⟩) (hno _ (by omega))
    · rw [q2, q3] at h2
      exact absurd hw (h2 u (by split <;> omega))
theorem mid_set (h : VM N ds ks) {t p : Nat} {g : List Int} (hg : g.length = 64 * N.toNat) (hp : p < g.length) (ht : 1 ≤ t) (hM : Mid N ds ks t p g) (hv : g.getD p 0 < 0) (hw : Wn N ds ks t ((p / 64 : Nat) : Int) (hK ks p)) : Mid N ds ks t (p + 1) (g.set p (t : Int)) := by
  intro q hq
  have hq' : q < g.length := by simpa using hq
  by_cases e : q = p
  · subst e
    have hno := hM q hp
    rw [if_neg (Nat.lt_irrefl q)] at hno
    rw [if_pos (by omega), show (g.set q (t : Int)).getD q 0 = (t : Int) by simp [List.getD_eq_getElem?_getD, hp]]
    rcases hno with ⟨h1, _⟩ | ⟨_, h2⟩
    · omega
    · refine .inl ⟨by omega, by omega, by simpa using hw, fun k hk => ?_⟩
      rcases Nat.lt_or_ge k t with c | c
      · exact absurd hk (h2 k c)
      · omega
  · have e2 : ¬ p = q := fun z => e z.symm
    have := hM q hq'
    rw [show (g.set p (t : Int)).getD q 0 = g.getD q 0 by simp [List.getD_eq_getElem?_getD, e2]]
    by_cases c : q < p
    · rw [if_pos c] at this
      rw [if_pos (by omega)]
      exact this
    · rw [if_neg c] at this
      rw [if_neg (by omega)]
      exact this
theorem mid_keep {t p : Nat} {g : List Int} (hM : Mid N ds ks t p g) (hp : p < g.length) (hk : 0 ≤ g.getD p 0 ∨ ¬ Wn N ds ks t ((p / 64 : Nat) : Int) (hK ks p)) : Mid N ds ks t (p + 1) g := by
  intro q hq
  have := hM q hq
  by_cases e : q = p
  · subst e
    rw [if_neg (Nat.lt_irrefl q)] at this
    rw [if_pos (by omega)]
    rcases this with ⟨h1, h2, h3, h4⟩ | ⟨h1, h2⟩
    · exact .inl ⟨h1, by omega, h3, h4⟩
    · refine .inr ⟨h1, fun k hk' => ?_⟩
      rcases Nat.lt_or_ge k t with c | c
      · exact h2 k c
      · have : k = t := by omega
        subst this
        exact hk.resolve_left (by omega)
  · by_cases c : q < p
    · rw [if_pos c] at this
      rw [if_pos (by omega)]
      exact this
    · rw [if_neg c] at this
      rw [if_neg (by omega)]
      exact this

/-! ### The reference's rounds -/
theorem rem6_pos {K : Int → List (Int × Int × Int) → List Int → List Int → Int → Bool → Int → Option (List Int)} {g zs : List Int} {p : Nat} {t : Int} {b : Bool} (hp : p < g.length) (hv : 0 ≤ g.getD p 0) (j c : Nat) (hj : 0 < j) :
    spec_l4Remain.l6 n K j N ds ks g t b p zs c = K N ds ks g t b p := by
  obtain ⟨i, rfl⟩ : ∃ i, j = i + 1 := ⟨j - 1, by omega⟩
  unfold spec_l4Remain.l6
  have e : ((p : Nat) : Int).toNat = p := by omega
  split
  · rw [if_pos ⟨by omega, by omega⟩, e, if_neg (by simp only [decide_eq_true_eq]; omega)]
  · rfl
open Classical in
theorem rem6 {K : Int → List (Int × Int × Int) → List Int → List Int → Int → Bool → Int → Option (List Int)} {g zs : List Int} {p t : Nat} {b : Bool} (hp : p < g.length) (ht : 1 ≤ t) (ht2 : t ≤ 1000) (hzl : zs.length ≤ 1000) (hz : ∀ z ∈ zs, 0 ≤ z ∧ z.toNat < g.length) :
    ∀ (j c : Nat), zs.length - c < j → c ≤ zs.length → spec_l4Remain.l6 n K j N ds ks g t b p zs c = if g.getD p 0 < 0 ∧ ∃ z ∈ zs.drop c, g.getD z.toNat 0 = (t : Int) - 1 then K N ds ks (g.set p (t : Int)) t true p else K N ds ks g t b p
  | 0, c, h, _ => by omega
  | j + 1, c, h, hc => by
    unfold spec_l4Remain.l6
    have e : ((p : Nat) : Int).toNat = p := by omega
    by_cases cc : (c : Int) < (zs.length : Int)
    · have ci : c < zs.length := by omega
      have ec : ((c : Nat) : Int).toNat = c := by omega
      have hzc := hz _ (getD_mem (d := (0 : Int)) ci)
      have hdrop := getD_drop (d := (0 : Int)) ci
      rw [if_pos (by simpa using cc), if_pos ⟨by omega, by omega⟩, e]
      by_cases hv : g.getD p 0 < 0
      · rw [if_pos (by simpa using hv), if_pos ⟨by omega, cc⟩, ec, hdrop]
        generalize zs.getD c 0 = z at *
        rw [if_pos ⟨hzc.1, by omega⟩, w64s (x := (t : Int) - 1) (by omega) (by omega), w64s (x := (c : Int) + 1) (by omega) (by omega), show ((c : Int) + 1) = ((c + 1 : Nat) : Int) by omega]
        by_cases q : g.getD z.toNat 0 = (t : Int) - 1
        · rw [if_pos (by simpa using q), if_pos ⟨by omega, by omega⟩, if_pos ⟨hv, z, by simp, q⟩]
          exact rem6_pos (by simpa using hp) (by simp [List.getD_eq_getElem?_getD, hp]) j (c + 1) (by omega)
        · rw [if_neg (by simpa using q), rem6 hp ht ht2 hzl hz j (c + 1) (by omega) (by omega)]
          have key : (g.getD p 0 < 0 ∧ ∃ z ∈ zs.drop (c + 1), g.getD z.toNat 0 = (t : Int) - 1) ↔ (g.getD p 0 < 0 ∧ ∃ y ∈ z :: zs.drop (c + 1), g.getD y.toNat 0 = (t : Int) - 1) := by
            simp only [List.mem_cons]
            constructor
            · rintro ⟨h1, y, h2, h3⟩; exact ⟨h1, y, .inr h2, h3⟩
            · rintro ⟨h1, y, rfl | h2, h3⟩
              · exact absurd h3 q
              · exact ⟨h1, y, h2, h3⟩
          by_cases k : g.getD p 0 < 0 ∧ ∃ z ∈ zs.drop (c + 1), g.getD z.toNat 0 = (t : Int) - 1
          · rw [if_pos k, if_pos (key.1 k)]
          · rw [if_neg k, if_neg fun z => k (key.2 z)]
      · rw [if_neg (by simpa using hv), if_neg fun q => hv q.1]
    · rw [if_neg (by simpa using cc), List.drop_of_length_le (by omega), if_neg (by simp)]
theorem rem4 (hn : 2000 ≤ n) (h : VM N ds ks) {t : Nat} (ht : 1 ≤ t) (ht2 : t ≤ 1000) {K : Int → List (Int × Int × Int) → List Int → List Int → Int → Bool → Option (List Int)} : ∀ (j p : Nat) (g : List Int) (b : Bool), 64 * N.toNat - p < j → p ≤ 64 * N.toNat → g.length = 64 * N.toNat → Mid N ds ks t p g →
    ∃ g' b', g'.length = 64 * N.toNat ∧ Mid N ds ks t (64 * N.toNat) g' ∧ ((g' = g ∧ b' = b) ∨ (cneg g' < cneg g ∧ b' = true)) ∧ spec_l4Remain.l4 n K j N ds ks g t b p = K N ds ks g' t b'
  | 0, p, g, b, hj, _, _, _ => by omega
  | j + 1, p, g, b, hj, hp, hg, hM => by
    classical
    have h1 := h.n1
    have h2 := h.n2
    have hkl := h.kl
    unfold spec_l4Remain.l4
    by_cases c : (p : Int) < (g.length : Int)
    · have hpl : p < g.length := by omega
      have hS := hK_lt h (p := p) (by omega)
      have e1 : IntKind.wrap .i64 (Int.tdiv (p : Int) 64) = ((p / 64 : Nat) : Int) := by
        rw [Int.tdiv_eq_ediv_of_nonneg (by omega), w64s (by omega) (by omega)]; omega
      have e2 : Int.tmod (p : Int) 64 = ((p % 64 : Nat) : Int) := by
        rw [Int.tmod_eq_emod_of_nonneg (by omega)]; omega
      obtain ⟨o1, o2⟩ := setK_val h (z := ((p / 64 : Nat) : Int)) ⟨by omega, by omega⟩ (s := p % 64) (Nat.mod_lt _ (by omega))
      have o1' : bitOr .i64 ((p % 64 : Nat) : Int) (ks.getD ((p / 64 : Nat) : Int).toNat 0) = ((hK ks p : Nat) : Int) := o1
      rw [if_pos (by simpa using c), e1, e2, if_pos ⟨by omega, by omega⟩, o1', l4Step_eq (by omega) h _ hS, Option.bind_some]
      have hlen : ((memL (stepsN ds ((p / 64 : Nat) : Int) (hK ks p : Int))).map fun z => idI z ((setK ks (hK ks p) z : Nat) : Int)).length ≤ 1000 := by
        rw [List.length_map]
        exact Nat.le_trans (memL_length _) (by omega)
      have h6 := rem6 (n := n) (N := N) (ds := ds) (ks := ks) (K := fun y6 y7 y8 y9 y10 y11 y12 => spec_l4Remain.l4 n K j y6 y7 y8 y9 y10 y11 (IntKind.wrap .i64 (y12 + (1 : Int)))) (g := g)
        (zs := (memL (stepsN ds ((p / 64 : Nat) : Int) (hK ks p : Int))).map fun z => idI z ((setK ks (hK ks p) z : Nat) : Int)) (p := p) (t := t) (b := b) hpl ht ht2 hlen
        (fun z hz => by
          obtain ⟨y, hy, rfl⟩ := List.mem_map.1 hz
          obtain ⟨q1, _, _, q4⟩ := next_at h hy hS
          exact ⟨q4, by omega⟩) n 0 (by omega) (by omega)
      rw [show ((0 : Nat) : Int) = 0 from rfl] at h6
      rw [h6]
      have ew : IntKind.wrap .i64 ((p : Int) + 1) = ((p + 1 : Nat) : Int) := by rw [w64s (by omega) (by omega)]; omega
      have hj' : 64 * N.toNat - (p + 1) < j := by omega
      have hp' : p + 1 ≤ 64 * N.toNat := by omega
      have hex : (∃ z ∈ ((memL (stepsN ds ((p / 64 : Nat) : Int) (hK ks p : Int))).map fun z => idI z ((setK ks (hK ks p) z : Nat) : Int)).drop 0, g.getD z.toNat 0 = (t : Int) - 1) ↔
          ∃ z ∈ memL (stepsN ds ((p / 64 : Nat) : Int) (hK ks p : Int)), g.getD (idI z ((setK ks (hK ks p) z : Nat) : Int)).toNat 0 = (t : Int) - 1 := by
        rw [List.drop_zero]
        constructor
        · rintro ⟨z, hz, q⟩
          obtain ⟨y, hy, rfl⟩ := List.mem_map.1 hz
          exact ⟨y, hy, q⟩
        · rintro ⟨y, hy, q⟩
          exact ⟨_, List.mem_map.2 ⟨y, hy, rfl⟩, q⟩
      by_cases hv : g.getD p 0 < 0
      · have hiff := step_iff h hg hpl ht hM hv
        by_cases hw : Wn N ds ks t ((p / 64 : Nat) : Int) (hK ks p)
        · rw [if_pos ⟨hv, hex.2 (hiff.2 hw)⟩, ew]
          clear hex hiff
          have hc := cneg_set g p (t : Int) hpl hv (by omega)
          obtain ⟨g', b', r1, r2, r3, r4⟩ := rem4 hn h ht ht2 (K := K) j (p + 1) (g.set p (t : Int)) true hj' hp' (by simpa using hg) (mid_set h hg hpl ht hM hv hw)
          refine ⟨g', b', r1, r2, .inr ?_, r4⟩
          rcases r3 with ⟨r3, r5⟩ | ⟨r3, r5⟩
          · subst r3; exact ⟨by omega, r5⟩
          · exact ⟨by omega, r5⟩
        · rw [if_neg fun q => hw (hiff.1 (hex.1 q.2)), ew]
          exact rem4 hn h ht ht2 (K := K) j (p + 1) g b hj' hp' hg (mid_keep hM hpl (.inr hw))
      · rw [if_neg fun q => hv q.1, ew]
        exact rem4 hn h ht ht2 (K := K) j (p + 1) g b hj' hp' hg (mid_keep hM hpl (.inl (Int.not_lt.1 hv)))
    · rw [if_neg (by simpa using c)]
      have : p = 64 * N.toNat := by omega
      subst this
      exact ⟨g, b, hg, hM, .inl ⟨rfl, rfl⟩, rfl⟩
/-- Where a round changes nothing, nothing more can be won. -/
theorem still (h : VM N ds ks) {t : Nat} {g : List Int} (hg : g.length = 64 * N.toNat) (h0 : Mid N ds ks t 0 g) (h1 : Mid N ds ks t (64 * N.toNat) g) : ∀ (k q : Nat), q < g.length → g.getD q 0 = -1 → ¬ Wn N ds ks k ((q / 64 : Nat) : Int) (hK ks q) := by
  have no : ∀ q, q < g.length → g.getD q 0 = -1 → ∀ k : Nat, k < t + 1 → ¬ Wn N ds ks k ((q / 64 : Nat) : Int) (hK ks q) := by
    intro q hq hv
    have := h1 q hq
    rw [if_pos (by omega)] at this
    rcases this with ⟨r1, _⟩ | ⟨_, r2⟩
    · omega
    · exact r2
  intro k
  induction k with
  | zero => intro q hq hv; exact no q hq hv 0 (by omega)
  | succ k ih =>
    intro q hq hv hw
    rcases Nat.lt_or_ge (k + 1) (t + 1) with c | c
    · exact no q hq hv _ c hw
    · obtain ⟨z, hz, hw'⟩ := wn_succ.1 hw
      obtain ⟨q1, q2, q3, _⟩ := next_at h hz (hK_lt h (p := q) (by omega))
      have hr := h0 _ (show _ < g.length by rw [hg]; exact q1)
      rw [if_neg (by omega)] at hr
      have ih' := ih _ (show _ < g.length by rw [hg]; exact q1)
      generalize (idI z ((setK ks (hK ks q) z : Nat) : Int)).toNat = r at *
      rcases hr with ⟨r1, r2, r3, r4⟩ | ⟨r1, _⟩
      · rw [q2, q3] at r3
        exact no q hq hv _ (by omega) (wn_succ.2 ⟨z, hz, r3⟩)
      · rw [q2, q3] at ih'
        exact ih' r1 hw'
theorem rem2 (hn : 2000 ≤ n) (h : VM N ds ks) : ∀ (j t : Nat) (g : List Int), 64 * N.toNat - t < j → 1 ≤ t → t ≤ 64 * N.toNat → g.length = 64 * N.toNat → Mid N ds ks t 0 g → cneg g + t ≤ 64 * N.toNat →
    ∃ g', spec_l4Remain.l2 n (fun y => some y) j N ds ks g t = some g' ∧ g'.length = 64 * N.toNat ∧ ∀ q, q < 64 * N.toNat → IsRem N ds ks ((q / 64 : Nat) : Int) (hK ks q) (g'.getD q 0)
  | 0, t, g, hj, _, _, _, _, _ => by omega
  | j + 1, t, g, hj, ht, htL, hg, hM, hc => by
    have h1 := h.n1
    have h2 := h.n2
    unfold spec_l4Remain.l2
    by_cases c : (t : Int) < (g.length : Int)
    · rw [if_pos (by simpa using c)]
      obtain ⟨g', b', r1, r2, r3, r4⟩ := rem4 (n := n) hn h ht (by omega) (K := fun y13 y14 y15 y16 y17 y18 =>
        if (!y18) = true then
          some y16
        else
          spec_l4Remain.l2 n (fun y => some y) j y13 y14 y15 y16 (IntKind.wrap .i64 (y17 + (1 : Int)))) n 0 g false (by omega) (by omega) hg hM
      rw [show ((0 : Nat) : Int) = 0 from rfl] at r4
      rw [r4]
      rcases r3 with ⟨rfl, rfl⟩ | ⟨r3, rfl⟩
      · refine ⟨g', rfl, r1, fun q hq => ?_⟩
        have hq' : q < g'.length := by omega
        have hs := still h hg hM r2
        have := hM q hq'
        rw [if_neg (by omega)] at this
        rcases this with ⟨k1, k2, k3, k4⟩ | ⟨k1, k2⟩
        · exact .inl ⟨k1, k3, k4⟩
        · exact .inr ⟨k1, fun k => hs k q hq' k1⟩
      · simp only [Bool.not_true, Bool.false_eq_true, if_false]
        rw [w64s (by omega) (by omega), show ((t : Int) + 1) = ((t + 1 : Nat) : Int) by omega]
        refine rem2 hn h j (t + 1) g' (by omega) (by omega) (by omega) r1 (fun q hq => ?_) (by omega)
        have := r2 q hq
        rw [if_pos (by omega)] at this
        rw [if_neg (by omega)]
        exact this
    · rw [if_neg (by simpa using c)]
      refine ⟨g, rfl, hg, fun q hq => ?_⟩
      have hz : cneg g = 0 := by omega
      have := hM q (by omega)
      rw [if_neg (by omega)] at this
      rcases this with ⟨k1, k2, k3, k4⟩ | ⟨k1, k2⟩
      · exact .inl ⟨k1, k3, k4⟩
      · exfalso
        have hlt : q < g.length := by omega
        have := cneg_set g q 0 hlt (by omega) (by omega)
        omega
theorem rem0 (hn : 2000 ≤ n) (h : VM N ds ks) {K : Int → List (Int × Int × Int) → List Int → List Int → Option (List Int)} : ∀ (j i : Nat) (g : List Int), 64 * N.toNat - i < j → i ≤ 64 * N.toNat → g.length = 64 * N.toNat → (∀ q, q < i → g.getD q 0 = if ((q / 64 : Nat) : Int) = N - 1 then 0 else -1) →
    ∃ g', g'.length = 64 * N.toNat ∧ (∀ q, q < 64 * N.toNat → g'.getD q 0 = if ((q / 64 : Nat) : Int) = N - 1 then 0 else -1) ∧ spec_l4Remain.l0 n K j N ds ks g i = K N ds ks g'
  | 0, i, g, hj, _, _, _ => by omega
  | j + 1, i, g, hj, hi, hg, hq => by
    have h1 := h.n1
    have h2 := h.n2
    unfold spec_l4Remain.l0
    by_cases c : (i : Int) < (g.length : Int)
    · have e1 : IntKind.wrap .i64 (Int.tdiv (i : Int) 64) = ((i / 64 : Nat) : Int) := by
        rw [Int.tdiv_eq_ediv_of_nonneg (by omega), w64s (by omega) (by omega)]; omega
      have eN : IntKind.wrap .i64 (N - 1) = N - 1 := w64s (by omega) (by omega)
      have ew : IntKind.wrap .i64 ((i : Int) + 1) = ((i + 1 : Nat) : Int) := by rw [w64s (by omega) (by omega)]; omega
      have ei : ((i : Nat) : Int).toNat = i := by omega
      have hil : i < g.length := by omega
      rw [if_pos (by simpa using c), if_pos ⟨by omega, c⟩, e1, eN, ew, ei]
      have other : ∀ (v : Int) (g2 : List Int), g2.length = g.length → g2.getD i 0 = v → (∀ q, q ≠ i → g2.getD q 0 = g.getD q 0) → (v = if ((i / 64 : Nat) : Int) = N - 1 then 0 else -1) → ∀ q, q < i + 1 → g2.getD q 0 = if ((q / 64 : Nat) : Int) = N - 1 then 0 else -1 := by
        intro v g2 _ h3 h4 h5 q hq'
        by_cases e : q = i
        · subst e; rw [h3, h5]
        · rw [h4 q e]; exact hq q (by omega)
      by_cases d : ((i / 64 : Nat) : Int) = N - 1
      · rw [if_pos (by simpa using d), if_pos ⟨by omega, by simpa using c⟩]
        refine rem0 hn h j (i + 1) _ (by omega) (by omega) (by simpa using hg) (other 0 _ (by simp) (by simp [List.getD_eq_getElem?_getD, hil]) (fun q hq' => ?_) (by rw [if_pos d]))
        have e2 : ¬ i = q := fun z => hq' z.symm
        simp [List.getD_eq_getElem?_getD, e2]
      · rw [if_neg (by simpa using d)]
        refine rem0 hn h j (i + 1) _ (by omega) (by omega) (by simpa using hg) (other (-1) _ (by simp) (by simp [List.getD_eq_getElem?_getD, hil]) (fun q hq' => ?_) (by rw [if_neg d]))
        have e2 : ¬ i = q := fun z => hq' z.symm
        simp [List.getD_eq_getElem?_getD, e2]
    · rw [if_neg (by simpa using c)]
      have : i = 64 * N.toNat := by omega
      subst this
      exact ⟨g, hg, hq, rfl⟩
theorem remainS_val (hn : 2000 ≤ n) (h : VM N ds ks) : ∃ g, spec_l4Remain.F n N ds ks = some g ∧ g.length = 64 * N.toNat ∧ ∀ q, q < 64 * N.toNat → IsRem N ds ks ((q / 64 : Nat) : Int) (hK ks q) (g.getD q 0) := by
  have h1 := h.n1
  have h2 := h.n2
  unfold spec_l4Remain.F
  rw [w64s (by omega) (by omega), if_pos ⟨by omega, by omega, by omega⟩, show (N * 64).toNat = 64 * N.toNat by omega]
  obtain ⟨g, r1, r2, r3⟩ := rem0 (n := n) hn h (K := fun y1 y2 y3 y4 => spec_l4Remain.l2 n (fun y19 => some y19) n y1 y2 y3 y4 (1 : Int)) n 0 (List.replicate (64 * N.toNat) 0) (by omega) (by omega) (by simp) (fun q hq => by omega)
  rw [show ((0 : Nat) : Int) = 0 from rfl] at r3
  rw [r3]
  have hM : Mid N ds ks 1 0 g := by
    intro q hq
    rw [if_neg (by omega), r2 q (by omega)]
    by_cases d : ((q / 64 : Nat) : Int) = N - 1
    · rw [if_pos d]
      exact .inl ⟨by omega, by omega, d, fun k _ => by omega⟩
    · rw [if_neg d]
      refine .inr ⟨rfl, fun k hk => ?_⟩
      have : k = 0 := by omega
      subst this
      exact d
  have hc : cneg g < g.length := cneg_lt (i := 64 * (N.toNat - 1)) (by omega) (by
    rw [r2 _ (by omega), if_pos (by omega)]
    omega)
  exact rem2 hn h n 1 g (by omega) (by omega) (by omega) r1 hM (by omega)
end
end Go.Pv
