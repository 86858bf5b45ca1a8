/- Plain laws: the table of steps from a state tells the least numbers of steps. -/
import Derived.Test.YtdejcakkibabcaaPvDistB
set_option linter.unusedVariables false
set_option linter.unusedSimpArgs false
set_option autoImplicit false
namespace Go.Pv
open Go Go.Fx Go.Pf

/-- A state is reached in just so many steps. -/
def Rn (ds : List (Int × Int × Int)) (ks : List Int) (x0 : Int) (s0 : Nat) : Nat → Int → Nat → Prop
  | 0, z, t => z = x0 ∧ t = s0
  | k + 1, z, t => ∃ (y : Int) (s : Nat), Rn ds ks x0 s0 k y s ∧ z ∈ memL (stepsN ds y (s : Int)) ∧ t = setK ks s z
/-- The entry of a state's number. -/
def En (o : List Int) (q : Int) : Int := o.getD q.toNat 0
theorem En_set {o : List Int} {r q : Int} {v : Int} (h : r.toNat ≠ q.toNat) : En (o.set r.toNat v) q = En o q := by
  unfold En
  exact getD_set_ne _ _ _ h
theorem En_set_same {o : List Int} {r v : Int} (h : r.toNat < o.length) : En (o.set r.toNat v) r = v := by
  unfold En
  exact set_getD' h
structure Bf (P : Nat → Int → Prop) (L : Nat) (o Q : List Int) (i : Nat) : Prop where
  len : o.length = L
  low : ∀ e ∈ o, -1 ≤ e ∧ e + (cneg o : Int) ≤ 768
  cnt : Q.length + cneg o = L
  inQ : ∀ q ∈ Q, 0 ≤ q ∧ q.toNat < L ∧ 0 ≤ En o q
  vis : ∀ p : Nat, p < L → 0 ≤ o.getD p 0 → (p : Int) ∈ Q
  mono : ∀ a b : Nat, a ≤ b → b < Q.length → En o (Q.getD a 0) ≤ En o (Q.getD b 0)
  top : i < Q.length → ∀ b : Nat, b < Q.length → En o (Q.getD b 0) ≤ En o (Q.getD i 0) + 1
  snd : ∀ q ∈ Q, P (En o q).toNat q
theorem Bf.new {P : Nat → Int → Prop} {L : Nat} {o Q : List Int} {i : Nat} (h : Bf P L o Q i) (hL : L ≤ 768) (hi : i < Q.length) {r : Int} (hr : 0 ≤ r ∧ r.toNat < L) (hn : En o r < 0) (hP : ∀ k, P k (Q.getD i 0) → P (k + 1) r) :
    Bf P L (o.set r.toNat (En o (Q.getD i 0) + 1)) (Q ++ [r]) i ∧ ∀ q ∈ Q, En (o.set r.toNat (En o (Q.getD i 0) + 1)) q = En o q := by
  have hqi := getD_mem (d := (0 : Int)) hi
  have hi0 := (h.inQ _ hqi).2.2
  have old : ∀ q ∈ Q, En (o.set r.toNat (En o (Q.getD i 0) + 1)) q = En o q := fun q hq => En_set fun e => by
    have h1 := (h.inQ q hq).2.2
    unfold En at h1 hn
    rw [e] at hn
    omega
  have hrl : r.toNat < o.length := by rw [h.len]; exact hr.2
  have same : En (o.set r.toNat (En o (Q.getD i 0) + 1)) r = En o (Q.getD i 0) + 1 := En_set_same hrl
  have hc := cneg_set o r.toNat (En o (Q.getD i 0) + 1) hrl hn (by omega)
  have hcnt := h.cnt
  have hlow := h.low _ (show En o (Q.getD i 0) ∈ o from getD_mem (by rw [h.len]; exact (h.inQ _ hqi).2.1))
  have g1 : ∀ a : Nat, a < Q.length → (Q ++ [r]).getD a 0 = Q.getD a 0 := fun a ha => by
    rw [List.getD_eq_getElem?_getD, List.getElem?_append_left ha, ← List.getD_eq_getElem?_getD]
  have g2 : (Q ++ [r]).getD Q.length 0 = r := by simp [List.getD_eq_getElem?_getD]
  have e1 : ∀ a : Nat, a < Q.length → En (o.set r.toNat (En o (Q.getD i 0) + 1)) ((Q ++ [r]).getD a 0) = En o (Q.getD a 0) := fun a ha => by
    rw [g1 a ha, old _ (getD_mem ha)]
  have e2 : En (o.set r.toNat (En o (Q.getD i 0) + 1)) ((Q ++ [r]).getD Q.length 0) = En o (Q.getD i 0) + 1 := by rw [g2, same]
  refine ⟨⟨by simpa using h.len, ?_, by simp only [List.length_append, List.length_singleton]; omega, ?_, ?_, ?_, ?_, ?_⟩, old⟩
  · intro e he
    rcases List.mem_or_eq_of_mem_set he with he | he
    · have := h.low e he; omega
    · omega
  · intro q hq
    rcases List.mem_append.1 hq with hq | hq
    · obtain ⟨k1, k2, k3⟩ := h.inQ q hq
      exact ⟨k1, k2, by rw [old q hq]; exact k3⟩
    · simp only [List.mem_singleton] at hq
      subst hq
      exact ⟨hr.1, hr.2, by rw [same]; omega⟩
  · intro p hp hv
    by_cases e : r.toNat = p
    · have : (p : Int) = r := by omega
      rw [this]
      simp
    · rw [getD_set_ne _ _ _ e] at hv
      exact List.mem_append_left _ (h.vis p hp hv)
  · intro a b hab hb
    simp only [List.length_append, List.length_singleton] at hb
    by_cases eb : b = Q.length
    · subst eb
      rw [e2]
      by_cases ea : a = Q.length
      · subst ea
        rw [e2]
        exact Int.le_refl _
      · rw [e1 a (by omega)]
        exact h.top hi a (by omega)
    · rw [e1 a (by omega), e1 b (by omega)]
      exact h.mono a b hab (by omega)
  · intro _ b hb
    simp only [List.length_append, List.length_singleton] at hb
    rw [e1 i hi]
    by_cases eb : b = Q.length
    · subst eb
      rw [e2]
      exact Int.le_refl _
    · rw [e1 b (by omega)]
      exact h.top hi b (by omega)
  · intro q hq
    rcases List.mem_append.1 hq with hq | hq
    · rw [old q hq]
      exact h.snd q hq
    · simp only [List.mem_singleton] at hq
      subst hq
      rw [same, show (En o (Q.getD i 0) + 1).toNat = (En o (Q.getD i 0)).toNat + 1 by omega]
      exact hP _ (h.snd _ hqi)

section
variable {n : Nat} {N : Int} {ds : List (Int × Int × Int)} {ks : List Int}
theorem bfs_inner {P : Nat → Int → Prop} {L : Nat} (hL : L ≤ 768) {zs : List Int} (hzl : zs.length ≤ 1000) (hz : ∀ z ∈ zs, 0 ≤ z ∧ z.toNat < L) {i : Nat} {K : Int → List (Int × Int × Int) → List Int → List Int → List Int → Int → Option (List Int)} :
    ∀ (j c : Nat) (o Q : List Int), zs.length - c < j → c ≤ zs.length → Bf P L o Q i → i < Q.length → (∀ z ∈ zs, ∀ k, P k (Q.getD i 0) → P (k + 1) z) → (∀ z ∈ zs.take c, 0 ≤ En o z ∧ En o z ≤ En o (Q.getD i 0) + 1) →
      ∃ o' ext, Bf P L o' (Q ++ ext) i ∧ (∀ q ∈ Q, En o' q = En o q) ∧ (∀ z ∈ zs, 0 ≤ En o' z ∧ En o' z ≤ En o' (Q.getD i 0) + 1) ∧ spec_l4Spread.l4 n K j N ds ks o Q i zs c = K N ds ks o' (Q ++ ext) i
  | 0, c, o, Q, hj, _, _, _, _, _ => by omega
  | j + 1, c, o, Q, hj, hc, hB, hi, hP, hd => by
    rw [spec_l4Spread.l4]
    by_cases cc : (c : Int) < (zs.length : Int)
    · have ci : c < zs.length := by omega
      have ec : (c : Int).toNat = c := by omega
      have ei : (i : Int).toNat = i := by omega
      have wc : IntKind.wrap .i64 ((c : Int) + 1) = ((c + 1 : Nat) : Int) := by rw [w64s (by omega) (by omega)]; omega
      have hzc := hz _ (getD_mem (d := (0 : Int)) ci)
      have hPc := hP _ (getD_mem (d := (0 : Int)) ci)
      have htk : zs.take (c + 1) = zs.take c ++ [zs.getD c 0] := by
        rw [List.take_add_one, List.getElem?_eq_getElem ci]
        simp [List.getD_eq_getElem?_getD, ci]
      have hlen := hB.len
      have hcnt := hB.cnt
      have hqi := getD_mem (d := (0 : Int)) hi
      obtain ⟨q1, q2, q3⟩ := hB.inQ _ hqi
      have hlow := hB.low _ (show En o (Q.getD i 0) ∈ o from getD_mem (by rw [hB.len]; exact q2))
      rw [if_pos (by simpa using cc), if_pos ⟨by omega, cc⟩, ec, ei]
      generalize zs.getD c 0 = z at *
      have kz : 0 ≤ z ∧ z < (o.length : Int) := ⟨hzc.1, by omega⟩
      have kq : 0 ≤ Q.getD i 0 ∧ Q.getD i 0 < (o.length : Int) := ⟨q1, by omega⟩
      have ki : 0 ≤ (i : Int) ∧ (i : Int) < (Q.length : Int) := ⟨by omega, by omega⟩
      have kc : 0 ≤ (c : Int) ∧ (c : Int) < (zs.length : Int) := ⟨by omega, cc⟩
      have kl : Q.length + ([z] : List Int).length ≤ 4398046511104 := by simp only [List.length_singleton]; omega
      rw [if_pos kz, wc]
      by_cases hv : En o z < 0
      · have hv' : o.getD z.toNat 0 < 0 := hv
        rw [if_pos (by simpa using hv'), if_pos kc, if_pos ki, if_pos kq, if_pos kz, if_pos kc, if_pos kl]
        have ew : IntKind.wrap .i64 (o.getD (Q.getD i 0).toNat 0 + 1) = En o (Q.getD i 0) + 1 := w64s (x := En o (Q.getD i 0) + 1) (by omega) (by omega)
        rw [ew]
        obtain ⟨b1, b2⟩ := hB.new hL hi ⟨hzc.1, hzc.2⟩ hv hPc
        have hzl2 : z.toNat < o.length := by omega
        have gi : (Q ++ [z]).getD i 0 = Q.getD i 0 := by
          rw [List.getD_eq_getElem?_getD, List.getElem?_append_left hi, ← List.getD_eq_getElem?_getD]
        obtain ⟨o', ext, r1, r2, r3, r4⟩ := bfs_inner hL hzl hz (K := K) j (c + 1) (o.set z.toNat (En o (Q.getD i 0) + 1)) (Q ++ [z]) (by omega) (by omega) b1 (by simp; omega) (by rw [gi]; exact hP) (by
          intro y hy
          rw [htk] at hy
          rw [gi, b2 _ hqi]
          rcases List.mem_append.1 hy with hy | hy
          · have := hd y hy
            by_cases e : z.toNat = y.toNat
            · have hyz : En (o.set z.toNat (En o (Q.getD i 0) + 1)) y = En o (Q.getD i 0) + 1 := by
                unfold En
                rw [← e]
                exact set_getD' hzl2
              rw [hyz]
              omega
            · rw [En_set e]
              exact this
          · simp only [List.mem_singleton] at hy
            subst hy
            rw [En_set_same hzl2]
            omega)
        refine ⟨o', z :: ext, by simpa using r1, fun q hq => ?_, fun y hy => ?_, by rw [r4]; simp⟩
        · rw [r2 q (List.mem_append_left _ hq), b2 q hq]
        · have := r3 y hy
          rw [gi] at this
          exact this
      · have hv' : ¬ o.getD z.toNat 0 < 0 := hv
        rw [if_neg (by simpa using hv')]
        refine bfs_inner hL hzl hz (K := K) j (c + 1) o Q (by omega) (by omega) hB hi hP ?_
        intro y hy
        rw [htk] at hy
        rcases List.mem_append.1 hy with hy | hy
        · exact hd y hy
        · simp only [List.mem_singleton] at hy
          subst hy
          have hin := hB.vis y.toNat hzc.2 (by unfold En at hv; omega)
          have : ((y.toNat : Nat) : Int) = y := by omega
          rw [this] at hin
          obtain ⟨b, hb, hbq⟩ := List.getElem_of_mem hin
          have ht := hB.top hi b hb
          have hg : Q.getD b 0 = y := by simp [List.getD_eq_getElem?_getD, hb, hbq]
          rw [hg] at ht
          exact ⟨by omega, ht⟩
    · rw [if_neg (by simpa using cc)]
      refine ⟨o, [], by simpa using hB, fun _ _ => rfl, fun z hz' => hd z ?_, by simp⟩
      rw [List.take_of_length_le (by omega)]
      exact hz'
/-- Where a state's number leads. -/
def succI (ds : List (Int × Int × Int)) (ks : List Int) (q : Int) : List Int :=
  (memL (stepsN ds ((q.toNat / 64 : Nat) : Int) ((q.toNat % 64 : Nat) : Int))).map fun z => idI z ((setK ks (q.toNat % 64) z : Nat) : Int)
theorem succ_in (h : VM N ds ks) {q r : Int} (hr : r ∈ succI ds ks q) : 0 ≤ r ∧ r.toNat < 64 * N.toNat := by
  obtain ⟨z, hz, rfl⟩ := List.mem_map.1 hr
  have hzr := steps_mem h hz
  obtain ⟨_, o2⟩ := setK_val h hzr (s := q.toNat % 64) (Nat.mod_lt _ (by omega))
  unfold idI
  omega
theorem bfs_outer (hn : 2000 ≤ n) (h : VM N ds ks) {P : Nat → Int → Prop} (hP : ∀ q, ∀ r ∈ succI ds ks q, ∀ k, P k q → P (k + 1) r) : ∀ (j i : Nat) (o Q : List Int), 64 * N.toNat - i < j → i ≤ Q.length → Bf P (64 * N.toNat) o Q i → (∀ a, a < i → ∀ r ∈ succI ds ks (Q.getD a 0), 0 ≤ En o r ∧ En o r ≤ En o (Q.getD a 0) + 1) →
    ∃ o' Q', spec_l4Spread.l2 n (fun y => some y) j N ds ks o Q i = some o' ∧ Bf P (64 * N.toNat) o' Q' Q'.length ∧ (∀ q ∈ Q, q ∈ Q' ∧ En o' q = En o q) ∧ ∀ q ∈ Q', ∀ r ∈ succI ds ks q, 0 ≤ En o' r ∧ En o' r ≤ En o' q + 1
  | 0, i, o, Q, hj, _, _, _ => by omega
  | j + 1, i, o, Q, hj, hi, hB, hd => by
    have h1 := h.n1
    have h2 := h.n2
    have hcnt := hB.cnt
    rw [spec_l4Spread.l2]
    by_cases c : (i : Int) < (Q.length : Int)
    · have ci : i < Q.length := by omega
      have ei : (i : Int).toNat = i := by omega
      have ki : 0 ≤ (i : Int) ∧ (i : Int) < (Q.length : Int) := ⟨by omega, c⟩
      have wi : IntKind.wrap .i64 ((i : Int) + 1) = ((i + 1 : Nat) : Int) := by rw [w64s (by omega) (by omega)]; omega
      have hqi := getD_mem (d := (0 : Int)) ci
      obtain ⟨q1, q2, q3⟩ := hB.inQ _ hqi
      have e1 : IntKind.wrap .i64 (Int.tdiv (Q.getD i 0) 64) = (((Q.getD i 0).toNat / 64 : Nat) : Int) := by
        rw [Int.tdiv_eq_ediv_of_nonneg q1, w64s (by omega) (by omega)]; omega
      have e2 : Int.tmod (Q.getD i 0) 64 = (((Q.getD i 0).toNat % 64 : Nat) : Int) := by
        rw [Int.tmod_eq_emod_of_nonneg q1]; omega
      rw [if_pos (by simpa using c), if_pos ki, if_pos ki, ei, e1, e2, l4Step_eq (by omega) h _ (Nat.mod_lt _ (by omega)), Option.bind_some]
      have hml := memL_length (stepsN ds (((Q.getD i 0).toNat / 64 : Nat) : Int) (((Q.getD i 0).toNat % 64 : Nat) : Int))
      have hsl : (succI ds ks (Q.getD i 0)).length ≤ 1000 := by
        unfold succI
        rw [List.length_map]
        omega
      obtain ⟨o', ext, r1, r2, r3, r4⟩ := bfs_inner (n := n) (N := N) (ds := ds) (ks := ks) (P := P) (L := 64 * N.toNat) (by omega) (zs := succI ds ks (Q.getD i 0)) hsl (fun z hz => succ_in h hz) (i := i)
        (K := fun y9 y10 y11 y12 y13 y14 => spec_l4Spread.l2 n (fun y => some y) j y9 y10 y11 y12 y13 (IntKind.wrap .i64 (y14 + (1 : Int)))) n 0 o Q (by omega) (by omega) hB ci (hP _) (by simp)
      rw [show ((0 : Nat) : Int) = 0 from rfl] at r4
      refine (show spec_l4Spread.l4 n (fun y9 y10 y11 y12 y13 y14 => spec_l4Spread.l2 n (fun y => some y) j y9 y10 y11 y12 y13 (IntKind.wrap .i64 (y14 + (1 : Int)))) n N ds ks o Q i (succI ds ks (Q.getD i 0)) 0 = _ from r4) ▸ ?_
      rw [wi]
      have g1 : ∀ a : Nat, a < Q.length → (Q ++ ext).getD a 0 = Q.getD a 0 := fun a ha => by
        rw [List.getD_eq_getElem?_getD, List.getElem?_append_left ha, ← List.getD_eq_getElem?_getD]
      have hB' : Bf P (64 * N.toNat) o' (Q ++ ext) (i + 1) := ⟨r1.len, r1.low, r1.cnt, r1.inQ, r1.vis, r1.mono, fun hlt b hb => by
        have t1 := r1.top (by simp; omega) b hb
        have t2 := r1.mono i (i + 1) (by omega) hlt
        omega, r1.snd⟩
      have hd' : ∀ a, a < i + 1 → ∀ r ∈ succI ds ks ((Q ++ ext).getD a 0), 0 ≤ En o' r ∧ En o' r ≤ En o' ((Q ++ ext).getD a 0) + 1 := by
        intro a ha r hr
        rw [g1 a (by omega)] at hr ⊢
        by_cases e : a = i
        · subst e
          exact r3 r hr
        · have hold := hd a (by omega) r hr
          have hrin := succ_in h hr
          have hrQ := hB.vis r.toNat hrin.2 hold.1
          rw [show ((r.toNat : Nat) : Int) = r by omega] at hrQ
          rw [r2 r hrQ, r2 _ (getD_mem (by omega))]
          exact hold
      obtain ⟨o2, Q2, s1, s2, s3, s4⟩ := bfs_outer hn h hP j (i + 1) o' (Q ++ ext) (by omega) (by simp; omega) hB' hd'
      refine ⟨o2, Q2, s1, s2, fun q hq => ?_, s4⟩
      obtain ⟨t1, t2⟩ := s3 q (List.mem_append_left _ hq)
      exact ⟨t1, by rw [t2, r2 q hq]⟩
    · rw [if_neg (by simpa using c)]
      have : i = Q.length := by omega
      subst this
      refine ⟨o, Q, rfl, hB, fun q hq => ⟨hq, rfl⟩, fun q hq r hr => ?_⟩
      obtain ⟨b, hb, hbq⟩ := List.getElem_of_mem hq
      have hg : Q.getD b 0 = q := by simp [List.getD_eq_getElem?_getD, hb, hbq]
      have := hd b hb r (by rw [hg]; exact hr)
      rw [hg] at this
      exact this
/-- The table of steps tells, of each state, the least number of steps in which it is reached, or -1. -/
def IsDist (ds : List (Int × Int × Int)) (ks : List Int) (x0 : Int) (s0 : Nat) (z : Int) (t : Nat) (v : Int) : Prop :=
  (0 ≤ v ∧ Rn ds ks x0 s0 v.toNat z t ∧ ∀ k : Nat, Rn ds ks x0 s0 k z t → v ≤ (k : Int)) ∨ (v = -1 ∧ ∀ k : Nat, ¬ Rn ds ks x0 s0 k z t)
theorem spread_dist (hn : 2000 ≤ n) (h : VM N ds ks) {x : Int} {s : Nat} (hx : 0 ≤ x ∧ x < N) (hs : s < 64) :
    ∃ o, spec_l4Spread.F n N ds ks x s = some o ∧ (o.length : Int) = N * 64 ∧ ∀ (z : Int) (t : Nat), 0 ≤ z → z < N → t < 64 → IsDist ds ks x s z t (o.getD (idI z (t : Int)).toNat 0) := by
  have h1 := h.n1
  have h2 := h.n2
  unfold spec_l4Spread.F
  have wN : IntKind.wrap .i64 (N * 64) = N * 64 := w64s (by omega) (by omega)
  rw [wN, if_pos ⟨by omega, by omega, by omega⟩]
  generalize hm : (N * 64).toNat = m
  have hm2 : m ≤ 768 := by omega
  have hm3 : m = 64 * N.toNat := by omega
  have f1 := fillS_l0 (n := n) (N := N) (ds := ds) (ks := ks) (x := x) (s := (s : Int)) (K := fun y1 y2 y3 y4 y5 y6 =>
    (spec_l4Id.F n y1 y2).bind fun r7 =>
    if 0 ≤ (0 : Int) ∧ (0 : Int) < (([r7] : List (Int)).length : Int) then (if 0 ≤ (([r7] : List (Int)).getD 0 (0 : Int)) ∧ (([r7] : List (Int)).getD 0 (0 : Int)) < (y6.length : Int) then (spec_l4Spread.l2 n (fun y15 =>
      some y15) n y3 y4 y5 (y6.set ((([r7] : List (Int)).getD 0 (0 : Int)).toNat) (0 : Int)) ([r7] : List (Int)) (0 : Int)) else none) else none) hm2 n 0 (by omega) (by omega)
  have z1 : fillG m 0 = List.replicate m 0 := by simp [fillG]
  have z3 : ∀ q, fillG q q = List.replicate q (-1) := by intro q; simp [fillG]
  rw [z1, z3] at f1
  simp only [Int.natCast_zero] at f1
  rw [f1, l4Id_eq n hx.1 (by omega) (by omega) (by omega), Option.bind_some]
  have g3 : (0 : Int) ≤ 0 ∧ (0 : Int) < (([idI x (s : Int)] : List Int).length : Int) := by simp
  have eg : ([idI x (s : Int)] : List Int).getD 0 0 = idI x (s : Int) := rfl
  have g4 : 0 ≤ idI x (s : Int) ∧ idI x (s : Int) < ((List.replicate m (-1 : Int)).length : Int) := by rw [List.length_replicate]; unfold idI; omega
  simp only [if_pos g3, eg, if_pos g4]
  have hid : 0 ≤ idI x (s : Int) ∧ (idI x (s : Int)).toNat < m := by unfold idI; omega
  have hil : (idI x (s : Int)).toNat < (List.replicate m (-1 : Int)).length := by rw [List.length_replicate]; exact hid.2
  have hneg : (List.replicate m (-1 : Int)).getD (idI x (s : Int)).toNat 0 < 0 := by
    rw [List.getD_eq_getElem?_getD, List.getElem?_eq_getElem hil]; simp
  have hcs := cneg_set (List.replicate m (-1 : Int)) (idI x (s : Int)).toNat 0 hil hneg (Int.le_refl 0)
  rw [cneg_rep] at hcs
  have hat : ∀ p : Nat, p < m → (List.replicate m (-1 : Int)).getD p 0 = -1 := fun p hp => by
    rw [List.getD_eq_getElem?_getD, List.getElem?_eq_getElem (by rw [List.length_replicate]; exact hp)]; simp
  have e0 : En ((List.replicate m (-1 : Int)).set (idI x (s : Int)).toNat 0) (idI x (s : Int)) = 0 := En_set_same hil
  have hB : Bf (fun k q => Rn ds ks x s k ((q.toNat / 64 : Nat) : Int) (q.toNat % 64)) (64 * N.toNat) ((List.replicate m (-1 : Int)).set (idI x (s : Int)).toNat 0) [idI x (s : Int)] 0 := by
    refine ⟨by simp [hm3], ?_, by simp only [List.length_singleton]; omega, ?_, ?_, ?_, ?_, ?_⟩
    · intro e he
      rcases List.mem_or_eq_of_mem_set he with he | he
      · have := List.eq_of_mem_replicate he
        omega
      · omega
    · intro q hq
      simp only [List.mem_singleton] at hq
      subst hq
      exact ⟨hid.1, by omega, by rw [e0]; omega⟩
    · intro p hp hv
      by_cases e : (idI x (s : Int)).toNat = p
      · have : (p : Int) = idI x (s : Int) := by omega
        rw [this]
        simp
      · rw [getD_set_ne _ _ _ e, hat p (by omega)] at hv
        omega
    · intro a b hab hb
      simp only [List.length_singleton] at hb
      have : a = b := by omega
      subst this
      exact Int.le_refl _
    · intro _ b hb
      simp only [List.length_singleton] at hb
      have : b = 0 := by omega
      subst this
      omega
    · intro q hq
      simp only [List.mem_singleton] at hq
      subst hq
      rw [e0]
      show ((((idI x (s : Int)).toNat / 64 : Nat) : Int) = x ∧ (idI x (s : Int)).toNat % 64 = s)
      unfold idI
      omega
  obtain ⟨o, Q, r1, r2, r3, r4⟩ := bfs_outer (n := n) hn h (P := fun k q => Rn ds ks x s k ((q.toNat / 64 : Nat) : Int) (q.toNat % 64)) (by
    intro q r hr k hk
    obtain ⟨z, hz, rfl⟩ := List.mem_map.1 hr
    have hzr := steps_mem h hz
    obtain ⟨_, o2⟩ := setK_val h hzr (s := q.toNat % 64) (Nat.mod_lt _ (by omega))
    have e1 : (((idI z ((setK ks (q.toNat % 64) z : Nat) : Int)).toNat / 64 : Nat) : Int) = z := by unfold idI; omega
    have e2 : (idI z ((setK ks (q.toNat % 64) z : Nat) : Int)).toNat % 64 = setK ks (q.toNat % 64) z := by unfold idI; omega
    show Rn ds ks x s (k + 1) _ _
    rw [e1, e2]
    exact ⟨_, _, hk, hz, rfl⟩) n 0 _ _ (by omega) (by omega) hB (fun a ha => by omega)
  rw [show ((0 : Nat) : Int) = 0 from rfl] at r1
  refine ⟨o, r1, by rw [r2.len]; omega, ?_⟩
  have ub : ∀ (k : Nat) (z : Int) (t : Nat), Rn ds ks x s k z t → (0 ≤ z ∧ z < N ∧ t < 64) ∧ idI z (t : Int) ∈ Q ∧ En o (idI z (t : Int)) ≤ (k : Int) := by
    intro k
    induction k with
    | zero =>
      rintro z t ⟨rfl, rfl⟩
      obtain ⟨t1, t2⟩ := r3 _ (List.mem_singleton.2 rfl)
      rw [e0] at t2
      exact ⟨⟨hx.1, hx.2, hs⟩, t1, by rw [t2]; omega⟩
    | succ k ih =>
      rintro z t ⟨y, u, hk, hz, rfl⟩
      obtain ⟨⟨y1, y2, y3⟩, y4, y5⟩ := ih y u hk
      have hzr := steps_mem h hz
      obtain ⟨_, o2⟩ := setK_val h hzr y3
      have e1 : (((idI y (u : Int)).toNat / 64 : Nat) : Int) = y := by unfold idI; omega
      have e2 : (idI y (u : Int)).toNat % 64 = u := by unfold idI; omega
      have hr : idI z ((setK ks u z : Nat) : Int) ∈ succI ds ks (idI y (u : Int)) := by
        unfold succI
        rw [e1, e2]
        exact List.mem_map.2 ⟨z, hz, rfl⟩
      have hcl := r4 _ y4 _ hr
      have hin := succ_in h hr
      have hv := r2.vis _ hin.2 hcl.1
      rw [show (((idI z ((setK ks u z : Nat) : Int)).toNat : Nat) : Int) = idI z ((setK ks u z : Nat) : Int) by omega] at hv
      exact ⟨⟨hzr.1, hzr.2, o2⟩, hv, by omega⟩
  intro z t z1 z2 ht
  have hidz : (idI z (t : Int)).toNat < 64 * N.toNat ∧ 0 ≤ idI z (t : Int) := by unfold idI; omega
  have hlow := r2.low _ (show En o (idI z (t : Int)) ∈ o from getD_mem (by rw [r2.len]; exact hidz.1))
  by_cases c : 0 ≤ En o (idI z (t : Int))
  · refine .inl ⟨c, ?_, fun k hk => (ub k z t hk).2.2⟩
    have hv := r2.vis _ hidz.1 c
    rw [show (((idI z (t : Int)).toNat : Nat) : Int) = idI z (t : Int) by omega] at hv
    have hsn := r2.snd _ hv
    have e1 : (((idI z (t : Int)).toNat / 64 : Nat) : Int) = z := by unfold idI; omega
    have e2 : (idI z (t : Int)).toNat % 64 = t := by unfold idI; omega
    simp only [e1, e2] at hsn
    exact hsn
  · refine .inr ⟨by
      have : En o (idI z (t : Int)) = -1 := by omega
      exact this, fun k hk => ?_⟩
    have := (r2.inQ _ (ub k z t hk).2.1).2.2
    exact c this
end
end Go.Pv
