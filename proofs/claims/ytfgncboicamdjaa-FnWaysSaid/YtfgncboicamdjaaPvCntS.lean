/- Plain laws: the reference counts the shortest ways round by round. -/
import Derived.Test.YtfgncboicamdjaaPvCnt
set_option linter.unusedVariables false
set_option linter.unusedSimpArgs false
set_option autoImplicit false
namespace Go.Pv
open Go Go.Fx Go.Pf

/-! ### Sums with weights -/
def W : List Int → (Nat → Int) → Nat → Int
  | [], _, _ => 0
  | a :: l, f, k => a * f k + W l f (k + 1)
def isum : List Int → Int
  | [] => 0
  | a :: l => a + isum l
theorem W_set : ∀ (l : List Int) (f : Nat → Int) (k i : Nat) (d : Int), i < l.length → W (l.set i (l.getD i 0 + d)) f k = W l f k + d * f (k + i)
  | [], f, k, i, d, h => by simp at h
  | a :: l, f, k, 0, d, h => by
    simp only [List.set_cons_zero, List.getD_cons_zero, W, Nat.add_zero, Int.add_mul]
    omega
  | a :: l, f, k, i + 1, d, h => by
    have := W_set l f (k + 1) i d (by simpa using h)
    simp only [List.set_cons_succ, List.getD_cons_succ, W, this, show k + 1 + i = k + (i + 1) by omega]
    omega
theorem W_pos : ∀ (l : List Int) (f : Nat → Int) (k : Nat), (∀ i, i < l.length → 0 ≤ l.getD i 0 * f (k + i)) → 0 ≤ W l f k
  | [], f, k, h => by simp [W]
  | a :: l, f, k, h => by
    have h0 := h 0 (by simp)
    have := W_pos l f (k + 1) fun i hi => by
      have := h (i + 1) (by simpa using hi)
      rwa [List.getD_cons_succ, show k + (i + 1) = k + 1 + i by omega] at this
    simp only [W]
    simp only [List.getD_cons_zero, Nat.add_zero] at h0
    omega
theorem W_one : ∀ (l : List Int) (f : Nat → Int) (k i : Nat), (∀ i, i < l.length → 0 ≤ l.getD i 0 * f (k + i)) → i < l.length → l.getD i 0 * f (k + i) ≤ W l f k
  | [], f, k, i, h, hi => by simp at hi
  | a :: l, f, k, i, h, hi => by
    have h0 := h 0 (by simp)
    simp only [List.getD_cons_zero, Nat.add_zero] at h0
    have hs : ∀ i, i < l.length → 0 ≤ l.getD i 0 * f (k + 1 + i) := fun i hi => by
      have := h (i + 1) (by simpa using hi)
      rwa [List.getD_cons_succ, show k + (i + 1) = k + 1 + i by omega] at this
    cases i with
    | zero =>
      have := W_pos l f (k + 1) hs
      simp only [W, List.getD_cons_zero, Nat.add_zero]
      omega
    | succ i =>
      have := W_one l f (k + 1) i hs (by simpa using hi)
      simp only [W, List.getD_cons_succ]
      rw [show k + (i + 1) = k + 1 + i by omega]
      omega
theorem W_congr : ∀ (l : List Int) (f g : Nat → Int) (k : Nat), (∀ i, i < l.length → l.getD i 0 * f (k + i) = l.getD i 0 * g (k + i)) → W l f k = W l g k
  | [], f, g, k, h => rfl
  | a :: l, f, g, k, h => by
    have h0 := h 0 (by simp)
    simp only [List.getD_cons_zero, Nat.add_zero] at h0
    have := W_congr l f g (k + 1) fun i hi => by
      have := h (i + 1) (by simpa using hi)
      rwa [List.getD_cons_succ, show k + (i + 1) = k + 1 + i by omega] at this
    simp only [W, h0, this]
theorem W_but : ∀ (l : List Int) (f g : Nat → Int) (k i : Nat), i < l.length → (∀ m, m ≠ k + i → f m = g m) → W l f k = W l g k + l.getD i 0 * (f (k + i) - g (k + i))
  | [], f, g, k, i, h, _ => by simp at h
  | a :: l, f, g, k, 0, h, hf => by
    have := W_congr l f g (k + 1) fun i hi => by rw [hf _ (by omega)]
    simp only [W, this, List.getD_cons_zero, Nat.add_zero, Int.mul_sub]
    omega
  | a :: l, f, g, k, i + 1, h, hf => by
    have := W_but l f g (k + 1) i (by simpa using h) fun m hm => hf m (by omega)
    simp only [W, this, List.getD_cons_succ, hf k (by omega), show k + 1 + i = k + (i + 1) by omega]
    omega
theorem W_from (c : Nat) : ∀ (l : List Int) (k : Nat), W l (fun q => if c ≤ q then 1 else 0) k = isum (l.drop (c - k))
  | [], k => by simp [W, isum]
  | a :: l, k => by
    have ih := W_from c l (k + 1)
    simp only [W, ih]
    by_cases h : c ≤ k
    · rw [if_pos h, show c - k = 0 by omega, show c - (k + 1) = 0 by omega]
      simp [isum]
    · rw [if_neg h, show c - k = (c - (k + 1)) + 1 by omega, List.drop_succ_cons]
      omega
theorem natSum_mem : ∀ {l : List Nat} {a : Nat}, a ∈ l → a ≤ natSum l
  | b :: l, a, h => by
    rcases List.mem_cons.1 h with h | h
    · subst h; simp [natSum]
    · have := natSum_mem h
      simp only [natSum]
      omega
theorem nodup_len : ∀ (M : Nat) (l : List Int), l.Nodup → (∀ p ∈ l, 0 ≤ p ∧ p < (M : Int)) → l.length ≤ M
  | 0, l, _, h => by
    cases l with
    | nil => simp
    | cons a l => have := h a (List.mem_cons_self ..); omega
  | M + 1, l, hn, h => by
    have h1 := nodup_len M (l.erase (M : Int)) (hn.erase _) fun p hp => by
      have hm := h p (List.mem_of_mem_erase hp)
      have : p ≠ (M : Int) := fun e => by
        subst e
        exact (List.Nodup.mem_erase_iff hn).1 hp |>.1 rfl
      omega
    have h2 : l.length ≤ (l.erase (M : Int)).length + 1 := by
      rw [List.length_erase]
      split <;> omega
    omega

section
variable {n : Nat} {N : Int} {ds : List (Int × Int × Int)} {ks : List Int}
theorem cW_pos (h : VM N ds ks) {g1 g2 : List Int} (ht : Tb N ds ks g1 g2) : ∀ (v : Nat) (x : Int) (s : Nat), 0 ≤ x ∧ x < N → s < 64 → g2.getD (ix x s) 0 = (v : Int) → 1 ≤ cW ds ks g2 v x s
  | 0, x, s, _, _, _ => Nat.le_refl 1
  | v + 1, x, s, hx, hs, hv => by
    obtain ⟨z, hz, hzv⟩ := rem_next h ht hx hs (by omega)
    have hzr := steps_mem h hz
    have hzv' : g2.getD (ix z (setK ks s z)) 0 = (v : Int) := by omega
    have ih := cW_pos h ht v z (setK ks s z) hzr (setK_val h hzr hs).2 hzv'
    rw [cW_succ]
    refine Nat.le_trans ih (Nat.le_trans (Nat.le_of_eq ?_) (natSum_mem (List.mem_map.2 ⟨z, hz, rfl⟩)))
    unfold cPart
    rw [if_pos hzv']
/-- The ways from a state's number. -/
def cQ (ds : List (Int × Int × Int)) (ks g2 : List Int) (q : Nat) : Nat := cW ds ks g2 (g2.getD (ix ((q / 64 : Nat) : Int) (q % 64)) 0).toNat ((q / 64 : Nat) : Int) (q % 64)
/-- A state that can be come to, and from which one can win. -/
structure Fit (N : Int) (ks g1 : List Int) (q : Nat) : Prop where
  lt : q < 64 * N.toNat
  cl : setK ks (q % 64) ((q / 64 : Nat) : Int) = q % 64
  ge : 0 ≤ g1.getD q 0
theorem Fit.val (h : VM N ds ks) {g1 g2 : List Int} (ht : Tb N ds ks g1 g2) {q : Nat} (hq : Fit N ks g1 q) : g1.getD q 0 = g2.getD (ix ((q / 64 : Nat) : Int) (q % 64)) 0 := by
  have h1 := h.n1
  have hlt := hq.lt
  have := ht.same h (x := ((q / 64 : Nat) : Int)) (s := q % 64) ⟨by omega, by omega⟩ (Nat.mod_lt _ (by omega)) hq.cl
  rw [show (idI ((q / 64 : Nat) : Int) ((q % 64 : Nat) : Int)).toNat = q by unfold idI; omega] at this
  exact this
theorem Fit.pos (h : VM N ds ks) {g1 g2 : List Int} (ht : Tb N ds ks g1 g2) {q : Nat} (hq : Fit N ks g1 q) : 1 ≤ cQ ds ks g2 q := by
  have h1 := h.n1
  have hlt := hq.lt
  have hv := hq.val h ht
  have := hq.ge
  unfold cQ
  exact cW_pos h ht _ _ _ ⟨by omega, by omega⟩ (Nat.mod_lt _ (by omega)) (by omega)
theorem Fit.le (h : VM N ds ks) {g1 g2 : List Int} {q : Nat} (hlt : q < 64 * N.toNat) : cQ ds ks g2 q ≤ most := by
  have h1 := h.n1
  unfold cQ
  exact cW_le h g2 _ ⟨by omega, by omega⟩ (Nat.mod_lt _ (by omega))
/-- The weights when so many of the list are done. -/
def fw (ds : List (Int × Int × Int)) (ks g1 g2 : List Int) (lst : List Int) (i q : Nat) : Int := if (q : Int) ∈ lst.take i ∧ 0 < g1.getD q 0 then 0 else ((cQ ds ks g2 q : Nat) : Int)
theorem fw_pos {g1 g2 lst : List Int} {i q : Nat} : 0 ≤ fw ds ks g1 g2 lst i q := by unfold fw; split <;> omega
structure Base (N : Int) (ks g1 : List Int) (ways lst : List Int) : Prop where
  wl : ways.length = 64 * N.toNat
  ok : ∀ p ∈ lst, ∃ q : Nat, p = (q : Int) ∧ Fit N ks g1 q
  nd : lst.Nodup
  srt : lst.Pairwise fun p q => g1.getD q.toNat 0 ≤ g1.getD p.toNat 0
  out : ∀ q : Nat, q < 64 * N.toNat → (q : Int) ∉ lst → ways.getD q 0 = 0
  pos : ∀ q : Nat, (q : Int) ∈ lst → 1 ≤ ways.getD q 0
theorem Base.ge {g1 ways lst : List Int} (B : Base N ks g1 ways lst) {q : Nat} (hq : q < ways.length) : 0 ≤ ways.getD q 0 := by
  by_cases c : (q : Int) ∈ lst
  · have := B.pos q c; omega
  · rw [B.out q (by rw [← B.wl]; exact hq) c]; omega
theorem Base.len {g1 ways lst : List Int} (B : Base N ks g1 ways lst) : lst.length ≤ 64 * N.toNat := nodup_len _ lst B.nd fun p hp => by
  obtain ⟨q, rfl, hq⟩ := B.ok p hp
  have := hq.lt
  omega
/-- The new states from a state. -/
theorem cnt_l2 (hn : 2000 ≤ n) (h : VM N ds ks) {g1 g2 : List Int} (ht : Tb N ds ks g1 g2) {lst0 : List Int} {i q0 v : Nat} (hq0 : Fit N ks g1 q0) (hv : g1.getD q0 0 = ((v + 1 : Nat) : Int)) (hv2 : v ≤ 1000) {w0 total : Int} (htot : total ≤ (most : Int)) (hw0 : w0 * ((cQ ds ks g2 q0 : Nat) : Int) ≤ total) (hw1 : 1 ≤ w0)
    (hdone : ∀ p ∈ lst0.take i, ((v + 1 : Nat) : Int) ≤ g1.getD p.toNat 0)
    {K : Int → List (Int × Int × Int) → List Int → List Int → List Int → List Int → Int → Option (Int × Bool)} {i8 : Int} :
    ∀ (j c : Nat) (ways lst : List Int), (memL (stepsN ds ((q0 / 64 : Nat) : Int) ((q0 % 64 : Nat) : Int))).length - c < j → c ≤ (memL (stepsN ds ((q0 / 64 : Nat) : Int) ((q0 % 64 : Nat) : Int))).length → Base N ks g1 ways lst → (∃ ext, lst = lst0 ++ ext) → (∀ p ∈ lst, (v : Int) ≤ g1.getD p.toNat 0) → ways.getD q0 0 = w0 →
      W ways (fw ds ks g1 g2 lst0 i) 0 + w0 * ((natSum (((memL (stepsN ds ((q0 / 64 : Nat) : Int) ((q0 % 64 : Nat) : Int))).drop c).map (cPart ds ks g2 v (q0 % 64))) : Nat) : Int) = total + w0 * ((cQ ds ks g2 q0 : Nat) : Int) →
      ∃ ways' lst', Base N ks g1 ways' lst' ∧ (∃ ext, lst' = lst0 ++ ext) ∧ (∀ p ∈ lst', (v : Int) ≤ g1.getD p.toNat 0) ∧ ways'.getD q0 0 = w0 ∧ W ways' (fw ds ks g1 g2 lst0 i) 0 = total + w0 * ((cQ ds ks g2 q0 : Nat) : Int) ∧
        spec_CountWays.l2 n K j N ds ks g1 ways lst i8 q0 ((memL (stepsN ds ((q0 / 64 : Nat) : Int) ((q0 % 64 : Nat) : Int))).map fun z => idI z ((setK ks (q0 % 64) z : Nat) : Int)) c = K N ds ks g1 ways' lst' i8
  | 0, c, ways, lst, hj, _, _, _, _, _, _ => by omega
  | j + 1, c, ways, lst, hj, hc, B, hext, hge, hw, hsum => by
    rw [spec_CountWays.l2]
    have h1 := h.n1
    have h2 := h.n2
    have hlt0 := hq0.lt
    have hl1 := ht.l1
    generalize hzs : memL (stepsN ds ((q0 / 64 : Nat) : Int) ((q0 % 64 : Nat) : Int)) = zs at *
    have hzl : zs.length ≤ 12 := by rw [← hzs]; exact memL_length _
    by_cases cc : c < zs.length
    · have ec : (c : Int).toNat = c := by omega
      have hml : (c : Int) < (((zs.map fun z => idI z ((setK ks (q0 % 64) z : Nat) : Int)).length : Nat) : Int) := by rw [List.length_map]; omega
      have wc : IntKind.wrap .i64 ((c : Int) + 1) = ((c + 1 : Nat) : Int) := by rw [w64s (by omega) (by omega)]; omega
      have hzin := getD_mem (d := (0 : Int)) cc
      have hdrop := getD_drop (d := (0 : Int)) cc
      have hmap : (zs.map fun z => idI z ((setK ks (q0 % 64) z : Nat) : Int)).getD c 0 = idI (zs.getD c 0) ((setK ks (q0 % 64) (zs.getD c 0) : Nat) : Int) := by
        simp [List.getD_eq_getElem?_getD, List.getElem?_map, cc]
      have k0 : 0 ≤ (c : Int) ∧ (c : Int) < (((zs.map fun z => idI z ((setK ks (q0 % 64) z : Nat) : Int)).length : Nat) : Int) := ⟨by omega, hml⟩
      rw [if_pos (decide_eq_true hml), if_pos k0, ec, hmap, if_pos k0, wc]
      rw [hdrop] at hsum
      generalize zs.getD c 0 = z at *
      have hzm : z ∈ memL (stepsN ds ((q0 / 64 : Nat) : Int) ((q0 % 64 : Nat) : Int)) := by rw [hzs]; exact hzin
      have hzr := steps_mem h hzm
      obtain ⟨o1, o2⟩ := setK_val h hzr (s := q0 % 64) (Nat.mod_lt _ (by omega))
      obtain ⟨y, hy⟩ : ∃ y : Nat, idI z ((setK ks (q0 % 64) z : Nat) : Int) = (y : Int) := ⟨(idI z ((setK ks (q0 % 64) z : Nat) : Int)).toNat, by unfold idI; omega⟩
      have hyd : y / 64 = z.toNat := by unfold idI at hy; omega
      have hym : y % 64 = setK ks (q0 % 64) z := by unfold idI at hy; omega
      have hyx : ((y / 64 : Nat) : Int) = z := by rw [hyd]; omega
      have hylt : y < 64 * N.toNat := by unfold idI at hy; omega
      have ey : (y : Int).toNat = y := by omega
      have eq0 : (q0 : Int).toNat = q0 := by omega
      have kx : 0 ≤ (y : Int) ∧ (y : Int) < (g1.length : Int) := by omega
      have kq : 0 ≤ (q0 : Int) ∧ (q0 : Int) < (g1.length : Int) := by omega
      have kw : 0 ≤ (y : Int) ∧ (y : Int) < (ways.length : Int) := by have := B.wl; omega
      have kv : 0 ≤ (q0 : Int) ∧ (q0 : Int) < (ways.length : Int) := by have := B.wl; omega
      have hsm := ht.same h hzr o2 (setK_idem ks (q0 % 64) z)
      rw [hy, ey] at hsm
      simp only [hy, ey, eq0, if_pos kx, if_pos kq, if_pos kw, if_pos kv, hv]
      rw [w64s (x := ((v + 1 : Nat) : Int) - 1) (by omega) (by omega), show (((v + 1 : Nat) : Int) - 1) = (v : Int) by omega]
      simp only [List.map_cons, natSum] at hsum
      by_cases q : g1.getD y 0 = (v : Int)
      · -- a state that is one step nearer
        have hp : cPart ds ks g2 v (q0 % 64) z = cQ ds ks g2 y := by
          unfold cPart cQ
          rw [hyx, hym, if_pos (by rw [← hsm]; exact q), ← hsm, q]
          rfl
        have hfit : Fit N ks g1 y := ⟨hylt, by rw [hym, hyx]; exact setK_idem ks (q0 % 64) z, by omega⟩
        have hcy := hfit.pos h ht
        have hFy : fw ds ks g1 g2 lst0 i y = ((cQ ds ks g2 y : Nat) : Int) := by
          unfold fw
          rw [if_neg]
          rintro ⟨hin, _⟩
          have := hdone _ hin
          rw [ey, q] at this
          omega
        have hnn : ∀ m, m < ways.length → 0 ≤ ways.getD m 0 * fw ds ks g1 g2 lst0 i (0 + m) := fun m hm => Int.mul_nonneg (B.ge hm) fw_pos
        have hone := W_one ways (fw ds ks g1 g2 lst0 i) 0 y hnn (by rw [B.wl]; exact hylt)
        rw [Nat.zero_add, hFy] at hone
        have hmost : most = 22876792454961 := rfl
        have hSpos : 0 ≤ w0 * ((cPart ds ks g2 v (q0 % 64) z + natSum ((zs.drop (c + 1)).map (cPart ds ks g2 v (q0 % 64))) : Nat) : Int) := Int.mul_nonneg (by omega) (by omega)
        have hwy : 0 ≤ ways.getD y 0 := B.ge (by rw [B.wl]; exact hylt)
        have hb1 : ways.getD y 0 ≤ ways.getD y 0 * ((cQ ds ks g2 y : Nat) : Int) := by
          have := Int.mul_le_mul_of_nonneg_left (show (1 : Int) ≤ ((cQ ds ks g2 y : Nat) : Int) by omega) hwy
          omega
        have hb2 : w0 ≤ w0 * ((cQ ds ks g2 q0 : Nat) : Int) := by
          have hc0 := hq0.pos h ht
          have := Int.mul_le_mul_of_nonneg_left (show (1 : Int) ≤ ((cQ ds ks g2 q0 : Nat) : Int) by omega) (show (0 : Int) ≤ w0 by omega)
          omega
        have hyq : y ≠ q0 := by
          intro e
          rw [e, hv] at q
          omega
        rw [if_neg (by simp only [q, decide_true]; decide)]
        simp only [hw]
        rw [w64s (x := ways.getD y 0 + w0) (by omega) (by omega)]
        have hwl' : (ways.set y (ways.getD y 0 + w0)).length = 64 * N.toNat := by rw [List.length_set]; exact B.wl
        have hylw : y < ways.length := by rw [B.wl]; exact hylt
        have hself : (ways.set y (ways.getD y 0 + w0)).getD y 0 = ways.getD y 0 + w0 := set_getD' hylw
        have hother : ∀ m, m ≠ y → (ways.set y (ways.getD y 0 + w0)).getD m 0 = ways.getD m 0 := fun m hm => getD_set_ne _ _ _ (Ne.symm hm)
        have hsum' : W (ways.set y (ways.getD y 0 + w0)) (fw ds ks g1 g2 lst0 i) 0 + w0 * ((natSum ((zs.drop (c + 1)).map (cPart ds ks g2 v (q0 % 64))) : Nat) : Int) = total + w0 * ((cQ ds ks g2 q0 : Nat) : Int) := by
          rw [W_set _ _ _ _ _ hylw, Nat.zero_add, hFy, ← hsum, hp]
          rw [show ((cQ ds ks g2 y + natSum ((zs.drop (c + 1)).map (cPart ds ks g2 v (q0 % 64))) : Nat) : Int) = ((cQ ds ks g2 y : Nat) : Int) + ((natSum ((zs.drop (c + 1)).map (cPart ds ks g2 v (q0 % 64))) : Nat) : Int) by omega, Int.mul_add]
          omega
        by_cases hin : (y : Int) ∈ lst
        · have hne : ways.getD y 0 ≠ 0 := by have := B.pos y hin; omega
          rw [if_neg (by simpa using hne), if_pos k0, if_pos k0]
          have B' : Base N ks g1 (ways.set y (ways.getD y 0 + w0)) lst := ⟨hwl', B.ok, B.nd, B.srt, fun m hm hmo => by
              rw [hother m fun e => hmo (e ▸ hin)]
              exact B.out m hm hmo, fun m hm => by
              by_cases e : m = y
              · rw [e, hself]; omega
              · rw [hother m e]; exact B.pos m hm⟩
          obtain ⟨wa, la, r1, r2, r3, r4, r5, r6⟩ := cnt_l2 hn h ht hq0 hv hv2 htot hw0 hw1 hdone (K := K) (i8 := i8) j (c + 1) (ways.set y (ways.getD y 0 + w0)) lst (by rw [hzs]; omega) (by rw [hzs]; omega) B' hext hge (by rw [hother q0 (Ne.symm hyq)]; exact hw) (by rw [hzs]; exact hsum')
          rw [hzs] at r6
          exact ⟨wa, la, r1, r2, r3, r4, r5, r6⟩
        · have hz0 : ways.getD y 0 = 0 := B.out y hylt hin
          have hlen := B.len
          rw [if_pos (by simpa using hz0), if_pos k0, if_pos (show lst.length + ([(y : Int)] : List Int).length ≤ 4398046511104 by simp only [List.length_cons, List.length_nil]; omega), if_pos k0, if_pos k0]
          have B' : Base N ks g1 (ways.set y (ways.getD y 0 + w0)) (lst ++ [(y : Int)]) := by
            refine ⟨hwl', fun p hp => ?_, ?_, ?_, fun m hm hmo => ?_, fun m hm => ?_⟩
            · rcases List.mem_append.1 hp with hp | hp
              · exact B.ok p hp
              · rw [List.mem_singleton] at hp
                exact ⟨y, hp, hfit⟩
            · refine List.nodup_append.2 ⟨B.nd, by simp, fun a ha b hb => ?_⟩
              rw [List.mem_singleton] at hb
              intro e
              exact hin (by rw [← hb, ← e]; exact ha)
            · refine List.pairwise_append.2 ⟨B.srt, by simp, fun a ha b hb => ?_⟩
              rw [List.mem_singleton] at hb
              subst hb
              have := hge a ha
              rw [ey, q]
              exact this
            · rw [List.mem_append, not_or, List.mem_singleton] at hmo
              rw [hother m fun e => hmo.2 (by omega)]
              exact B.out m hm hmo.1
            · by_cases e : m = y
              · rw [e, hself]; omega
              · rw [hother m e]
                rcases List.mem_append.1 hm with hm | hm
                · exact B.pos m hm
                · rw [List.mem_singleton] at hm
                  exact absurd (by omega) e
          obtain ⟨ext, hext⟩ := hext
          obtain ⟨wa, la, r1, r2, r3, r4, r5, r6⟩ := cnt_l2 hn h ht hq0 hv hv2 htot hw0 hw1 hdone (K := K) (i8 := i8) j (c + 1) (ways.set y (ways.getD y 0 + w0)) (lst ++ [(y : Int)]) (by rw [hzs]; omega) (by rw [hzs]; omega) B' ⟨ext ++ [(y : Int)], by rw [hext, List.append_assoc]⟩ (fun p hp => by
            rcases List.mem_append.1 hp with hp | hp
            · exact hge p hp
            · rw [List.mem_singleton] at hp
              rw [hp, ey, q]
              exact Int.le_refl _) (by rw [hother q0 (Ne.symm hyq)]; exact hw) (by rw [hzs]; exact hsum')
          rw [hzs] at r6
          exact ⟨wa, la, r1, r2, r3, r4, r5, r6⟩
      · have hp : cPart ds ks g2 v (q0 % 64) z = 0 := by
          unfold cPart
          rw [if_neg (by rw [← hsm]; exact q)]
        rw [if_pos (by simpa using q)]
        rw [hp, Nat.zero_add] at hsum
        obtain ⟨wa, la, r1, r2, r3, r4, r5, r6⟩ := cnt_l2 hn h ht hq0 hv hv2 htot hw0 hw1 hdone (K := K) (i8 := i8) j (c + 1) ways lst (by rw [hzs]; omega) (by rw [hzs]; omega) B hext hge hw (by rw [hzs]; exact hsum)
        rw [hzs] at r6
        exact ⟨wa, la, r1, r2, r3, r4, r5, r6⟩
    · have : c = zs.length := by omega
      subst this
      rw [if_neg (by rw [decide_eq_true_eq, List.length_map]; omega)]
      rw [List.drop_length, List.map_nil, show natSum [] = 0 from rfl, show ((0 : Nat) : Int) = 0 from rfl, Int.mul_zero, Int.add_zero] at hsum
      exact ⟨ways, lst, B, hext, hge, hw, hsum, rfl⟩
theorem take_succ_getD {l : List Int} {i : Nat} (hi : i < l.length) : l.take (i + 1) = l.take i ++ [l.getD i 0] := by
  rw [List.take_succ_eq_append_getElem hi, List.getD_eq_getElem?_getD, List.getElem?_eq_getElem hi]
  rfl
theorem cnt_l0 (hn : 2000 ≤ n) (h : VM N ds ks) {g1 g2 : List Int} (ht : Tb N ds ks g1 g2) (hle : ∀ e ∈ g2, e ≤ 768) {total : Int} (htot : total ≤ (most : Int))
    {K : Int → List (Int × Int × Int) → List Int → List Int → Option (Int × Bool)} :
    ∀ (j i : Nat) (ways lst : List Int), 64 * N.toNat - i < j → i ≤ lst.length → Base N ks g1 ways lst → (i < lst.length → ∀ p ∈ lst, g1.getD (lst.getD i 0).toNat 0 - 1 ≤ g1.getD p.toNat 0) → W ways (fw ds ks g1 g2 lst i) 0 = total →
      ∃ ways' lst', Base N ks g1 ways' lst' ∧ W ways' (fw ds ks g1 g2 lst' lst'.length) 0 = total ∧ spec_CountWays.l0 n K j N ds ks g1 ways lst i = K N ds ks ways'
  | 0, i, ways, lst, hj, _, _, _, _ => by omega
  | j + 1, i, ways, lst, hj, hi, B, hnx, hsum => by
    rw [spec_CountWays.l0]
    have h1 := h.n1
    have h2 := h.n2
    have hl1 := ht.l1
    have hlen := B.len
    by_cases c : i < lst.length
    · have ei : (i : Int).toNat = i := by omega
      have wi : IntKind.wrap .i64 ((i : Int) + 1) = ((i + 1 : Nat) : Int) := by rw [w64s (by omega) (by omega)]; omega
      have hin := getD_mem (d := (0 : Int)) c
      obtain ⟨q0, hq0, hfit⟩ := B.ok _ hin
      have hlt0 := hfit.lt
      have hnx' := hnx c
      have htk := take_succ_getD c
      rw [if_pos (by simpa using c), if_pos ⟨by omega, by omega⟩, ei]
      rw [hq0] at hnx' htk ⊢
      have eq0 : (q0 : Int).toNat = q0 := by omega
      rw [eq0] at hnx'
      rw [if_pos (show 0 ≤ (q0 : Int) ∧ (q0 : Int) < (g1.length : Int) by omega), eq0]
      -- what is done is no nearer
      have hdn : ∀ p ∈ lst.take i, g1.getD q0 0 ≤ g1.getD p.toNat 0 := by
        intro p hp
        have hs := B.srt
        rw [← List.take_append_drop i lst, List.drop_eq_getElem_cons c] at hs
        have := (List.pairwise_append.1 hs).2.2 p hp lst[i] (List.mem_cons_self ..)
        have e : lst[i] = (q0 : Int) := by
          rw [← hq0, List.getD_eq_getElem?_getD, List.getElem?_eq_getElem c]; rfl
        rw [e, eq0] at this
        exact this
      have hnin : (q0 : Int) ∉ lst.take i := by
        intro hm
        have hs := B.nd
        rw [← List.take_append_drop i lst, List.drop_eq_getElem_cons c] at hs
        have := (List.nodup_append.1 hs).2.2 _ hm lst[i] (List.mem_cons_self ..)
        apply this
        rw [← hq0, List.getD_eq_getElem?_getD, List.getElem?_eq_getElem c]
        rfl
      by_cases z : g1.getD q0 0 = 0
      · rw [if_pos (by simpa using z), wi]
        refine cnt_l0 hn h ht hle htot j (i + 1) ways lst (by omega) (by omega) B (fun hi2 p hp => ?_) ?_
        · have hp1 := hnx' p hp
          obtain ⟨q2, hq2, hf2⟩ := B.ok _ (getD_mem (d := (0 : Int)) hi2)
          have hs := B.srt
          have := List.pairwise_iff_getElem.1 hs i (i + 1) c hi2 (by omega)
          have e1 : lst[i] = (q0 : Int) := by rw [← hq0, List.getD_eq_getElem?_getD, List.getElem?_eq_getElem c]; rfl
          have e2 : lst[i + 1] = lst.getD (i + 1) 0 := by rw [List.getD_eq_getElem?_getD, List.getElem?_eq_getElem hi2]; rfl
          rw [e1, e2, eq0] at this
          omega
        · rw [← hsum]
          refine W_congr _ _ _ _ fun m hm => ?_
          congr 1
          unfold fw
          rw [htk, Nat.zero_add]
          by_cases e : m = q0
          · subst e
            rw [if_neg (by rw [z]; simp), if_neg (by rw [z]; simp)]
          · have : ((m : Int) ∈ lst.take i ++ [(q0 : Int)] ∧ 0 < g1.getD m 0) ↔ ((m : Int) ∈ lst.take i ∧ 0 < g1.getD m 0) := by
              rw [List.mem_append, List.mem_singleton]
              constructor
              · rintro ⟨h1 | h1, h2⟩
                · exact ⟨h1, h2⟩
                · omega
              · rintro ⟨h1, h2⟩; exact ⟨.inl h1, h2⟩
            by_cases q : (m : Int) ∈ lst.take i ∧ 0 < g1.getD m 0
            · rw [if_pos (this.2 q), if_pos q]
            · rw [if_neg (fun w => q (this.1 w)), if_neg q]
      · have hge := hfit.ge
        obtain ⟨v, hv⟩ : ∃ v : Nat, g1.getD q0 0 = ((v + 1 : Nat) : Int) := ⟨(g1.getD q0 0).toNat - 1, by omega⟩
        have hv2 : v ≤ 1000 := by
          have hval := hfit.val h ht
          have hix : ix ((q0 / 64 : Nat) : Int) (q0 % 64) < g2.length := by rw [ht.l2]; unfold ix idI; omega
          have := hle _ (getD_mem (d := (0 : Int)) hix)
          omega
        have e1 : IntKind.wrap .i64 (Int.tdiv (q0 : Int) 64) = ((q0 / 64 : Nat) : Int) := by
          rw [Int.tdiv_eq_ediv_of_nonneg (by omega), w64s (by omega) (by omega)]; omega
        have e2 : Int.tmod (q0 : Int) 64 = ((q0 % 64 : Nat) : Int) := by
          rw [Int.tmod_eq_emod_of_nonneg (by omega)]; omega
        rw [if_neg (by simpa using z), e1, e2, l4Step_eq (by omega) h _ (Nat.mod_lt _ (by omega)), Option.bind_some]
        have hF0 : fw ds ks g1 g2 lst i q0 = ((cQ ds ks g2 q0 : Nat) : Int) := by
          unfold fw
          rw [if_neg fun w => hnin w.1]
        have hnn : ∀ m, m < ways.length → 0 ≤ ways.getD m 0 * fw ds ks g1 g2 lst i (0 + m) := fun m hm => Int.mul_nonneg (B.ge hm) fw_pos
        have hone := W_one ways (fw ds ks g1 g2 lst i) 0 q0 hnn (by rw [B.wl]; exact hlt0)
        rw [Nat.zero_add, hF0, hsum] at hone
        have hq0in : (q0 : Int) ∈ lst := by rw [← hq0]; exact hin
        have hw1 := B.pos q0 hq0in
        have hcQ : cQ ds ks g2 q0 = natSum (((memL (stepsN ds ((q0 / 64 : Nat) : Int) ((q0 % 64 : Nat) : Int))).drop 0).map (cPart ds ks g2 v (q0 % 64))) := by
          rw [List.drop_zero, ← cW_succ]
          unfold cQ
          rw [← hfit.val h ht, hv, Int.toNat_natCast]
        obtain ⟨wa, la, r1, ⟨ext, r2⟩, r3, r4, r5, r6⟩ := cnt_l2 (n := n) hn h ht (lst0 := lst) (i := i) hfit hv hv2 (w0 := ways.getD q0 0) htot hone hw1 (fun p hp => by
          have := hdn p hp
          rw [hv] at this
          exact this) (K := fun y5 y6 y7 y8 y9 y10 y11 => spec_CountWays.l0 n K j y5 y6 y7 y8 y9 y10 (IntKind.wrap .i64 (y11 + (1 : Int)))) (i8 := (i : Int)) n 0 ways lst (by have := memL_length (stepsN ds ((q0 / 64 : Nat) : Int) ((q0 % 64 : Nat) : Int)); omega) (by omega) B ⟨[], by simp⟩ (fun p hp => by
            have := hnx' p hp
            rw [hv] at this
            omega) rfl (by rw [hsum, ← hcQ])
        rw [show ((0 : Nat) : Int) = 0 from rfl] at r6
        rw [r6, wi]
        have hlen2 := r1.len
        have htk2 : la.take (i + 1) = lst.take i ++ [(q0 : Int)] := by rw [r2, List.take_append_of_le_length (by omega), htk]
        refine cnt_l0 hn h ht hle htot j (i + 1) wa la (by omega) (by rw [r2, List.length_append]; omega) r1 (fun hi2 p hp => ?_) ?_
        · have hp1 := r3 p hp
          have hs := r1.srt
          have hil : i < la.length := by omega
          have := List.pairwise_iff_getElem.1 hs i (i + 1) hil hi2 (by omega)
          have e1 : la[i] = (q0 : Int) := by
            have : la.getD i 0 = (q0 : Int) := by
              rw [r2, List.getD_eq_getElem?_getD, List.getElem?_append_left c, ← List.getD_eq_getElem?_getD, hq0]
            rw [← this, List.getD_eq_getElem?_getD, List.getElem?_eq_getElem hil]; rfl
          have e2 : la[i + 1] = la.getD (i + 1) 0 := by rw [List.getD_eq_getElem?_getD, List.getElem?_eq_getElem hi2]; rfl
          rw [e1, e2, eq0, hv] at this
          omega
        · have hfeq : ∀ m, m ≠ 0 + q0 → fw ds ks g1 g2 lst i m = fw ds ks g1 g2 la (i + 1) m := by
            intro m hm
            unfold fw
            rw [htk2]
            have : ((m : Int) ∈ lst.take i ++ [(q0 : Int)] ∧ 0 < g1.getD m 0) ↔ ((m : Int) ∈ lst.take i ∧ 0 < g1.getD m 0) := by
              rw [List.mem_append, List.mem_singleton]
              constructor
              · rintro ⟨h1 | h1, h2⟩
                · exact ⟨h1, h2⟩
                · omega
              · rintro ⟨h1, h2⟩; exact ⟨.inl h1, h2⟩
            by_cases q : (m : Int) ∈ lst.take i ∧ 0 < g1.getD m 0
            · rw [if_pos (this.2 q), if_pos q]
            · rw [if_neg (fun w => q (this.1 w)), if_neg q]
          have hb := W_but wa (fw ds ks g1 g2 lst i) (fw ds ks g1 g2 la (i + 1)) 0 q0 (by rw [r1.wl]; exact hlt0) hfeq
          have hz : fw ds ks g1 g2 la (i + 1) q0 = 0 := by
            unfold fw
            rw [if_pos ⟨by rw [htk2]; simp, by rw [hv]; omega⟩]
          rw [Nat.zero_add, hF0, hz, r4, Int.sub_zero] at hb
          omega
    · have : i = lst.length := by omega
      subst this
      rw [if_neg (by simp)]
      exact ⟨ways, lst, B, hsum, rfl⟩
theorem isum_pos : ∀ {l : List Int}, (∀ a ∈ l, 0 ≤ a) → 0 ≤ isum l
  | [], _ => by simp [isum]
  | a :: l, h => by
    have := isum_pos (l := l) fun b hb => h b (List.mem_cons_of_mem _ hb)
    have := h a (List.mem_cons_self ..)
    simp only [isum]
    omega
theorem cnt_l4 {K : Int → Option (Int × Bool)} {l : List Int} (hl : l.length ≤ 1000) (hp : ∀ a ∈ l, 0 ≤ a) : ∀ (j c : Nat) (a : Int), l.length - c < j → 0 ≤ a → a + isum (l.drop c) ≤ (most : Int) → spec_CountWays.l4 n K j l a c = K (a + isum (l.drop c))
  | 0, c, a, hj, _, _ => by omega
  | j + 1, c, a, hj, ha, hb => by
    rw [spec_CountWays.l4]
    have hmost : most = 22876792454961 := rfl
    by_cases cc : c < l.length
    · have ec : (c : Int).toNat = c := by omega
      have wc : IntKind.wrap .i64 ((c : Int) + 1) = ((c + 1 : Nat) : Int) := by rw [w64s (by omega) (by omega)]; omega
      have hpos := hp _ (getD_mem (d := (0 : Int)) cc)
      have hdrop := getD_drop (d := (0 : Int)) cc
      rw [hdrop] at hb ⊢
      simp only [isum] at hb ⊢
      have hr := isum_pos (l := l.drop (c + 1)) fun b hb => hp b (List.mem_of_mem_drop hb)
      rw [if_pos (by simpa using cc), if_pos ⟨by omega, by omega⟩, ec, wc, w64s (by omega) (by omega), cnt_l4 hl hp j (c + 1) _ (by omega) (by omega) (by omega), Int.add_assoc]
    · rw [if_neg (by simpa using cc), List.drop_of_length_le (by omega)]
      simp [isum]
/-- Both count the same. -/
theorem CountWays_q (hn : 600000 ≤ n) : ∃ q : Int × Bool, spec_CountWays.F n N ds ks = some q ∧ impl_CountWays.F n N ds ks = some q ∧ (¬ VM N ds ks → q.2 = false) ∧ (VM N ds ks → q.2 = true ∧ ∃ s : Nat, ks.getD 0 0 = (s : Int) ∧ s < 64 ∧ ∃ v : Int, IsRem N ds ks 0 s v ∧ (q.1 > 0 ↔ 0 ≤ v)) := by
  classical
  unfold spec_CountWays.F impl_CountWays.F
  rw [l2Maze_val (by omega), IsMaze_val (by omega), Option.bind_some, Option.bind_some]
  by_cases h : VM N ds ks
  · simp only [h, decide_true, Bool.not_true, Bool.false_eq_true, if_false]
    obtain ⟨g1, a1, a2, a3⟩ := remainS_val (n := n) (by omega) h
    obtain ⟨g2, b1, b2, b3, b4⟩ := remain_val (n := n) hn h
    have ht : Tb N ds ks g1 g2 := ⟨a2, b2, a3, b4⟩
    have h1 := h.n1
    have h2 := h.n2
    have hkl := h.kl
    have hk := h.keys _ (getD_mem (l := ks) (i := 0) (d := (0 : Int)) (by omega))
    obtain ⟨s, hs⟩ : ∃ s : Nat, ks.getD 0 0 = (s : Int) := ⟨(ks.getD 0 0).toNat, by omega⟩
    have hs6 : s < 64 := by omega
    have hc : setK ks s 0 = s := by
      unfold setK
      rw [show (0 : Int).toNat = 0 from rfl, hs, Int.toNat_natCast, Nat.or_self]
    have hx : (0 : Int) ≤ 0 ∧ (0 : Int) < N := ⟨by omega, by omega⟩
    have hsame := ht.same h hx hs6 hc
    have hrem := b4 0 s (by omega) (by omega) hs6
    have hixl : ix 0 s < g2.length := by rw [b2]; unfold ix idI; omega
    have hle := b3 _ (getD_mem (d := (0 : Int)) hixl)
    obtain ⟨M', _, hmany⟩ := many_val h ht b3 768 n 0 s [] (by omega) hx hs6 (by omega) (by intro x' s' v' _ _ _ _ hq; cases hq)
    have hid : idI 0 (s : Int) = (s : Int) := by unfold idI; omega
    rw [hid] at hsame
    have es : (s : Int).toNat = s := by omega
    rw [es] at hsame
    rw [a1, b1, Option.bind_some, Option.bind_some, if_pos ⟨by omega, by omega⟩, if_pos ⟨by omega, by omega⟩, hs, l4Id_eq n (by omega) (by omega) (by omega) (by omega), Option.bind_some, hid, hmany, Option.bind_some,
      if_pos (show 0 ≤ (s : Int) ∧ (s : Int) < (g1.length : Int) by omega), es, hsame]
    by_cases c : g2.getD (ix 0 s) 0 < 0
    · rw [if_pos (decide_eq_true c)]
      refine ⟨(0, true), rfl, ?_, fun z => absurd trivial z, fun _ => ⟨rfl, s, rfl, hs6, _, hrem, by simp only; omega⟩⟩
      unfold cnt
      rw [if_pos c]
    · rw [if_neg fun q => c (of_decide_eq_true q), if_pos ⟨by omega, by omega, by omega⟩, if_pos ⟨by omega, by simp; omega⟩]
      have hfit : Fit N ks g1 s := ⟨by omega, by rw [show s % 64 = s by omega, show s / 64 = 0 by omega]; exact hc, by omega⟩
      have hC : cnt ds ks g2 0 s = ((cQ ds ks g2 s : Nat) : Int) := by
        unfold cnt cQ
        rw [if_neg c, show s % 64 = s by omega, show s / 64 = 0 by omega]
        rfl
      rw [hC]
      have hCpos := hfit.pos h ht
      have hCle := Fit.le h (g1 := g1) (g2 := g2) hfit.lt
      have hrepl : ∀ q : Nat, (List.replicate (64 * N.toNat) (0 : Int)).getD q 0 = 0 := fun q => by
        rw [List.getD_eq_getElem?_getD, List.getElem?_replicate]
        split <;> rfl
      have el : ((g1.length : Nat) : Int).toNat = 64 * N.toNat := by rw [a2]; omega
      rw [el]
      have hls : s < (List.replicate (64 * N.toNat) (0 : Int)).length := by rw [List.length_replicate]; omega
      have B0 : Base N ks g1 ((List.replicate (64 * N.toNat) (0 : Int)).set s 1) [(s : Int)] := by
        refine ⟨by rw [List.length_set, List.length_replicate], fun p hp => ?_, by simp, by simp, fun q hq hqo => ?_, fun q hq => ?_⟩
        · rw [List.mem_singleton] at hp
          exact ⟨s, hp, hfit⟩
        · rw [List.mem_singleton] at hqo
          rw [getD_set_ne _ _ _ (fun e => hqo (by rw [e]))]
          exact hrepl q
        · rw [List.mem_singleton] at hq
          have : q = s := by omega
          rw [this, set_getD' hls]
          omega
      have hW0 : W ((List.replicate (64 * N.toNat) (0 : Int)).set s 1) (fw ds ks g1 g2 [(s : Int)] 0) 0 = ((cQ ds ks g2 s : Nat) : Int) := by
        have := W_set (List.replicate (64 * N.toNat) (0 : Int)) (fw ds ks g1 g2 [(s : Int)] 0) 0 s 1 hls
        rw [hrepl s, Int.zero_add] at this
        rw [this, Nat.zero_add]
        have hz : W (List.replicate (64 * N.toNat) (0 : Int)) (fw ds ks g1 g2 [(s : Int)] 0) 0 = 0 := by
          rw [W_congr _ _ (fun _ => 0) 0 fun i hi => by rw [hrepl i]; simp]
          have : ∀ (l : List Int) (k : Nat), W l (fun _ => 0) k = 0 := by
            intro l
            induction l with
            | nil => intro k; rfl
            | cons a l ih => intro k; simp [W, ih]
          exact this _ _
        have hf : fw ds ks g1 g2 [(s : Int)] 0 s = ((cQ ds ks g2 s : Nat) : Int) := by
          unfold fw
          rw [if_neg (by simp)]
        rw [hz, hf]
        omega
      unfold spec_CountWays.c8
      obtain ⟨wa, la, r1, r2, r3⟩ := cnt_l0 (n := n) (by omega) h ht b3 (total := ((cQ ds ks g2 s : Nat) : Int)) (by omega) (K := fun y12 y13 y14 y15 => spec_CountWays.c22 n y12 y13 y14 y15) n 0 _ [(s : Int)] (by omega) (by simp) B0 (fun _ p hp => by
        rw [List.mem_singleton] at hp
        rw [hp]
        simp only [List.getD_cons_zero]
        omega) hW0
      rw [show ((0 : Nat) : Int) = 0 from rfl] at r3
      rw [r3]
      unfold spec_CountWays.c22
      rw [w64s (x := N - 1) (by omega) (by omega), l4Id_eq n (by omega) (by omega) (by omega) (by omega), Option.bind_some]
      have hgid : idI (N - 1) 0 = ((64 * (N.toNat - 1) : Nat) : Int) := by unfold idI; omega
      have hnn : ∀ a ∈ wa, 0 ≤ a := fun a ha => by
        obtain ⟨i, hi, rfl⟩ := List.getElem_of_mem ha
        have := r1.ge hi
        rwa [List.getD_eq_getElem?_getD, List.getElem?_eq_getElem hi] at this
      have hgoal : isum (wa.drop (64 * (N.toNat - 1))) = ((cQ ds ks g2 s : Nat) : Int) := by
        have := W_from (64 * (N.toNat - 1)) wa 0
        rw [Nat.sub_zero] at this
        rw [← this, ← r2]
        refine W_congr _ _ _ _ fun q hq => ?_
        rw [Nat.zero_add]
        by_cases hin : (q : Int) ∈ la
        · obtain ⟨q', hq', hf⟩ := r1.ok _ hin
          have : q' = q := by omega
          subst this
          congr 1
          have hval := hf.val h ht
          have hlt := hf.lt
          have hr := b4 ((q' / 64 : Nat) : Int) (q' % 64) (by omega) (by omega) (Nat.mod_lt _ (by omega))
          rw [← hval] at hr
          unfold fw
          rw [List.take_length]
          by_cases hz : g1.getD q' 0 = 0
          · have hnode : ((q' / 64 : Nat) : Int) = N - 1 := by
              rcases hr with ⟨_, hr, _⟩ | ⟨hr, _⟩
              · rw [hz] at hr; exact hr
              · omega
            rw [if_pos (by omega), if_neg (by rw [hz]; omega)]
            unfold cQ
            rw [← hval, hz]
            rfl
          · have hpos : 0 < g1.getD q' 0 := by have := hf.ge; omega
            have hnode : ¬ ((q' / 64 : Nat) : Int) = N - 1 := by
              intro e
              rcases hr with ⟨_, _, hr⟩ | ⟨hr, _⟩
              · have := hr 0 e
                omega
              · omega
            rw [if_neg (by omega), if_pos ⟨hin, hpos⟩]
        · rw [r1.out q (by rw [← r1.wl]; exact hq) hin]
          simp
      have hwl := r1.wl
      rw [hgid, cnt_l4 (n := n) (by omega) hnn n (64 * (N.toNat - 1)) 0 (by omega) (by omega) (by rw [hgoal]; omega), hgoal, Int.zero_add]
      exact ⟨_, rfl, rfl, fun z => absurd trivial z, fun _ => ⟨rfl, s, rfl, hs6, _, hrem, by simp only; omega⟩⟩
  · simp only [h, decide_false, Bool.not_false, if_true]
    exact ⟨(0, false), rfl, rfl, fun _ => rfl, fun z => absurd z (by simp)⟩
end
end Go.Pv
