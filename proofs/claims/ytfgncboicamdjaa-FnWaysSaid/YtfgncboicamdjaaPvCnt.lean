/- Plain laws: how many shortest ways there are, and that they are few enough to be counted. -/
import Derived.Test.YtfgncboicamdjaaPvWayT
set_option linter.unusedVariables false
set_option linter.unusedSimpArgs false
set_option autoImplicit false
namespace Go.Pv
open Go Go.Fx Go.Pf

/-! ### Sums -/
def natSum : List Nat → Nat
  | [] => 0
  | a :: l => a + natSum l
theorem natSum_mul (k : Nat) : ∀ l : List Nat, natSum (l.map fun a => k * a) = k * natSum l
  | [] => rfl
  | a :: l => by simp [natSum, natSum_mul k l, Nat.mul_add]
theorem cube_sum : ∀ (l : List Nat) (A : Nat), (∀ t ∈ l, t ^ 3 ≤ A) → ∃ m, m ^ 3 ≤ A ∧ natSum l ≤ l.length * m
  | [], A, _ => ⟨0, by simp, by simp [natSum]⟩
  | a :: l, A, h => by
    obtain ⟨m, h1, h2⟩ := cube_sum l A fun t ht => h t (List.mem_cons_of_mem _ ht)
    have ha := h a (List.mem_cons_self ..)
    rcases Nat.le_total a m with c | c
    · refine ⟨m, h1, ?_⟩
      simp only [natSum, List.length_cons, Nat.succ_mul]
      omega
    · refine ⟨a, ha, ?_⟩
      simp only [natSum, List.length_cons, Nat.succ_mul]
      have := Nat.mul_le_mul_left l.length c
      omega
theorem cube_le (k : Nat) (h : k ≤ 12) : k ^ 3 ≤ 3 ^ k := by
  have : ∀ i : Fin 13, i.val ^ 3 ≤ 3 ^ i.val := by decide +kernel
  exact this ⟨k, by omega⟩
def popc (s : Nat) : Nat := (List.range 6).countP fun i => s.testBit i
theorem popc_le (s : Nat) : popc s ≤ 6 := by
  have := List.countP_le_length (p := fun i => s.testBit i) (l := List.range 6)
  simpa [popc] using this
theorem popc_or_all : ((List.range 64).all fun a => (List.range 64).all fun b => (a ||| b == a) || Nat.ble (popc a + 1) (popc (a ||| b))) = true := by decide +kernel
theorem popc_or {a b : Nat} (ha : a < 64) (hb : b < 64) (h : a ||| b ≠ a) : popc a + 1 ≤ popc (a ||| b) := by
  have h1 := List.all_eq_true.1 popc_or_all a (List.mem_range.2 ha)
  have h2 := List.all_eq_true.1 h1 b (List.mem_range.2 hb)
  rw [Bool.or_eq_true] at h2
  rcases h2 with h2 | h2
  · exact absurd (by simpa using h2) h
  · exact Nat.le_of_ble_eq_true h2

section
variable {n : Nat} {N : Int} {ds : List (Int × Int × Int)} {ks : List Int}
/-- The number of ways from a state, that take so many steps. -/
def cW (ds : List (Int × Int × Int)) (ks g2 : List Int) : Nat → Int → Nat → Nat
  | 0, x, s => 1
  | v + 1, x, s => natSum ((memL (stepsN ds x (s : Int))).map fun z => if g2.getD (ix z (setK ks s z)) 0 = (v : Int) then cW ds ks g2 v z (setK ks s z) else 0)
/-- One state's part. -/
def cPart (ds : List (Int × Int × Int)) (ks g2 : List Int) (v : Nat) (s : Nat) (z : Int) : Nat := if g2.getD (ix z (setK ks s z)) 0 = (v : Int) then cW ds ks g2 v z (setK ks s z) else 0
theorem cW_succ (g2 : List Int) (v : Nat) (x : Int) (s : Nat) : cW ds ks g2 (v + 1) x s = natSum ((memL (stepsN ds x (s : Int))).map (cPart ds ks g2 v s)) := rfl
/-- The nodes with fewer steps to go, with such a set. -/
def near (N : Int) (ks g2 : List Int) (s r : Nat) : Nat := (List.range N.toNat).countP fun y : Nat => decide (0 ≤ g2.getD (ix (y : Int) (setK ks s (y : Int))) 0 ∧ g2.getD (ix (y : Int) (setK ks s (y : Int))) 0 < (r : Int))
def same (N : Int) (ks g2 : List Int) (s r : Nat) : Nat := (List.range N.toNat).countP fun y : Nat => decide (g2.getD (ix (y : Int) (setK ks s (y : Int))) 0 = (r : Int))
theorem near_le (h : VM N ds ks) (g2 : List Int) (s r : Nat) : near N ks g2 s r ≤ 12 := by
  have h2 := h.n2
  have := List.countP_le_length (p := fun y : Nat => decide (0 ≤ g2.getD (ix (y : Int) (setK ks s (y : Int))) 0 ∧ g2.getD (ix (y : Int) (setK ks s (y : Int))) 0 < (r : Int))) (l := List.range N.toNat)
  rw [List.length_range] at this
  unfold near
  omega
theorem countP_split3 {α : Type} (p q r : α → Bool) : ∀ l : List α, (∀ a ∈ l, (r a = true ↔ p a = true ∨ q a = true) ∧ ¬ (p a = true ∧ q a = true)) → l.countP r = l.countP p + l.countP q
  | [], _ => rfl
  | a :: l, h => by
    have ih := countP_split3 p q r l fun b hb => h b (List.mem_cons_of_mem _ hb)
    obtain ⟨h1, h2⟩ := h a (List.mem_cons_self ..)
    simp only [List.countP_cons]
    cases hp : p a <;> cases hq : q a <;> cases hr : r a <;> simp_all <;> omega
theorem near_succ (g2 : List Int) (s r : Nat) : near N ks g2 s (r + 1) = near N ks g2 s r + same N ks g2 s r := by
  unfold near same
  refine countP_split3 _ _ _ _ fun y _ => ?_
  simp only [decide_eq_true_eq]
  omega
theorem asc_count : ∀ {l : List Int} {M : Nat} (p : Int → Bool), Asc l → (∀ z ∈ l, 0 ≤ z ∧ z < (M : Int)) → l.countP p ≤ (List.range M).countP fun y : Nat => p (y : Int)
  | l, 0, p, ha, hr => by
    cases l with
    | nil => simp
    | cons a l => have := hr a (List.mem_cons_self ..); omega
  | l, M + 1, p, ha, hr => by
    rw [List.range_succ, List.countP_append, List.countP_singleton]
    -- the greatest one is last
    by_cases hm : (M : Int) ∈ l
    · obtain ⟨l1, l2, rfl⟩ := List.append_of_mem hm
      have hp := List.pairwise_append.1 ha
      have hl2 : l2 = [] := by
        cases l2 with
        | nil => rfl
        | cons b l2 =>
          have h1 := (List.pairwise_cons.1 hp.2.1).1 b (List.mem_cons_self ..)
          have h2 := hr b (by simp)
          omega
      subst hl2
      rw [List.countP_append, List.countP_singleton]
      have := asc_count (l := l1) (M := M) p hp.1 fun z hz => by
        have h1 := hp.2.2 z hz (M : Int) (by simp)
        have h2 := hr z (by simp [hz])
        omega
      omega
    · have := asc_count (l := l) (M := M) p ha fun z hz => by
        have h2 := hr z hz
        have : z ≠ (M : Int) := fun e => hm (e ▸ hz)
        omega
      omega
theorem sum_parts (g2 : List Int) (v s : Nat) : ∀ l : List Int, natSum (l.map (cPart ds ks g2 v s)) = natSum ((l.filter fun z => decide (g2.getD (ix z (setK ks s z)) 0 = (v : Int))).map fun z => cW ds ks g2 v z (setK ks s z))
  | [] => rfl
  | z :: l => by
    simp only [List.map_cons, natSum, List.filter_cons, cPart, sum_parts g2 v s l]
    by_cases c : g2.getD (ix z (setK ks s z)) 0 = (v : Int)
    · rw [if_pos c, if_pos (by simpa using c)]
      rfl
    · rw [if_neg c, if_neg (by simpa using c), Nat.zero_add]
theorem cW_cube (h : VM N ds ks) (g2 : List Int) : ∀ (v : Nat) (x : Int) (s : Nat), 0 ≤ x ∧ x < N → s < 64 → (cW ds ks g2 v x s) ^ 3 ≤ 3 ^ (near N ks g2 s v + 12 * (6 - popc s))
  | 0, x, s, hx, hs => by
    rw [cW]
    have : 0 < 3 ^ (near N ks g2 s 0 + 12 * (6 - popc s)) := Nat.pow_pos (by omega)
    omega
  | v + 1, x, s, hx, hs => by
    rw [cW_succ, sum_parts]
    obtain ⟨m, hm1, hm2⟩ := cube_sum ((((memL (stepsN ds x (s : Int))).filter fun z => decide (g2.getD (ix z (setK ks s z)) 0 = (v : Int))).map fun z => cW ds ks g2 v z (setK ks s z))) (3 ^ (near N ks g2 s v + 12 * (6 - popc s))) (by
      intro t ht
      obtain ⟨z, hz, rfl⟩ := List.mem_map.1 ht
      have hz1 := (List.mem_filter.1 hz).1
      have hzr := steps_mem h hz1
      have hs' := (setK_val h hzr hs).2
      have ih := cW_cube h g2 v z (setK ks s z) hzr hs'
      by_cases e : setK ks s z = s
      · rw [e] at ih ⊢
        exact ih
      · have hkl := h.kl
        have hk := h.keys _ (getD_mem (l := ks) (i := z.toNat) (d := (0 : Int)) (by omega))
        have hp := popc_or (a := s) (b := (ks.getD z.toNat 0).toNat) hs (by omega) e
        have hp' : popc s + 1 ≤ popc (setK ks s z) := hp
        have h6 := popc_le (setK ks s z)
        have hn := near_le h g2 (setK ks s z) v
        refine Nat.le_trans ih (Nat.pow_le_pow_right (by omega) ?_)
        omega)
    have hcnt : (((memL (stepsN ds x (s : Int))).filter fun z => decide (g2.getD (ix z (setK ks s z)) 0 = (v : Int))).map fun z => cW ds ks g2 v z (setK ks s z)).length ≤ same N ks g2 s v := by
      rw [List.length_map, ← List.countP_eq_length_filter]
      have h1 := h.n1
      exact asc_count (M := N.toNat) (fun z => decide (g2.getD (ix z (setK ks s z)) 0 = (v : Int))) (memL_asc _) fun z hz => by
        have := steps_mem h hz
        omega
    generalize hk : (((memL (stepsN ds x (s : Int))).filter fun z => decide (g2.getD (ix z (setK ks s z)) 0 = (v : Int))).map fun z => cW ds ks g2 v z (setK ks s z)).length = k at *
    have hk12 : same N ks g2 s v ≤ 12 := by
      have h2 := h.n2
      have := List.countP_le_length (p := fun y : Nat => decide (g2.getD (ix (y : Int) (setK ks s (y : Int))) 0 = (v : Int))) (l := List.range N.toNat)
      rw [List.length_range] at this
      unfold same
      omega
    refine Nat.le_trans (Nat.pow_le_pow_left hm2 3) ?_
    rw [Nat.mul_pow, near_succ]
    have h3 := cube_le k (by omega)
    have h4 : 3 ^ k ≤ 3 ^ same N ks g2 s v := Nat.pow_le_pow_right (by omega) hcnt
    have h5 := Nat.mul_le_mul (Nat.le_trans h3 h4) hm1
    rw [← Nat.pow_add] at h5
    rw [show near N ks g2 s v + same N ks g2 s v + 12 * (6 - popc s) = same N ks g2 s v + (near N ks g2 s v + 12 * (6 - popc s)) by omega]
    exact h5
def most : Nat := 22876792454961
theorem cW_le (h : VM N ds ks) (g2 : List Int) (v : Nat) {x : Int} {s : Nat} (hx : 0 ≤ x ∧ x < N) (hs : s < 64) : cW ds ks g2 v x s ≤ most := by
  have h1 := cW_cube h g2 v x s hx hs
  have hn := near_le h g2 s v
  have h2 : 3 ^ (near N ks g2 s v + 12 * (6 - popc s)) ≤ 3 ^ 84 := Nat.pow_le_pow_right (by omega) (by omega)
  have h3 : (3 : Nat) ^ 84 = most ^ 3 := by decide +kernel
  rw [h3] at h2
  exact (Nat.pow_le_pow_iff_left (by omega)).1 (Nat.le_trans h1 h2)

/-! ### The program's way: counted anew for each state once -/
def MapOk (N : Int) (ds : List (Int × Int × Int)) (ks g2 : List Int) (M : List ((Int × Int) × Int)) : Prop :=
  ∀ (x : Int) (s : Nat) (v : Int), 0 ≤ x → x < N → s < 64 → 0 < g2.getD (ix x s) 0 → mapGet x (s : Int) M = some v → v = ((cW ds ks g2 (g2.getD (ix x s) 0).toNat x s : Nat) : Int)
theorem mapGet_put (a b c d v : Int) : ∀ M : List ((Int × Int) × Int), mapGet a b (mapPut c d v M) = if a = c ∧ b = d then some v else mapGet a b M
  | [] => by
    simp only [mapPut, mapGet]
  | e :: M => by
    unfold mapPut
    by_cases q : c = e.1.1 ∧ d = e.1.2
    · rw [if_pos q]
      simp only [mapGet]
      by_cases p : a = c ∧ b = d
      · rw [if_pos p, if_pos (by rw [p.1, p.2]; exact q)]
      · rw [if_neg p, if_neg (fun w => p ⟨w.1.trans q.1.symm, w.2.trans q.2.symm⟩), if_neg (fun w => p ⟨w.1.trans q.1.symm, w.2.trans q.2.symm⟩)]
    · rw [if_neg q]
      simp only [mapGet, mapGet_put a b c d v M]
      by_cases p : a = e.1.1 ∧ b = e.1.2
      · rw [if_pos p, if_neg (fun w => q ⟨w.1.symm.trans p.1, w.2.symm.trans p.2⟩), if_pos p]
      · rw [if_neg p, if_neg p]
abbrev MR := Option (Int × List ((Int × Int) × Int))
theorem many_l0 (h : VM N ds ks) {g2 : List Int} (hg : g2.length = 768) {x : Int} {s v : Nat} (hx : 0 ≤ x ∧ x < N) (hs : s < 64) (hv : g2.getD (ix x s) 0 = ((v + 1 : Nat) : Int)) (hv2 : v ≤ 1000)
    {rec : Int → Int → List Int → List ((Int × Int) × Int) → Int → List (Int × Int × Int) → List Int → MR} {K : Int → Int → List ((Int × Int) × Int) → Int → MR} {zs : List Int} (hz : ∀ z ∈ zs, z ∈ memL (stepsN ds x (s : Int))) (hzl : zs.length ≤ 12)
    (hrec : ∀ z ∈ zs, g2.getD (ix z (setK ks s z)) 0 = (v : Int) → ∀ M, MapOk N ds ks g2 M → ∃ M', MapOk N ds ks g2 M' ∧ rec z ((setK ks s z : Nat) : Int) g2 M N ds ks = some (((cW ds ks g2 v z (setK ks s z) : Nat) : Int), M')) :
    ∀ (j c : Nat) (M : List ((Int × Int) × Int)) (acc : Nat), zs.length - c < j → c ≤ zs.length → MapOk N ds ks g2 M → acc + natSum ((zs.drop c).map (cPart ds ks g2 v s)) ≤ most →
      ∃ M', MapOk N ds ks g2 M' ∧ impl_CountWays_1.l0 rec n K j x s g2 M N ds ks acc zs zs.length c = K x s M' ((acc + natSum ((zs.drop c).map (cPart ds ks g2 v s)) : Nat) : Int)
  | 0, c, M, acc, hj, _, _, _ => by omega
  | j + 1, c, M, acc, hj, hc, hM, hb => by
    rw [impl_CountWays_1.l0]
    by_cases cc : (c : Int) < (zs.length : Int)
    · have ci : c < zs.length := by omega
      have ec : (c : Int).toNat = c := by omega
      have k2 : 0 ≤ (c : Int) ∧ (c : Int) < (zs.length : Int) := ⟨by omega, cc⟩
      have wc : IntKind.wrap .i64 ((c : Int) + 1) = ((c + 1 : Nat) : Int) := by rw [w64s (by omega) (by omega)]; omega
      have hzin := getD_mem (d := (0 : Int)) ci
      have hzm := hz _ hzin
      have hr := hrec _ hzin
      have hdrop := getD_drop (d := (0 : Int)) ci
      rw [if_pos (by simpa using cc), if_pos k2, ec, wc]
      rw [hdrop] at hb ⊢
      generalize zs.getD c 0 = z at *
      have hzr := steps_mem h hzm
      obtain ⟨o1, o2⟩ := setK_val h hzr hs
      have hkl := h.kl
      have h2 := h.n2
      have k3 : 0 ≤ z ∧ z < (ks.length : Int) := ⟨hzr.1, by omega⟩
      have k4 : 0 ≤ z ∧ z < (12 : Int) ∧ 0 + z.toNat * 64 < 768 := by omega
      have ei1 : 0 + z.toNat * 64 + ((setK ks s z : Nat) : Int).toNat * 1 = ix z (setK ks s z) := by unfold ix idI; omega
      have ei2 : 0 + x.toNat * 64 + (s : Int).toNat * 1 = ix x s := by unfold ix idI; omega
      have k5 : 0 ≤ ((setK ks s z : Nat) : Int) ∧ ((setK ks s z : Nat) : Int) < (64 : Int) ∧ 0 + z.toNat * 64 + ((setK ks s z : Nat) : Int).toNat * 1 < 768 := by omega
      have k6 : 0 ≤ x ∧ x < (12 : Int) ∧ 0 + x.toNat * 64 < 768 := by omega
      have k7 : 0 ≤ (s : Int) ∧ (s : Int) < (64 : Int) ∧ 0 + x.toNat * 64 + (s : Int).toNat * 1 < 768 := by omega
      rw [if_pos k3, if_pos k4, o1, if_pos k5, if_pos k6, if_pos k7, ei1, ei2, hv, w64s (x := ((v + 1 : Nat) : Int) - 1) (by omega) (by omega), show (((v + 1 : Nat) : Int) - 1) = (v : Int) by omega]
      simp only [List.map_cons, natSum] at hb ⊢
      by_cases q : g2.getD (ix z (setK ks s z)) 0 = (v : Int)
      · have hp : cPart ds ks g2 v s z = cW ds ks g2 v z (setK ks s z) := by unfold cPart; rw [if_pos q]
        rw [hp] at hb ⊢
        obtain ⟨M1, hM1, e1⟩ := hr q M hM
        rw [if_pos (by simpa using q), e1, Option.bind_some]
        have hmost : most = 22876792454961 := rfl
        rw [w64s (x := (acc : Int) + ((cW ds ks g2 v z (setK ks s z) : Nat) : Int)) (by omega) (by omega), show (acc : Int) + ((cW ds ks g2 v z (setK ks s z) : Nat) : Int) = ((acc + cW ds ks g2 v z (setK ks s z) : Nat) : Int) by omega]
        obtain ⟨M2, hM2, e2⟩ := many_l0 h hg hx hs hv hv2 (K := K) hz hzl hrec j (c + 1) M1 (acc + cW ds ks g2 v z (setK ks s z)) (by omega) (by omega) hM1 (by omega)
        exact ⟨M2, hM2, by rw [e2, Nat.add_assoc]⟩
      · have hp : cPart ds ks g2 v s z = 0 := by unfold cPart; rw [if_neg q]
        rw [hp, Nat.zero_add] at hb ⊢
        rw [if_neg (by simpa using q)]
        exact many_l0 h hg hx hs hv hv2 (K := K) hz hzl hrec j (c + 1) M acc (by omega) (by omega) hM hb
    · have : c = zs.length := by omega
      subst this
      rw [if_neg (by simp), List.drop_length]
      exact ⟨M, hM, by simp [natSum]⟩
/-- The number of ways, by the number of steps: none, or one at the goal, or so many. -/
def cnt (ds : List (Int × Int × Int)) (ks g2 : List Int) (x : Int) (s : Nat) : Int := if g2.getD (ix x s) 0 < 0 then 0 else ((cW ds ks g2 (g2.getD (ix x s) 0).toNat x s : Nat) : Int)
theorem many_val (h : VM N ds ks) {g1 g2 : List Int} (ht : Tb N ds ks g1 g2) (hle : ∀ e ∈ g2, e ≤ 768) : ∀ (v m : Nat) (x : Int) (s : Nat) (M : List ((Int × Int) × Int)), v + 1000 ≤ m → 0 ≤ x ∧ x < N → s < 64 → g2.getD (ix x s) 0 ≤ (v : Int) → MapOk N ds ks g2 M →
    ∃ M', MapOk N ds ks g2 M' ∧ impl_CountWays_1.F m x s g2 M N ds ks = some (cnt ds ks g2 x s, M')
  | v, 0, x, s, M, hm, _, _, _, _ => by omega
  | v, m + 1, x, s, M, hm, hx, hs, hv, hM => by
    rw [impl_CountWays_1.F]
    have h2 := h.n2
    have ei2 : 0 + x.toNat * 64 + (s : Int).toNat * 1 = ix x s := by unfold ix idI; omega
    have k6 : 0 ≤ x ∧ x < (12 : Int) ∧ 0 + x.toNat * 64 < 768 := by omega
    have k7 : 0 ≤ (s : Int) ∧ (s : Int) < (64 : Int) ∧ 0 + x.toNat * 64 + (s : Int).toNat * 1 < 768 := by omega
    have hixl : ix x s < g2.length := by rw [ht.l2]; unfold ix idI; omega
    have hr := ht.t2 x s hx.1 hx.2 hs
    rw [if_pos k6, if_pos k7, if_pos k6, if_pos k7, ei2]
    by_cases c : g2.getD (ix x s) 0 ≤ 0
    · rw [if_pos (by simpa using c)]
      refine ⟨M, hM, ?_⟩
      rcases hr with ⟨h1, _⟩ | ⟨h1, _⟩
      · have h0 : g2.getD (ix x s) 0 = 0 := by omega
        rw [h0, cnt, h0]
        rfl
      · rw [h1, cnt, h1]
        rfl
    · rw [if_neg (by simpa using c)]
      have hcnt : cnt ds ks g2 x s = ((cW ds ks g2 (g2.getD (ix x s) 0).toNat x s : Nat) : Int) := by unfold cnt; rw [if_neg (by omega)]
      rw [hcnt]
      cases hq : mapGet x (s : Int) M with
      | some y =>
        have := hM x s y hx.1 hx.2 hs (by omega) hq
        rw [if_pos (show (some y).isSome = true from rfl), Option.getD_some, this]
        exact ⟨M, hM, rfl⟩
      | none =>
        rw [if_neg (by simp)]
        obtain ⟨u, hu⟩ : ∃ u : Nat, g2.getD (ix x s) 0 = ((u + 1 : Nat) : Int) := ⟨(g2.getD (ix x s) 0).toNat - 1, by omega⟩
        obtain ⟨v', rfl⟩ : ∃ v', v = v' + 1 := ⟨v - 1, by omega⟩
        have hub : u ≤ 1000 := by
          have := hle _ (getD_mem (d := (0 : Int)) hixl)
          omega
        rw [steps_eq (by omega) h, Option.bind_some, members_eq (by omega) (stepsN_lt h _ _), Option.bind_some]
        have hml := memL_length (stepsN ds x (s : Int))
        obtain ⟨M1, hM1, e1⟩ := many_l0 (n := m) h ht.l2 hx hs hu hub (rec := impl_CountWays_1.F m) (K := fun y4 y5 y6 y7 => some (y7, mapPut y4 y5 y7 y6)) (zs := memL (stepsN ds x (s : Int))) (fun z hz => hz) hml (by
          intro z hz hzv M2 hM2
          have hzr := steps_mem h hz
          obtain ⟨M3, hM3, e3⟩ := many_val h ht hle v' m z (setK ks s z) M2 (by omega) hzr (setK_val h hzr hs).2 (by rw [hzv]; omega) hM2
          refine ⟨M3, hM3, ?_⟩
          rw [e3, cnt, hzv, if_neg (by omega)]
          rfl) m 0 M 0 (by omega) (by omega) hM (by
            rw [List.drop_zero, Nat.zero_add, ← cW_succ]
            exact cW_le h g2 (u + 1) hx hs)
        rw [show ((0 : Nat) : Int) = 0 from rfl] at e1
        rw [e1, List.drop_zero, Nat.zero_add, ← cW_succ, hu, Int.toNat_natCast]
        refine ⟨_, ?_, rfl⟩
        intro x' s' v2 h1' h2' h3' h4' h5'
        rw [mapGet_put] at h5'
        split at h5'
        · rename_i q
          have e1 : x' = x := q.1
          have e2 : s' = s := by omega
          subst e1; subst e2
          cases h5'
          rw [hu, Int.toNat_natCast]
        · exact hM1 x' s' v2 h1' h2' h3' h4' h5'
end
end Go.Pv
