/- Plain laws: the table of the steps that remain, told by the spec and by the implementation. -/
import Derived.Test.YtdejcakkibabcaaPvWayT
import Derived.Test.YtdejcakkibabcaaPvFrom
set_option linter.unusedVariables false
set_option linter.unusedSimpArgs false
set_option autoImplicit false
namespace Go.Pv
open Go Go.Fx Go.Pf

/-- A row of the table. -/
def remRow (g : List Int) (x : Nat) : List Int := (g.drop (64 * x)).take 64
/-- The table. -/
def remTab (N : Int) (g : List Int) : List (List Int) := (List.range N.toNat).map (remRow g)
section
variable {n : Nat} {N : Int} {ds : List (Int × Int × Int)} {ks : List Int}
theorem remRow_len {g : List Int} (hg : g.length = 64 * N.toNat) {x : Nat} (hx : x < N.toNat) : (remRow g x).length = 64 := by
  unfold remRow
  rw [List.length_take, List.length_drop]
  omega
theorem remRow_get {g : List Int} (hg : g.length = 64 * N.toNat) {x s : Nat} (hx : x < N.toNat) (hs : s < 64) : (remRow g x).getD s 0 = g.getD (64 * x + s) 0 := by
  unfold remRow
  rw [List.getD_eq_getElem?_getD, List.getElem?_take_of_lt hs, List.getElem?_drop, ← List.getD_eq_getElem?_getD]
theorem remTab_len (g : List Int) : (remTab N g).length = N.toNat := by unfold remTab; rw [List.length_map, List.length_range]
theorem remTab_get {g : List Int} {x : Nat} (hx : x < N.toNat) : (remTab N g).getD x [] = remRow g x := by
  unfold remTab
  rw [List.getD_eq_getElem?_getD, List.getElem?_map, List.getElem?_range hx]
  rfl
theorem remTab_take {g : List Int} {x : Nat} (hx : x < N.toNat) : (remTab N g).take (x + 1) = (remTab N g).take x ++ [remRow g x] := by
  have hl := remTab_len (N := N) g
  rw [List.take_succ_eq_append_getElem (by omega)]
  congr 2
  unfold remTab
  simp
theorem remS_l0 (hn : 40 ≤ n) (h : VM N ds ks) {g : List Int} (hg : g.length = 64 * N.toNat) {K : List (List Int) → Option (List (List Int) × Bool)} : ∀ (j x : Nat), N.toNat - x < j → x ≤ N.toNat →
    spec_RemainTable.l0 n K j N ds ks ((remTab N g).take x) g (x : Int) = K (remTab N g)
  | 0, x, hj, hx => by omega
  | j + 1, x, hj, hx => by
    rw [spec_RemainTable.l0]
    have h1 := h.n1
    have h2 := h.n2
    have hl := remTab_len (N := N) g
    by_cases c : x < N.toNat
    · have k1 : decide ((x : Int) < N) = true := by rw [decide_eq_true_eq]; omega
      have wx : IntKind.wrap .i64 ((x : Int) + 1) = ((x + 1 : Nat) : Int) := by rw [w64s (by omega) (by omega)]; omega
      have i1 : idI (x : Int) 0 = ((64 * x : Nat) : Int) := by unfold idI; omega
      have i2 : idI ((x + 1 : Nat) : Int) 0 = ((64 * (x + 1) : Nat) : Int) := by unfold idI; omega
      have e1 : ((64 * x : Nat) : Int).toNat = 64 * x := by omega
      have e2 : ((64 * (x + 1) : Nat) : Int).toNat - 64 * x = 64 := by omega
      have hrow : ((g.drop (64 * x)).take 64).length ≤ 64 := by rw [List.length_take]; omega
      rw [if_pos k1, l4Id_eq n (by omega) (by omega) (by omega) (by omega), Option.bind_some, wx, l4Id_eq n (by omega) (by omega) (by omega) (by omega), Option.bind_some, i1, i2, if_pos ⟨by omega, by omega, by omega⟩, e1, e2]
      unfold spec_l1Own.F
      rw [if_pos (by simp only [List.length_nil]; omega), Option.bind_some, if_pos (by rw [List.length_take]; omega), List.nil_append]
      have := remS_l0 hn h hg (K := K) j (x + 1) (by omega) (by omega)
      rw [remTab_take c] at this
      exact this
    · have k1 : ¬ decide ((x : Int) < N) = true := by rw [decide_eq_true_eq]; omega
      rw [if_neg k1, List.take_of_length_le (by omega)]
theorem remI_l2 (h : VM N ds ks) {g1 g2 : List Int} (ht : Tb N ds ks g1 g2) {x : Nat} (hx : x < N.toNat) {T : List (List Int)} {a b : Int}
    {K : Int → (List (Int × Int × Int)) → (List (Int)) → (List Int) → (List (List Int)) → (List (Int)) → Int → Int → Option ((List (List Int)) × Bool)} : ∀ (j s : Nat), 64 - s < j → s ≤ 64 →
    impl_RemainTable.l2 n K j N ds ks g2 T (x : Int) ((remRow g1 x).take s) a b (s : Int) = K N ds ks g2 T (remRow g1 x) a b
  | 0, s, hj, hs => by omega
  | j + 1, s, hj, hs => by
    rw [impl_RemainTable.l2]
    have h1 := h.n1
    have h2 := h.n2
    have hkl := h.kl
    have hl := remRow_len ht.l1 hx
    by_cases c : s < 64
    · have k1 : decide ((s : Int) < 64) = true := by rw [decide_eq_true_eq]; omega
      have ws : IntKind.wrap .i64 ((s : Int) + 1) = ((s + 1 : Nat) : Int) := by rw [w64s (by omega) (by omega)]; omega
      obtain ⟨o1, o2⟩ := setK_val h (z := (x : Int)) ⟨by omega, by omega⟩ c
      have ex : (x : Int).toNat = x := by omega
      rw [if_pos k1, if_pos ⟨by omega, by omega⟩, if_pos ⟨by omega, by omega, by omega⟩, o1, if_pos ⟨by omega, by omega, by omega⟩, if_pos (by simp only [List.length_take, List.length_singleton]; omega), ws]
      have hix : 0 + (x : Int).toNat * 64 + ((setK ks s (x : Int) : Nat) : Int).toNat * 1 = ix (x : Int) (setK ks s (x : Int)) := by unfold ix idI; omega
      have hv : g2.getD (ix (x : Int) (setK ks s (x : Int))) 0 = g1.getD (64 * x + s) 0 := by
        have t2 := ht.t2 (x : Int) (setK ks s (x : Int)) (by omega) (by omega) o2
        have t1 := ht.t1 (64 * x + s) (by omega)
        have q1 : (64 * x + s) / 64 = x := by omega
        have q2 : (64 * x + s) % 64 = s := by omega
        unfold hK at t1
        rw [q1, q2] at t1
        exact t2.unique t1
      rw [hix, hv]
      have hg : (remRow g1 x).take s ++ [g1.getD (64 * x + s) 0] = (remRow g1 x).take (s + 1) := by
        rw [List.take_succ_eq_append_getElem (by omega)]
        congr 2
        have := remRow_get ht.l1 hx c
        rw [List.getD_eq_getElem?_getD, List.getElem?_eq_getElem (by omega)] at this
        exact this.symm
      rw [hg]
      exact remI_l2 h ht hx j (s + 1) (by omega) (by omega)
    · have k1 : ¬ decide ((s : Int) < 64) = true := by rw [decide_eq_true_eq]; omega
      rw [if_neg k1, List.take_of_length_le (by omega)]
theorem remI_l0 (hn : 100 ≤ n) (h : VM N ds ks) {g1 g2 : List Int} (ht : Tb N ds ks g1 g2) {K : List (List Int) → Option (List (List Int) × Bool)} : ∀ (j x : Nat), N.toNat - x < j → x ≤ N.toNat →
    impl_RemainTable.l0 n K j N ds ks g2 ((remTab N g1).take x) N (x : Int) = K (remTab N g1)
  | 0, x, hj, hx => by omega
  | j + 1, x, hj, hx => by
    rw [impl_RemainTable.l0]
    have h1 := h.n1
    have h2 := h.n2
    have hl := remTab_len (N := N) g1
    by_cases c : x < N.toNat
    · have k1 : decide ((x : Int) < N) = true := by rw [decide_eq_true_eq]; omega
      have wx : IntKind.wrap .i64 ((x : Int) + 1) = ((x + 1 : Nat) : Int) := by rw [w64s (by omega) (by omega)]; omega
      have e := remI_l2 (n := n) h ht c (T := (remTab N g1).take x) (a := N) (b := (x : Int)) (K := fun y3 y4 y5 y6 y7 y8 y9 y10 =>
        if y7.length + 1 ≤ 1048576 then (impl_RemainTable.l0 n K j y3 y4 y5 y6 (y7 ++ [y8]) y9 (IntKind.wrap .i64 (y10 + (1 : Int)))) else none) n 0 (by omega) (by omega)
      rw [List.take_zero] at e
      rw [if_pos k1]
      refine e.trans ?_
      rw [if_pos (by rw [List.length_take]; omega), wx, ← remTab_take c]
      exact remI_l0 hn h ht j (x + 1) (by omega) (by omega)
    · have k1 : ¬ decide ((x : Int) < N) = true := by rw [decide_eq_true_eq]; omega
      rw [if_neg k1, List.take_of_length_le (by omega)]
/-- The table of what remains. -/
theorem RemainTable_q (hn : 600000 ≤ n) : ∃ q : List (List Int) × Bool, q.1.length ≤ 12 ∧ (∀ r ∈ q.1, r.length = 64) ∧ spec_RemainTable.F n N ds ks = some q ∧ impl_RemainTable.F n N ds ks = some q ∧ (¬ VM N ds ks → q = ([], false)) ∧
    (VM N ds ks → ∃ g1, q = (remTab N g1, true) ∧ g1.length = 64 * N.toNat ∧ ∀ p, p < 64 * N.toNat → IsRem N ds ks ((p / 64 : Nat) : Int) (hK ks p) (g1.getD p 0)) := by
  classical
  unfold spec_RemainTable.F impl_RemainTable.F
  rw [l2Maze_val (by omega), IsMaze_val (by omega), Option.bind_some, Option.bind_some]
  by_cases h : VM N ds ks
  · simp only [h, decide_true, Bool.not_true, Bool.false_eq_true, if_false]
    obtain ⟨g1, a1, a2, a3⟩ := remainS_val (n := n) (by omega) h
    obtain ⟨g2, b1, b2, b3, b4⟩ := remain_val (n := n) hn h
    have ht : Tb N ds ks g1 g2 := ⟨a2, b2, a3, b4⟩
    have h1 := h.n1
    have h2 := h.n2
    rw [a1, b1, Option.bind_some, Option.bind_some]
    have e1 := remS_l0 (n := n) (by omega) h a2 (K := fun y6 => some (y6, true)) n 0 (by omega) (Nat.zero_le _)
    have e2 := remI_l0 (n := n) (by omega) h ht (K := fun y11 => some (y11, true)) n 0 (by omega) (Nat.zero_le _)
    rw [List.take_zero] at e1 e2
    refine ⟨(remTab N g1, true), ?_, ?_, e1, e2, fun z => absurd trivial z, fun _ => ⟨g1, rfl, a2, a3⟩⟩
    · show (remTab N g1).length ≤ 12
      rw [remTab_len]
      omega
    · intro r hr
      have hr' : r ∈ remTab N g1 := hr
      unfold remTab at hr'
      rw [List.mem_map] at hr'
      obtain ⟨x, hx, rfl⟩ := hr'
      rw [List.mem_range] at hx
      exact remRow_len a2 hx
  · simp only [h, decide_false, Bool.not_false, if_true]
    exact ⟨([], false), by simp, (by intro r hr; cases hr), rfl, rfl, fun _ => rfl, fun z => absurd z (by simp)⟩
end
end Go.Pv
