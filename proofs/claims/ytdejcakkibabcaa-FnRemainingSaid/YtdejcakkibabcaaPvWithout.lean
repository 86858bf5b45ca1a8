/- Plain laws: a node less, least needs, mazes that are joined. -/
import Derived.Test.YtdejcakkibabcaaPvPut
set_option linter.unusedVariables false
set_option linter.unusedSimpArgs false
set_option autoImplicit false
namespace Go.Pv
open Go Go.Fx Go.Pf

/-! ### The order of doors -/
theorem lex3_iff {p q : Int × Int × Int} : lex3 p q = true ↔ p.1 < q.1 ∨ (p.1 = q.1 ∧ (p.2.1 < q.2.1 ∨ (p.2.1 = q.2.1 ∧ p.2.2 < q.2.2))) := by
  simp [lex3]
theorem lex3_trans {p q r : Int × Int × Int} (h1 : lex3 p q = true) (h2 : lex3 q r = true) : lex3 p r = true := by
  rw [lex3_iff] at *
  omega
theorem lex3_ne {p q : Int × Int × Int} (h : lex3 p q = true) : p ≠ q := by
  intro e
  subst e
  rw [lex3_iff] at h
  omega
theorem VM.pair {N : Int} {ds : List (Int × Int × Int)} {ks : List Int} (h : VM N ds ks) {i : Nat} : ∀ {j : Nat}, i < j → j < ds.length → lex3 (ds.getD i (0, 0, 0)) (ds.getD j (0, 0, 0)) = true
  | 0, hij, _ => by omega
  | j + 1, hij, hj => by
    have hs := h.sorted j hj
    by_cases e : i = j
    · subst e; exact hs
    · exact lex3_trans (h.pair (j := j) (by omega) (by omega)) hs

/-! ### What is deleted -/
section
variable {n : Nat}
def nodeP (x : Int) (d : Int × Int × Int) : Bool := decide (d.1 = x) || decide (d.2.1 = x)
/-- One element more behind a part that is filtered. -/
theorem take_filter_step {α : Type} (p : α → Bool) (l : List α) (d : α) {j : Nat} (hj : j < l.length) : (l.take (j + 1)).filter p = (l.take j).filter p ++ (if p (l.getD j d) = true then [l.getD j d] else []) := by
  rw [List.take_succ_eq_append_getElem hj, List.filter_append]
  have : l[j] = l.getD j d := by rw [List.getD_eq_getElem?_getD, List.getElem?_eq_getElem hj]; rfl
  rw [← this, List.filter_cons, List.filter_nil]
theorem filter_all_false {α : Type} (p : α → Bool) (d : α) (l : List α) (h : ∀ m, m < l.length → p (l.getD m d) = false) : l.filter (fun a => !p a) = l := by
  rw [List.filter_eq_self]
  intro a ha
  obtain ⟨m, hm, rfl⟩ := List.getElem_of_mem ha
  have := h m hm
  rw [List.getD_eq_getElem?_getD, List.getElem?_eq_getElem hm] at this
  have e : (some l[m]).getD d = l[m] := rfl
  rw [e] at this
  rw [this]; rfl
variable {N : Int} {ds : List (Int × Int × Int)} {ks : List Int}
/-! ### Least needs -/
def needP (xs : List Int) (v : Int) : Bool := xs.any fun o => !decide (o = v) && hasB v o
theorem joinB_minmax {x y : Int} {d : Int × Int × Int} (h : d.1 < d.2.1) : joinB x y d = (decide (d.1 = (if y < x then y else x)) && decide (d.2.1 = (if y > x then y else x))) := by
  unfold joinB
  by_cases c1 : y < x
  · have : ¬ y > x := by omega
    rw [if_pos c1, if_neg this]
    by_cases a : d.1 = y
    · have : ¬ d.1 = x := by omega
      simp [a]
      omega
    · have : ¬ (d.1 = x ∧ d.2.1 = y) := by omega
      simp [a]
      omega
  · rw [if_neg c1]
    by_cases c2 : y > x
    · rw [if_pos c2]
      by_cases a : d.1 = x
      · simp [a]
        omega
      · simp [a]
        omega
    · rw [if_neg c2]
      have : ¬ (d.1 = x ∧ d.2.1 = y) := by omega
      have e : x = y := by omega
      subst e
      simp
/-- Is a door's need a least one, as the reference tells. -/
def leastB (ds : List (Int × Int × Int)) (x y : Int) (i k : Nat) : Bool := !decide (k = i) && joinB x y (ds.getD k (0, 0, 0)) && hasB (ds.getD i (0, 0, 0)).2.2 (ds.getD k (0, 0, 0)).2.2
theorem least_same (h : VM N ds ks) {x y : Int} {i : Nat} (hi : i < ds.length) (hj : joinB x y (ds.getD i (0, 0, 0)) = true) : ((List.range' 0 ds.length).any fun m => leastB ds x y i m) = needP ((ds.filter (joinB x y)).map fun d => d.2.2) (ds.getD i (0, 0, 0)).2.2 := by
  rw [Bool.eq_iff_iff]
  unfold needP
  rw [List.any_eq_true, List.any_eq_true]
  have hdi := h.door _ (getD_mem (d := ((0, 0, 0) : Int × Int × Int)) hi)
  rw [joinB_minmax hdi.2.1] at hj
  simp only [Bool.and_eq_true, decide_eq_true_eq] at hj
  constructor
  · rintro ⟨m, hm, hb⟩
    have hm2 : m < ds.length := by simpa using hm
    unfold leastB at hb
    simp only [Bool.and_eq_true, Bool.not_eq_true', decide_eq_false_iff_not] at hb
    obtain ⟨⟨b1, b2⟩, b3⟩ := hb
    have hdm := h.door _ (getD_mem (d := ((0, 0, 0) : Int × Int × Int)) hm2)
    refine ⟨(ds.getD m (0, 0, 0)).2.2, List.mem_map.2 ⟨ds.getD m (0, 0, 0), List.mem_filter.2 ⟨getD_mem hm2, b2⟩, rfl⟩, ?_⟩
    rw [joinB_minmax hdm.2.1] at b2
    simp only [Bool.and_eq_true, decide_eq_true_eq] at b2
    simp only [Bool.and_eq_true, Bool.not_eq_true', decide_eq_false_iff_not]
    refine ⟨fun e => ?_, b3⟩
    have hne : ds.getD m (0, 0, 0) ≠ ds.getD i (0, 0, 0) := by
      rcases Nat.lt_or_ge m i with hlt | hge
      · exact lex3_ne (h.pair hlt hi)
      · exact (lex3_ne (h.pair (i := i) (j := m) (by omega) hm2)).symm
    apply hne
    apply Prod.ext
    · rw [b2.1, hj.1]
    · apply Prod.ext
      · rw [b2.2, hj.2]
      · exact e
  · rintro ⟨v, hv, hb⟩
    obtain ⟨d, hd, rfl⟩ := List.mem_map.1 hv
    obtain ⟨hd1, hd2⟩ := List.mem_filter.1 hd
    obtain ⟨m, hm, rfl⟩ := List.getElem_of_mem hd1
    have hg : ds.getD m (0, 0, 0) = ds[m] := by rw [List.getD_eq_getElem?_getD, List.getElem?_eq_getElem hm]; rfl
    simp only [Bool.and_eq_true, Bool.not_eq_true', decide_eq_false_iff_not] at hb
    refine ⟨m, by simpa using hm, ?_⟩
    unfold leastB
    rw [hg, hd2, hb.2]
    have : ¬ m = i := by
      intro e
      subst e
      exact hb.1 (by rw [hg])
    simp [this]
/-! ### Mazes that are joined -/
theorem l2Put_l0 {K : List (Int × Int × Int) → Int → Int → Int → Int → Option (List (Int × Int × Int))} {xs : List (Int × Int × Int)} {d : Int × Int × Int} (hx : xs.length ≤ 1048576) (hall : ∀ m, m < xs.length → lex3 (xs.getD m (0, 0, 0)) d = true) : ∀ (j i : Nat), xs.length - i < j → i ≤ xs.length →
    spec_l2Put.l0 n K j xs d.1 d.2.1 d.2.2 i = K xs d.1 d.2.1 d.2.2 xs.length
  | 0, i, h, _ => by omega
  | j + 1, i, h, hi => by
    rw [spec_l2Put.l0]
    by_cases c : (i : Int) < (xs.length : Int)
    · have ci : i < xs.length := by omega
      have ei : (i : Int).toNat = i := by omega
      have k1 : decide ((i : Int) < (xs.length : Int)) = true := by simpa using c
      have k2 : 0 ≤ (i : Int) ∧ (i : Int) < (xs.length : Int) := ⟨by omega, c⟩
      have wi : IntKind.wrap .i64 ((i : Int) + 1) = ((i + 1 : Nat) : Int) := by rw [w64s (by omega) (by omega)]; omega
      rw [if_pos k1, if_pos k2, l2Before_eq, Option.bind_some, ei, hall i ci, if_pos rfl, wi]
      exact l2Put_l0 hx hall j (i + 1) (by omega) (by omega)
    · have k1 : ¬ decide ((i : Int) < (xs.length : Int)) = true := by simpa using c
      have : i = xs.length := by omega
      rw [if_neg k1, this]
theorem l2Put_end (hn : 1048578 ≤ n) {xs : List (Int × Int × Int)} {d : Int × Int × Int} (hx : xs.length ≤ 1048576) (hd : d.1 < d.2.1) (hall : ∀ m, m < xs.length → lex3 (xs.getD m (0, 0, 0)) d = true) : spec_l2Put.F n xs d.1 d.2.1 d.2.2 = some (xs ++ [d]) := by
  unfold spec_l2Put.F
  have e1 : spec_l1Least.F n d.1 d.2.1 = some d.1 := by
    unfold spec_l1Least.F
    rw [if_pos (by rw [decide_eq_true_eq]; exact hd)]
  have e2 : spec_l1Most.F n d.1 d.2.1 = some d.2.1 := by
    unfold spec_l1Most.F
    rw [if_neg (by rw [decide_eq_true_eq]; omega)]
  rw [e1, e2, Option.bind_some, Option.bind_some]
  have := l2Put_l0 (n := n) (K := fun y4 y5 y6 y7 y8 =>
    if (decide (y8 < (y4.length : Int))) = true then
      if 0 ≤ y8 ∧ y8 < (y4.length : Int) then (if (decide (((y4.getD y8.toNat ((0 : Int), (0 : Int), (0 : Int))).1) = y5) && (decide (((y4.getD y8.toNat ((0 : Int), (0 : Int), (0 : Int))).2.1) = y6) && (decide (((y4.getD y8.toNat ((0 : Int), (0 : Int), (0 : Int))).2.2) = y7) && true))) = true then
        some y4
      else
        if 0 ≤ y8 ∧ y8 ≤ (y4.length : Int) then (if ([] : List (Int × Int × Int)).length + (y4.take y8.toNat).length ≤ 4398046511104 then (if (([] : List (Int × Int × Int)) ++ (y4.take y8.toNat)).length + ([(y5, y6, y7)] : List (Int × Int × Int)).length ≤ 4398046511104 then (if 0 ≤ y8 ∧ y8 ≤ (y4.length : Int) then (if ((([] : List (Int × Int × Int)) ++ (y4.take y8.toNat)) ++ ([(y5, y6, y7)] : List (Int × Int × Int))).length + (y4.drop y8.toNat).length ≤ 4398046511104 then (some (((([] : List (Int × Int × Int)) ++ (y4.take y8.toNat)) ++ ([(y5, y6, y7)] : List (Int × Int × Int))) ++ (y4.drop y8.toNat))) else none) else none) else none) else none) else none) else none
    else
      if 0 ≤ y8 ∧ y8 ≤ (y4.length : Int) then (if ([] : List (Int × Int × Int)).length + (y4.take y8.toNat).length ≤ 4398046511104 then (if (([] : List (Int × Int × Int)) ++ (y4.take y8.toNat)).length + ([(y5, y6, y7)] : List (Int × Int × Int)).length ≤ 4398046511104 then (if 0 ≤ y8 ∧ y8 ≤ (y4.length : Int) then (if ((([] : List (Int × Int × Int)) ++ (y4.take y8.toNat)) ++ ([(y5, y6, y7)] : List (Int × Int × Int))).length + (y4.drop y8.toNat).length ≤ 4398046511104 then (some (((([] : List (Int × Int × Int)) ++ (y4.take y8.toNat)) ++ ([(y5, y6, y7)] : List (Int × Int × Int))) ++ (y4.drop y8.toNat))) else none) else none) else none) else none) else none) hx hall n 0 (by omega) (by omega)
  simp only [Int.natCast_zero] at this
  rw [this]
  have k1 : ¬ decide ((xs.length : Int) < (xs.length : Int)) = true := by rw [decide_eq_true_eq]; omega
  have ek : (xs.length : Int).toNat = xs.length := by omega
  have q1 : 0 ≤ (xs.length : Int) ∧ (xs.length : Int) ≤ (xs.length : Int) := ⟨by omega, by omega⟩
  have q2 : ([] : List (Int × Int × Int)).length + (xs.take xs.length).length ≤ 4398046511104 := by simp; omega
  have q3 : (([] : List (Int × Int × Int)) ++ (xs.take xs.length)).length + ([(d.1, d.2.1, d.2.2)] : List (Int × Int × Int)).length ≤ 4398046511104 := by simp; omega
  have q4 : ((([] : List (Int × Int × Int)) ++ (xs.take xs.length)) ++ ([(d.1, d.2.1, d.2.2)] : List (Int × Int × Int))).length + (xs.drop xs.length).length ≤ 4398046511104 := by simp; omega
  simp only [if_neg k1, ek, if_pos q1, if_pos q2, if_pos q3, if_pos q4]
  simp
def shiftD (by_ : Int) (d : Int × Int × Int) : Int × Int × Int := (d.1 + by_, d.2.1 + by_, d.2.2)
theorem lex3_shift {b : Int} {p q : Int × Int × Int} (h : lex3 p q = true) : lex3 (shiftD b p) (shiftD b q) = true := by
  rw [lex3_iff] at *
  simp only [shiftD]
  omega
variable {M : Int} {es : List (Int × Int × Int)} {js : List Int}
end
end Go.Pv
