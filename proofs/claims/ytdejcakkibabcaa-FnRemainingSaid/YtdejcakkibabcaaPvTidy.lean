/- Plain laws: a maze whose doors are put in order, each once. -/
import Derived.Test.YtdejcakkibabcaaPvLex
set_option linter.unusedVariables false
set_option linter.unusedSimpArgs false
set_option autoImplicit false
namespace Go.Pv
open Go Go.Fx Go.Pf

abbrev dz : Door := ((0 : Int), (0 : Int), (0 : Int))
theorem eqD (a b : Door) : (decide (a.1 = b.1) && (decide (a.2.1 = b.2.1) && (decide (a.2.2 = b.2.2) && true))) = decide (a = b) := by
  obtain ⟨x, y, z⟩ := a
  obtain ⟨x', y', z'⟩ := b
  simp only [Prod.mk.injEq]
  by_cases h1 : x = x' <;> by_cases h2 : y = y' <;> by_cases h3 : z = z' <;> simp [h1, h2, h3]
theorem ddF_snoc : ∀ (m : List Door) (p y : Door), ddF p (m ++ [y]) = if y = (p :: m).getLast (by simp) then ddF p m else ddF p m ++ [y]
  | [], p, y => by
    simp only [List.nil_append, ddF, List.getLast_singleton]
    rfl
  | x :: m, p, y => by
    have h1 := ddF_snoc m p y
    have h2 := ddF_snoc m x y
    simp only [List.cons_append]
    rw [ddF, ddF]
    have hl : (p :: x :: m).getLast (by simp) = (x :: m).getLast (by simp) := by simp
    rw [hl]
    by_cases e : x = p
    · rw [if_pos e, if_pos e, h1]
      subst e
      rfl
    · rw [if_neg e, if_neg e, h2]
      split
      · rfl
      · rfl
theorem dd_take {l : List Door} {j : Nat} (hj : 1 ≤ j) (hl : j < l.length) : dd (l.take (j + 1)) = if l.getD j dz = l.getD (j - 1) dz then dd (l.take j) else dd (l.take j) ++ [l.getD j dz] := by
  have e1 : l.take (j + 1) = l.take j ++ [l.getD j dz] := by
    rw [List.take_succ_eq_append_getElem hl, List.getD_eq_getElem?_getD, List.getElem?_eq_getElem hl]
    rfl
  rw [e1]
  cases l with
  | nil => simp at hl
  | cons x m =>
    obtain ⟨i, rfl⟩ : ∃ i, j = i + 1 := ⟨j - 1, by omega⟩
    simp only [List.take_succ_cons, List.cons_append, dd]
    rw [ddF_snoc]
    have hlast : (x :: m.take i).getLast (by simp) = (x :: m).getD i dz := by
      have hi : i < (x :: m).length := by simp at hl ⊢; omega
      rw [List.getLast_eq_getElem, List.getD_eq_getElem?_getD, List.getElem?_eq_getElem hi]
      have e2 : x :: m.take i = (x :: m).take (i + 1) := by simp
      simp only [e2, List.getElem_take, Option.getD_some]
      congr 1
      simp at hl ⊢
      omega
    rw [hlast]
    have e3 : i + 1 - 1 = i := by omega
    rw [e3]
    split <;> rfl
theorem dset_at {o : List Door} {i : Nat} {v : Door} (h : i < o.length) : (o.set i v).getD i dz = v := by
  simp [List.getD, h]
theorem dset_off (o : List Door) {i k : Nat} (v : Door) (h : i ≠ k) : (o.set i v).getD k dz = o.getD k dz := by
  simp [List.getD, List.getElem?_set_ne h]
/-! ### The order -/
theorem cfD_lex (p q : Door) : decide (cfD p q < 0) = lex3 p q := by
  have hc : ∀ x y : Int, (x < y ∧ cmpZ x y = -1) ∨ (x = y ∧ cmpZ x y = 0) ∨ (y < x ∧ cmpZ x y = 1) := by
    intro x y
    unfold cmpZ
    by_cases h1 : x < y
    · exact .inl ⟨h1, by rw [if_pos h1]⟩
    · by_cases h2 : x > y
      · exact .inr (.inr ⟨h2, by rw [if_neg h1, if_pos h2]⟩)
      · exact .inr (.inl ⟨by omega, by rw [if_neg h1, if_neg h2]⟩)
  have hb : ∀ b : Bool, (∀ P : Prop, [Decidable P] → (P ↔ b = true) → decide P = b) := by
    intro b P _ h
    cases b with
    | true => simpa using h
    | false => simpa using h
  refine hb _ _ ?_
  rw [lex_iff]
  unfold cfD
  rcases hc p.1 q.1 with ⟨h1, e1⟩ | ⟨h1, e1⟩ | ⟨h1, e1⟩
  · rw [e1, if_pos (by decide)]; omega
  · rw [e1, if_neg (by decide)]
    rcases hc p.2.1 q.2.1 with ⟨h2, e2⟩ | ⟨h2, e2⟩ | ⟨h2, e2⟩
    · rw [e2, if_pos (by decide)]; omega
    · rw [e2, if_neg (by decide)]
      rcases hc p.2.2 q.2.2 with ⟨h3, e3⟩ | ⟨h3, e3⟩ | ⟨h3, e3⟩ <;> rw [e3] <;> omega
    · rw [e2, if_pos (by decide)]; omega
  · rw [e1, if_pos (by decide)]; omega
theorem sortT_le (l : List Door) : (sortT cfD l).Pairwise fun a b => lex3 b a = false := by
  unfold sortT
  have h := List.pairwise_mergeSort (le := fun x y : Door => !(decide (cfD y x < 0))) (fun a b c h1 h2 => by
    simp only [cfD_lex, Bool.not_eq_true'] at *
    rw [lex_not] at *
    omega) (fun a b => by
    simp only [cfD_lex]
    cases h1 : lex3 b a with
    | false => rfl
    | true =>
      cases h2 : lex3 a b with
      | false => rfl
      | true =>
        have := lex_trans h1 h2
        rw [lex_irrefl] at this
        cases this) l
  refine h.imp fun {a b} h => ?_
  simpa [cfD_lex] using h
theorem sortT_mem {l : List Door} {x : Door} : x ∈ sortT cfD l ↔ x ∈ l := by
  unfold sortT
  exact List.mem_mergeSort
theorem sortT_len (l : List Door) : (sortT cfD l).length = l.length := by
  unfold sortT
  exact List.length_mergeSort _
/-! ### Tidy mazes -/
def nrm (d : Door) : Door := (if d.2.1 < d.1 then d.2.1 else d.1, if d.2.1 > d.1 then d.2.1 else d.1, d.2.2)
theorem nrm_id {d : Door} (h : d.1 ≤ d.2.1) : nrm d = d := by
  obtain ⟨a, b, c⟩ := d
  simp only at h
  unfold nrm
  simp only [Prod.mk.injEq, and_true]
  constructor
  · rw [if_neg (by omega)]
  · split <;> omega
theorem sort_eq {n : Nat} {l : List Door} (hl : l.length ≤ 1048576) : sortDoors.F n l = some (sortT cfD l) := by
  unfold sortDoors.F
  rw [if_pos (by omega)]
/-- The doors of a tidy maze. -/
def tidyL (ds : List Door) : List Door := dd (sortT cfD (ds.map nrm))
theorem tidyL_lex (ds : List Door) : LexS (tidyL ds) := dd_sorted (sortT_le _)
theorem tidyL_mem {ds : List Door} {x : Door} : x ∈ tidyL ds ↔ ∃ d ∈ ds, nrm d = x := by
  unfold tidyL
  rw [dd_mem, sortT_mem, List.mem_map]
theorem tidyL_len (ds : List Door) : (tidyL ds).length ≤ ds.length := by
  have := dd_len (sortT cfD (ds.map nrm))
  rw [sortT_len, List.length_map] at this
  exact this
/-! ### A door put to its place -/
theorem put_l0 {n : Nat} {K : List Door → Int → Int → Int → Int → Option (List Door)} {l : List Door} {d : Door} (hl : l.length ≤ 1048576) : ∀ (f k : Nat), l.length - k < f → k ≤ l.length → (∀ q, q < k → lex3 (l.getD q dz) d = true) →
    ∃ k' : Nat, k' ≤ l.length ∧ (∀ q, q < k' → lex3 (l.getD q dz) d = true) ∧ (k' < l.length → lex3 (l.getD k' dz) d = false) ∧ spec_l2Put.l0 n K f l d.1 d.2.1 d.2.2 k = K l d.1 d.2.1 d.2.2 k'
  | 0, k, hf, _, _ => by omega
  | f + 1, k, hf, hk, hb => by
    rw [spec_l2Put.l0]
    by_cases c : k < l.length
    · have k1 : decide ((k : Int) < (l.length : Int)) = true := by rw [decide_eq_true_eq]; omega
      have k2 : 0 ≤ (k : Int) ∧ (k : Int) < (l.length : Int) := by omega
      have w1 : IntKind.wrap .i64 ((k : Int) + 1) = ((k + 1 : Nat) : Int) := by rw [w64s (by omega) (by omega)]; omega
      rw [if_pos k1, if_pos k2, Int.toNat_natCast, l2Before_eq, Option.bind_some, w1]
      cases hx : lex3 (l.getD k ((0 : Int), (0 : Int), (0 : Int))) d with
      | true =>
        rw [if_pos rfl]
        exact put_l0 hl f (k + 1) (by omega) (by omega) (fun q hq => by
          by_cases e : q = k
          · rw [e]; exact hx
          · exact hb q (by omega))
      | false =>
        rw [if_neg (by simp)]
        exact ⟨k, hk, hb, fun _ => hx, rfl⟩
    · have k1 : ¬ decide ((k : Int) < (l.length : Int)) = true := by rw [decide_eq_true_eq]; omega
      rw [if_neg k1]
      exact ⟨k, hk, hb, fun h => absurd h c, rfl⟩
theorem getD_in {l : List Door} {x : Door} (h : x ∈ l) : ∃ i, i < l.length ∧ l.getD i dz = x := by
  obtain ⟨i, hi, e⟩ := List.getElem_of_mem h
  exact ⟨i, hi, by rw [List.getD_eq_getElem?_getD, List.getElem?_eq_getElem hi]; exact e⟩
theorem lexS_get {l : List Door} (h : LexS l) {i j : Nat} (hij : i < j) (hj : j < l.length) : lex3 (l.getD i dz) (l.getD j dz) = true := by
  have := List.pairwise_iff_getElem.1 h i j (by omega) hj hij
  rw [List.getD_eq_getElem?_getD, List.getD_eq_getElem?_getD, List.getElem?_eq_getElem (by omega), List.getElem?_eq_getElem hj]
  exact this
theorem put_eq {n : Nat} {l : List Door} (hl : l.length ≤ 1000000) (hn : l.length < n) (hs : LexS l) (a b c : Int) :
    ∃ r, spec_l2Put.F n l a b c = some r ∧ LexS r ∧ (∀ x, x ∈ r ↔ x ∈ l ∨ x = nrm (a, b, c)) ∧ (nrm (a, b, c) ∈ l → r = l) ∧ (¬ nrm (a, b, c) ∈ l → r.length = l.length + 1) := by
  unfold spec_l2Put.F spec_l1Least.F spec_l1Most.F
  have e1 : (if decide (a < b) = true then some a else some b : Option Int) = some (nrm (a, b, c)).1 := by
    unfold nrm
    simp only [decide_eq_true_eq]
    by_cases h : a < b
    · rw [if_pos h, if_neg (by omega)]
    · rw [if_neg h]
      by_cases h2 : b < a
      · rw [if_pos h2]
      · rw [if_neg h2, show a = b by omega]
  have e2 : (if decide (a > b) = true then some a else some b : Option Int) = some (nrm (a, b, c)).2.1 := by
    unfold nrm
    simp only [decide_eq_true_eq]
    by_cases h : a > b
    · rw [if_pos h, if_neg (by omega)]
    · rw [if_neg h]
      by_cases h2 : b > a
      · rw [if_pos h2]
      · rw [if_neg h2, show a = b by omega]
  have e3 : c = (nrm (a, b, c)).2.2 := rfl
  rw [e1, e2, Option.bind_some, Option.bind_some]
  generalize hd : nrm (a, b, c) = d at *
  rw [e3]
  obtain ⟨k, q1, q2, q3, q4⟩ := put_l0 (n := n) (l := l) (d := d) (K := fun y4 y5 y6 y7 y8 =>
    if (decide (y8 < (y4.length : Int))) = true then
      if 0 ≤ y8 ∧ y8 < (y4.length : Int) then (if (decide (((y4.getD y8.toNat ((0 : Int), (0 : Int), (0 : Int))).1) = y5) && (decide (((y4.getD y8.toNat ((0 : Int), (0 : Int), (0 : Int))).2.1) = y6) && (decide (((y4.getD y8.toNat ((0 : Int), (0 : Int), (0 : Int))).2.2) = y7) && true))) = true then
        some y4
      else
        if 0 ≤ y8 ∧ y8 ≤ (y4.length : Int) then (if ([] : List (Int × Int × Int)).length + (y4.take y8.toNat).length ≤ 4398046511104 then (if (([] : List (Int × Int × Int)) ++ (y4.take y8.toNat)).length + ([(y5, y6, y7)] : List (Int × Int × Int)).length ≤ 4398046511104 then (if 0 ≤ y8 ∧ y8 ≤ (y4.length : Int) then (if ((([] : List (Int × Int × Int)) ++ (y4.take y8.toNat)) ++ ([(y5, y6, y7)] : List (Int × Int × Int))).length + (y4.drop y8.toNat).length ≤ 4398046511104 then (some (((([] : List (Int × Int × Int)) ++ (y4.take y8.toNat)) ++ ([(y5, y6, y7)] : List (Int × Int × Int))) ++ (y4.drop y8.toNat))) else none) else none) else none) else none) else none) else none
    else
      if 0 ≤ y8 ∧ y8 ≤ (y4.length : Int) then (if ([] : List (Int × Int × Int)).length + (y4.take y8.toNat).length ≤ 4398046511104 then (if (([] : List (Int × Int × Int)) ++ (y4.take y8.toNat)).length + ([(y5, y6, y7)] : List (Int × Int × Int)).length ≤ 4398046511104 then (if 0 ≤ y8 ∧ y8 ≤ (y4.length : Int) then (if ((([] : List (Int × Int × Int)) ++ (y4.take y8.toNat)) ++ ([(y5, y6, y7)] : List (Int × Int × Int))).length + (y4.drop y8.toNat).length ≤ 4398046511104 then (some (((([] : List (Int × Int × Int)) ++ (y4.take y8.toNat)) ++ ([(y5, y6, y7)] : List (Int × Int × Int))) ++ (y4.drop y8.toNat))) else none) else none) else none) else none) else none) (by omega) n 0 (by omega) (by omega) (fun q hq => by omega)
  simp only [Int.natCast_zero] at q4
  rw [q4]
  have k4 : 0 ≤ (k : Int) ∧ (k : Int) ≤ (l.length : Int) := by omega
  have hin : ∀ x, x ∈ (l.take k ++ [d]) ++ l.drop k ↔ x ∈ l ∨ x = d := by
    intro x
    have : x ∈ l ↔ x ∈ l.take k ∨ x ∈ l.drop k := by
      conv => lhs; rw [← List.take_append_drop k l]
      exact List.mem_append
    rw [this]
    simp only [List.mem_append, List.mem_singleton]
    constructor
    · rintro ((h | h) | h)
      · exact .inl (.inl h)
      · exact .inr h
      · exact .inl (.inr h)
    · rintro ((h | h) | h)
      · exact .inl (.inl h)
      · exact .inr h
      · exact .inl (.inr h)
  have hback : ∀ i, k ≤ i → i < l.length → lex3 (l.getD i dz) d = false := by
    intro i hi hil
    have h0 := q3 (by omega)
    by_cases e : i = k
    · rw [e]; exact h0
    · have h1 := lexS_get hs (i := k) (j := i) (by omega) hil
      cases hx : lex3 (l.getD i dz) d with
      | false => rfl
      | true =>
        have := lex_trans h1 hx
        rw [h0] at this
        cases this
  have hlex : ¬ d ∈ l → LexS ((l.take k ++ [d]) ++ l.drop k) := by
    intro hnin
    unfold LexS
    rw [List.pairwise_append]
    refine ⟨?_, List.Pairwise.sublist (List.drop_sublist _ _) hs, ?_⟩
    · rw [List.pairwise_append]
      refine ⟨List.Pairwise.sublist (List.take_sublist _ _) hs, List.pairwise_singleton _ _, ?_⟩
      intro x hx y hy
      rw [List.mem_singleton] at hy
      subst hy
      obtain ⟨i, hi, e⟩ := List.getElem_of_mem hx
      have hik : i < k := by rw [List.length_take] at hi; omega
      have := q2 i hik
      rw [List.getD_eq_getElem?_getD, List.getElem?_eq_getElem (by omega)] at this
      rw [← e, List.getElem_take]
      exact this
    · intro x hx y hy
      obtain ⟨i, hi, e⟩ := List.getElem_of_mem hy
      rw [List.length_drop] at hi
      have hyi : y = l.getD (k + i) dz := by
        rw [← e, List.getElem_drop, List.getD_eq_getElem?_getD, List.getElem?_eq_getElem (by omega)]
        rfl
      have hdy : lex3 d y = true := by
        cases hx2 : lex3 d y with
        | true => rfl
        | false =>
          have h0 := hback (k + i) (by omega) (by omega)
          rw [← hyi] at h0
          have := lex_tri hx2 h0
          exact absurd (by rw [this]; exact List.mem_of_mem_drop hy) hnin
      rcases List.mem_append.1 hx with hx | hx
      · obtain ⟨j, hj, e2⟩ := List.getElem_of_mem hx
        have hjk : j < k := by rw [List.length_take] at hj; omega
        have := q2 j hjk
        rw [List.getD_eq_getElem?_getD, List.getElem?_eq_getElem (by omega)] at this
        rw [← e2, List.getElem_take]
        exact lex_trans this hdy
      · rw [List.mem_singleton] at hx
        rw [hx]; exact hdy
  have hlen : ((l.take k ++ [d]) ++ l.drop k).length = l.length + 1 := by simp; omega
  have ed : (d.1, d.2.1, d.2.2) = d := rfl
  have b1 : ([] : List (Int × Int × Int)).length + (l.take k).length ≤ 4398046511104 := by simp only [List.length_nil, List.length_take]; omega
  have b2 : (([] : List (Int × Int × Int)) ++ (l.take k)).length + ([(d.1, d.2.1, d.2.2)] : List (Int × Int × Int)).length ≤ 4398046511104 := by simp only [List.nil_append, List.length_singleton, List.length_take]; omega
  have b3 : ((([] : List (Int × Int × Int)) ++ (l.take k)) ++ ([(d.1, d.2.1, d.2.2)] : List (Int × Int × Int))).length + (l.drop k).length ≤ 4398046511104 := by simp only [List.nil_append, List.length_append, List.length_singleton, List.length_take, List.length_drop]; omega
  simp only [Int.toNat_natCast, if_pos k4, if_pos b1, if_pos b2, if_pos b3]
  simp only [List.nil_append, ed]
  by_cases c : k < l.length
  · have k1 : decide ((k : Int) < (l.length : Int)) = true := by rw [decide_eq_true_eq]; omega
    have k2 : 0 ≤ (k : Int) ∧ (k : Int) < (l.length : Int) := by omega
    rw [if_pos k1, if_pos k2, eqD]
    by_cases e : l.getD k dz = d
    · rw [if_pos (by rw [decide_eq_true e])]
      have hm : d ∈ l := by rw [← e]; exact getD_mem c
      refine ⟨l, rfl, hs, fun x => ⟨fun h => .inl h, fun h => ?_⟩, fun _ => rfl, fun h => absurd hm h⟩
      rcases h with h | h
      · exact h
      · rw [h]; exact hm
    · rw [if_neg (by rw [decide_eq_false e]; simp)]
      have hm : ¬ d ∈ l := by
        intro h
        obtain ⟨i, hi, ei⟩ := getD_in h
        by_cases hik : i < k
        · have := q2 i hik
          rw [ei, lex_irrefl] at this
          cases this
        · by_cases hek : i = k
          · rw [hek] at ei; exact e ei
          · have h1 := lexS_get hs (i := k) (j := i) (by omega) hi
            rw [ei] at h1
            rw [q3 c] at h1
            cases h1
      exact ⟨_, rfl, hlex hm, hin, fun h => absurd h hm, fun _ => hlen⟩
  · have k1 : ¬ decide ((k : Int) < (l.length : Int)) = true := by rw [decide_eq_true_eq]; omega
    rw [if_neg k1]
    have hm : ¬ d ∈ l := by
      intro h
      obtain ⟨i, hi, ei⟩ := getD_in h
      have := q2 i (by omega)
      rw [ei, lex_irrefl] at this
      cases this
    exact ⟨_, rfl, hlex hm, hin, fun h => absurd h hm, fun _ => hlen⟩
end Go.Pv
