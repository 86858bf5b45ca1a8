/- Plain laws: the reference's way to what is reached. -/
import Derived.Test.YtfgncboicamdjaaGreatDoorPvReach
set_option linter.unusedVariables false
set_option linter.unusedSimpArgs false
set_option autoImplicit false
namespace Go.Pv
open Go Go.Fx Go.Pf

theorem l1Has_l0 {n : Nat} {K : Unit → Option Bool} {xs : List Int} {y : Int} (hx : xs.length ≤ 4398046511104) : ∀ (j i : Nat), xs.length - i < j →
    spec_l1Has.l0 n K j xs y i = if y ∈ xs.drop i then some true else K ()
  | 0, i, h => by omega
  | j + 1, i, h => by
    rw [spec_l1Has.l0]
    by_cases c : (i : Int) < (xs.length : Int)
    · have ci : i < xs.length := by omega
      have ei : (i : Int).toNat = i := by omega
      have k1 : decide ((i : Int) < (xs.length : Int)) = true := by simpa using c
      have k2 : 0 ≤ (i : Int) ∧ (i : Int) < (xs.length : Int) := ⟨by omega, c⟩
      have wi : IntKind.wrap .i64 ((i : Int) + 1) = ((i + 1 : Nat) : Int) := by rw [w64s (by omega) (by omega)]; omega
      have hs := getD_drop (d := (0 : Int)) ci
      rw [if_pos k1, if_pos k2, wi, ei, hs]
      rw [l1Has_l0 hx j (i + 1) (by omega)]
      by_cases e : xs.getD i 0 = y
      · rw [if_pos (by rw [decide_eq_true_eq]; exact e), if_pos (by rw [e]; simp)]
      · rw [if_neg (by rw [decide_eq_true_eq]; exact e)]
        by_cases e2 : y ∈ xs.drop (i + 1)
        · rw [if_pos e2, if_pos (by simp [e2])]
        · have e3 : ¬ y ∈ xs.getD i 0 :: xs.drop (i + 1) := by
            intro h3
            rcases List.mem_cons.1 h3 with h3 | h3
            · exact e h3.symm
            · exact e2 h3
          rw [if_neg e2, if_neg e3]
    · have k1 : ¬ decide ((i : Int) < (xs.length : Int)) = true := by simpa using c
      have : xs.drop i = [] := List.drop_eq_nil_of_le (by omega)
      rw [if_neg k1, this, if_neg (by simp)]
theorem l1Has_eq {n : Nat} {xs : List Int} (hx : xs.length ≤ 4398046511104) (hn : xs.length < n) (y : Int) : spec_l1Has.F n xs y = some (decide (y ∈ xs)) := by
  unfold spec_l1Has.F
  have := l1Has_l0 (n := n) (K := fun _ => some false) (y := y) hx n 0 (by omega)
  simp only [Int.natCast_zero, List.drop_zero] at this
  rw [this]
  by_cases e : y ∈ xs
  · simp [e]
  · simp [e]

theorem l1Put_l0 {n : Nat} {K : List Int → Int → Int → Option (List Int)} {xs : List Int} {y : Int} (hx : xs.length ≤ 4398046511104) : ∀ (j i : Nat), xs.length - i < j → i ≤ xs.length → (∀ m, m < i → xs.getD m 0 < y) →
    ∃ k : Nat, k ≤ xs.length ∧ (∀ m, m < k → xs.getD m 0 < y) ∧ (k < xs.length → y ≤ xs.getD k 0) ∧ spec_l1Put.l0 n K j xs y i = K xs y (k : Int)
  | 0, i, h, _, _ => by omega
  | j + 1, i, h, hi, hm => by
    rw [spec_l1Put.l0]
    by_cases c : (i : Int) < (xs.length : Int)
    · have ci : i < xs.length := by omega
      have ei : (i : Int).toNat = i := by omega
      have k1 : decide ((i : Int) < (xs.length : Int)) = true := by simpa using c
      have k2 : 0 ≤ (i : Int) ∧ (i : Int) < (xs.length : Int) := ⟨by omega, c⟩
      have wi : IntKind.wrap .i64 ((i : Int) + 1) = ((i + 1 : Nat) : Int) := by rw [w64s (by omega) (by omega)]; omega
      rw [if_pos k1, if_pos k2, wi, ei]
      by_cases e : xs.getD i 0 < y
      · rw [if_pos (by rw [decide_eq_true_eq]; exact e)]
        refine l1Put_l0 hx j (i + 1) (by omega) (by omega) fun m hm2 => ?_
        by_cases q : m = i
        · rw [q]; exact e
        · exact hm m (by omega)
      · rw [if_neg (by rw [decide_eq_true_eq]; exact e)]
        exact ⟨i, hi, hm, fun _ => by omega, rfl⟩
    · have k1 : ¬ decide ((i : Int) < (xs.length : Int)) = true := by simpa using c
      rw [if_neg k1]
      exact ⟨i, hi, hm, fun h2 => by omega, rfl⟩
theorem asc_insert {xs : List Int} {y : Int} {k : Nat} (hx : Asc xs) (hk : k ≤ xs.length) (h1 : ∀ m, m < k → xs.getD m 0 < y) (h2 : k < xs.length → y < xs.getD k 0) : Asc (xs.take k ++ [y] ++ xs.drop k) := by
  have a1 : ∀ x ∈ xs.take k, x < y := by
    intro x hx2
    obtain ⟨m, hm, rfl⟩ := List.getElem_of_mem hx2
    rw [List.getElem_take]
    have hm' : m < k := by simp at hm; omega
    have := h1 m hm'
    rw [List.getD_eq_getElem?_getD, List.getElem?_eq_getElem (by omega)] at this
    exact this
  have hsplit : xs.take k ++ xs.drop k = xs := List.take_append_drop k xs
  unfold Asc at *
  rw [← hsplit, List.pairwise_append] at hx
  obtain ⟨p1, p2, p3⟩ := hx
  have a2 : ∀ x ∈ xs.drop k, y < x := by
    intro x hx2
    by_cases hk2 : k < xs.length
    · have e := getD_drop (d := (0 : Int)) hk2
      rw [e] at hx2 p2
      rw [List.pairwise_cons] at p2
      rcases List.mem_cons.1 hx2 with rfl | hx2
      · exact h2 hk2
      · have := p2.1 x hx2
        have := h2 hk2
        omega
    · rw [List.drop_eq_nil_of_le (by omega)] at hx2
      cases hx2
  rw [List.append_assoc, List.pairwise_append]
  refine ⟨p1, ?_, ?_⟩
  · rw [List.singleton_append, List.pairwise_cons]
    exact ⟨a2, p2⟩
  · intro a ha b hb
    rw [List.singleton_append] at hb
    rcases List.mem_cons.1 hb with rfl | hb
    · exact a1 a ha
    · exact p3 a ha b hb
theorem l1Put_eq {n : Nat} {xs : List Int} {y : Int} (hx : xs.length ≤ 1000000) (hn : xs.length < n) (ha : Asc xs) (hy : ¬ y ∈ xs) : ∃ ys, spec_l1Put.F n xs y = some ys ∧ Asc ys ∧ (∀ w, w ∈ ys ↔ w ∈ xs ∨ w = y) ∧ ys.length = xs.length + 1 := by
  unfold spec_l1Put.F
  obtain ⟨k, hk, h1, h2, h3⟩ := l1Put_l0 (n := n) (y := y) (K := fun y1 y2 y3 =>
    if (decide (y3 < (y1.length : Int))) = true then
      if 0 ≤ y3 ∧ y3 < (y1.length : Int) then (if (decide ((y1.getD y3.toNat (0 : Int)) = y2)) = true then
        some y1
      else
        if 0 ≤ y3 ∧ y3 ≤ (y1.length : Int) then (if ([] : List (Int)).length + (y1.take y3.toNat).length ≤ 4398046511104 then (if (([] : List (Int)) ++ (y1.take y3.toNat)).length + ([y2] : List (Int)).length ≤ 4398046511104 then (if 0 ≤ y3 ∧ y3 ≤ (y1.length : Int) then (if ((([] : List (Int)) ++ (y1.take y3.toNat)) ++ ([y2] : List (Int))).length + (y1.drop y3.toNat).length ≤ 4398046511104 then (some (((([] : List (Int)) ++ (y1.take y3.toNat)) ++ ([y2] : List (Int))) ++ (y1.drop y3.toNat))) else none) else none) else none) else none) else none) else none
    else
      if 0 ≤ y3 ∧ y3 ≤ (y1.length : Int) then (if ([] : List (Int)).length + (y1.take y3.toNat).length ≤ 4398046511104 then (if (([] : List (Int)) ++ (y1.take y3.toNat)).length + ([y2] : List (Int)).length ≤ 4398046511104 then (if 0 ≤ y3 ∧ y3 ≤ (y1.length : Int) then (if ((([] : List (Int)) ++ (y1.take y3.toNat)) ++ ([y2] : List (Int))).length + (y1.drop y3.toNat).length ≤ 4398046511104 then (some (((([] : List (Int)) ++ (y1.take y3.toNat)) ++ ([y2] : List (Int))) ++ (y1.drop y3.toNat))) else none) else none) else none) else none) else none) (show xs.length ≤ 4398046511104 by omega) n 0 (by omega) (by omega) (fun m hm => by omega)
  simp only [Int.natCast_zero] at h3
  rw [h3]
  have ek : (k : Int).toNat = k := by omega
  have q1 : 0 ≤ (k : Int) ∧ (k : Int) ≤ (xs.length : Int) := ⟨by omega, by omega⟩
  have q2 : ([] : List Int).length + (xs.take k).length ≤ 4398046511104 := by simp; omega
  have q3 : (([] : List (Int)) ++ (xs.take k)).length + ([y] : List (Int)).length ≤ 4398046511104 := by simp; omega
  have q4 : ((([] : List (Int)) ++ (xs.take k)) ++ ([y] : List (Int))).length + (xs.drop k).length ≤ 4398046511104 := by simp; omega
  have hne : k < xs.length → y < xs.getD k 0 := by
    intro hk2
    have := h2 hk2
    have hm := getD_mem (d := (0 : Int)) hk2
    have : y ≠ xs.getD k 0 := fun e => hy (e ▸ hm)
    omega
  have res : ∀ w, w ∈ xs.take k ++ [y] ++ xs.drop k ↔ w ∈ xs ∨ w = y := by
    intro w
    have hsplit : xs.take k ++ xs.drop k = xs := List.take_append_drop k xs
    conv => rhs; rw [← hsplit]
    simp only [List.mem_append, List.mem_singleton]
    constructor
    · rintro ((h | h) | h)
      · exact .inl (.inl h)
      · exact .inr h
      · exact .inl (.inr h)
    · rintro ((h | h) | h)
      · exact .inl (.inl h)
      · exact .inr h
      · exact .inl (.inr h)
  refine ⟨xs.take k ++ [y] ++ xs.drop k, ?_, asc_insert ha hk h1 hne, res, by simp; omega⟩
  by_cases c : (k : Int) < (xs.length : Int)
  · have c1 : decide ((k : Int) < (xs.length : Int)) = true := by simpa using c
    have c2 : 0 ≤ (k : Int) ∧ (k : Int) < (xs.length : Int) := ⟨by omega, c⟩
    have c3 : ¬ decide (xs.getD k 0 = y) = true := by
      rw [decide_eq_true_eq]
      have := hne (by omega)
      omega
    simp only [ek, if_pos c1, if_pos c2, if_neg c3, if_pos q1, if_pos q2, if_pos q3, if_pos q4]
    rfl
  · have c1 : ¬ decide ((k : Int) < (xs.length : Int)) = true := by simpa using c
    simp only [ek, if_neg c1, if_pos q1, if_pos q2, if_pos q3, if_pos q4]
    rfl

/-- The doors at one node. -/
theorem reach_l2 {n : Nat} (hn : 40 ≤ n) {N : Int} {ds : List (Int × Int × Int)} {ks : List Int} (h : VM N ds ks) {s z : Int} {K : Int → Int → List (Int × Int × Int) → List Int → List Int → List Int → Int → Option (List Int)} {i : Nat} (hz : 0 ≤ z ∧ z < N) :
    ∀ (j k : Nat) (out list : List Int), ds.length - k < j → k ≤ ds.length → Asc out → (∀ w ∈ out, 0 ≤ w ∧ w < N) → (∀ w, w ∈ list ↔ w ∈ out) → list.length = out.length → i < list.length → list.getD i 0 = z →
      ∃ out' ext, Asc out' ∧ (∀ w ∈ out', 0 ≤ w ∧ w < N) ∧ (∀ w, w ∈ list ++ ext ↔ w ∈ out') ∧ (list ++ ext).length = out'.length ∧ (∀ w ∈ out, w ∈ out') ∧
        (∀ w ∈ out', w ∈ out ∨ openB ds z w s = true) ∧ (∀ d ∈ ds.drop k, ∀ w, (joinB z w d && hasB s d.2.2) = true → w ∈ out') ∧
        spec_l2Reach.l2 n K j s N ds ks out list i k = K s N ds ks out' (list ++ ext) i
  | 0, k, out, list, hj, _, _, _, _, _, _, _ => by omega
  | j + 1, k, out, list, hj, hk, ha, hr, hm, hlen, hi, hzi => by
    rw [spec_l2Reach.l2]
    have hdl := h.dl
    by_cases c : (k : Int) < (ds.length : Int)
    · have ck : k < ds.length := by omega
      have ek : (k : Int).toNat = k := by omega
      have ei : (i : Int).toNat = i := by omega
      have k1 : decide ((k : Int) < (ds.length : Int)) = true := by simpa using c
      have k2 : 0 ≤ (k : Int) ∧ (k : Int) < (ds.length : Int) := ⟨by omega, c⟩
      have k3 : 0 ≤ (i : Int) ∧ (i : Int) < (list.length : Int) := ⟨by omega, by omega⟩
      have wk : IntKind.wrap .i64 ((k : Int) + 1) = ((k + 1 : Nat) : Int) := by rw [w64s (by omega) (by omega)]; omega
      have hlo : out.length ≤ 12 := by
        have := asc_length ha hr
        have := h.n2
        omega
      have hs := getD_drop (d := ((0, 0, 0) : Int × Int × Int)) ck
      have hdm := getD_mem (d := ((0, 0, 0) : Int × Int × Int)) ck
      have hdv := h.door _ hdm
      simp only [if_pos k1, if_pos k2, if_pos k3, ek, ei, hzi, wk, l2Has_eq, Option.bind_some]
      rw [hs]
      generalize ds.getD k (0, 0, 0) = d at *
      have hn2 := h.n2
      have wy : IntKind.wrap .i64 (IntKind.wrap .i64 (d.1 + d.2.1) - z) = d.1 + d.2.1 - z := by
        rw [w64 (x := d.1 + d.2.1) (by omega) (by omega), w64 (by omega) (by omega)]
      have go0 : ∀ (hno : ∀ w, (joinB z w d && hasB s d.2.2) = true → w ∈ out), ∃ out' ext, Asc out' ∧ (∀ w ∈ out', 0 ≤ w ∧ w < N) ∧ (∀ w, w ∈ list ++ ext ↔ w ∈ out') ∧ (list ++ ext).length = out'.length ∧ (∀ w ∈ out, w ∈ out') ∧
        (∀ w ∈ out', w ∈ out ∨ openB ds z w s = true) ∧ (∀ e ∈ d :: ds.drop (k + 1), ∀ w, (joinB z w e && hasB s e.2.2) = true → w ∈ out') ∧
        spec_l2Reach.l2 n K j s N ds ks out list i ((k + 1 : Nat) : Int) = K s N ds ks out' (list ++ ext) i := by
        intro hno
        obtain ⟨out', ext, q1, q2, q3, q4, q5, q6, q7, q8⟩ := reach_l2 hn h (K := K) hz j (k + 1) out list (by omega) (by omega) ha hr hm hlen hi hzi
        refine ⟨out', ext, q1, q2, q3, q4, q5, q6, ?_, q8⟩
        intro e he w hw
        rcases List.mem_cons.1 he with rfl | he
        · exact q5 w (hno w hw)
        · exact q7 e he w hw
      have goP : ∀ (hh : hasB s d.2.2 = true) (hend : d.1 = z ∨ d.2.1 = z), ∃ out' ext, Asc out' ∧ (∀ w ∈ out', 0 ≤ w ∧ w < N) ∧ (∀ w, w ∈ list ++ ext ↔ w ∈ out') ∧ (list ++ ext).length = out'.length ∧ (∀ w ∈ out, w ∈ out') ∧
        (∀ w ∈ out', w ∈ out ∨ openB ds z w s = true) ∧ (∀ e ∈ d :: ds.drop (k + 1), ∀ w, (joinB z w e && hasB s e.2.2) = true → w ∈ out') ∧
        ((spec_l1Has.F n out (d.1 + d.2.1 - z)).bind fun r2 =>
            if (!r2) = true then
              (spec_l1Put.F n out (d.1 + d.2.1 - z)).bind fun r3 =>
              if list.length + ([d.1 + d.2.1 - z] : List (Int)).length ≤ 4398046511104 then (spec_l2Reach.l2 n K j s N ds ks r3 (list ++ ([d.1 + d.2.1 - z] : List (Int))) i ((k + 1 : Nat) : Int)) else none
            else
              spec_l2Reach.l2 n K j s N ds ks out list i ((k + 1 : Nat) : Int)) = K s N ds ks out' (list ++ ext) i := by
        intro hh hend
        have hjoin : ∀ w, joinB z w d = true → w = d.1 + d.2.1 - z := by
          intro w hw
          simp only [joinB, Bool.or_eq_true, Bool.and_eq_true, decide_eq_true_eq] at hw
          omega
        have hjy : joinB z (d.1 + d.2.1 - z) d = true := by
          simp only [joinB, Bool.or_eq_true, Bool.and_eq_true, decide_eq_true_eq]
          omega
        rw [l1Has_eq (by omega) (by omega), Option.bind_some]
        by_cases hy : (d.1 + d.2.1 - z) ∈ out
        · rw [if_neg (by simp [hy])]
          refine go0 fun w hw => ?_
          simp only [Bool.and_eq_true] at hw
          rw [hjoin w hw.1]
          exact hy
        · rw [if_pos (by simp [hy])]
          obtain ⟨ys, p1, p2, p3, p4⟩ := l1Put_eq (n := n) (by omega) (by omega) ha hy
          rw [p1, Option.bind_some, if_pos (by simp; omega)]
          obtain ⟨out', ext, q1, q2, q3, q4, q5, q6, q7, q8⟩ := reach_l2 hn h (K := K) (i := i) hz j (k + 1) ys (list ++ [d.1 + d.2.1 - z]) (by omega) (by omega) p2
            (fun w hw => by
              rcases (p3 w).1 hw with hw | hw
              · exact hr w hw
              · omega)
            (fun w => by rw [p3 w, List.mem_append, hm w, List.mem_singleton])
            (by rw [p4, List.length_append, hlen]; rfl) (by simp; omega)
            (by rw [List.getD_eq_getElem?_getD, List.getElem?_append_left hi, ← List.getD_eq_getElem?_getD]; exact hzi)
          refine ⟨out', [d.1 + d.2.1 - z] ++ ext, q1, q2, ?_, ?_, ?_, ?_, ?_, ?_⟩
          · intro w; rw [← List.append_assoc]; exact q3 w
          · rw [← List.append_assoc]; exact q4
          · intro w hw; exact q5 w ((p3 w).2 (.inl hw))
          · intro w hw
            rcases q6 w hw with h6 | h6
            · rcases (p3 w).1 h6 with h7 | h7
              · exact .inl h7
              · right
                unfold openB
                refine List.any_eq_true.2 ⟨d, hdm, ?_⟩
                rw [h7, hjy, hh]; rfl
            · exact .inr h6
          · intro e he w hw
            rcases List.mem_cons.1 he with rfl | he
            · simp only [Bool.and_eq_true] at hw
              rw [hjoin w hw.1]
              exact q5 _ ((p3 _).2 (.inr rfl))
            · exact q7 e he w hw
          · rw [← List.append_assoc]; exact q8
      rw [wy]
      cases hh : hasB s d.2.2 with
      | false =>
        simp only [Bool.not_false, if_true]
        exact go0 fun w hw => by simp [hh] at hw
      | true =>
        simp only [Bool.not_true, Bool.false_eq_true, if_false]
        by_cases e1 : d.1 = z
        · rw [if_neg (by simp [e1])]
          exact goP hh (.inl e1)
        · rw [if_pos (by simp [e1])]
          by_cases e2 : d.2.1 = z
          · rw [if_neg (by simp [e2])]
            exact goP hh (.inr e2)
          · rw [if_pos (by simp [e2])]
            refine go0 fun w hw => ?_
            simp only [joinB, Bool.and_eq_true, Bool.or_eq_true, decide_eq_true_eq] at hw
            omega
    · have k1 : ¬ decide ((k : Int) < (ds.length : Int)) = true := by simpa using c
      rw [if_neg k1]
      refine ⟨out, [], ha, hr, by simpa using hm, by simpa using hlen, fun w hw => hw, fun w hw => .inl hw, ?_, by simp⟩
      intro d hd
      rw [List.drop_eq_nil_of_le (by omega)] at hd
      cases hd

theorem reachS_l0 {n : Nat} (hn : 40 ≤ n) {N : Int} {ds : List (Int × Int × Int)} {ks : List Int} (h : VM N ds ks) {s x : Int} {K : List Int → Option (List Int)} (hx : 0 ≤ x ∧ x < N) :
    ∀ (j i : Nat) (out list : List Int), 13 - i < j → Asc out → (∀ w ∈ out, 0 ≤ w ∧ w < N) → (∀ w, w ∈ list ↔ w ∈ out) → list.length = out.length → i ≤ list.length → x ∈ out → (∀ w ∈ out, Rch ds s x w) →
      (∀ m, m < i → ∀ w, openB ds (list.getD m 0) w s = true → w ∈ out) → spec_l2Reach.l0 n K j s N ds ks out list i = K (memL (reachN ds s x))
  | 0, i, out, list, hj, _, _, _, _, _, _, _, _ => by omega
  | j + 1, i, out, list, hj, ha, hr, hm, hlen, hi, h0, h1, h2 => by
    rw [spec_l2Reach.l0]
    have hlo : out.length ≤ 12 := by
      have := asc_length ha hr
      have := h.n2
      omega
    by_cases c : (i : Int) < (list.length : Int)
    · have ci : i < list.length := by omega
      have k1 : decide ((i : Int) < (list.length : Int)) = true := by simpa using c
      rw [if_pos k1]
      have hzm := (hm _).1 (getD_mem (d := (0 : Int)) ci)
      obtain ⟨out', ext, q1, q2, q3, q4, q5, q6, q7, q8⟩ := reach_l2 hn h (K := fun y6 y7 y8 y9 y10 y11 y12 => spec_l2Reach.l0 n K j y6 y7 y8 y9 y10 y11 (IntKind.wrap .i64 (y12 + (1 : Int)))) (i := i) (hr _ hzm) n 0 out list (by have := h.dl; omega) (by omega) ha hr hm hlen ci rfl
      simp only [Int.natCast_zero] at q8
      rw [q8]
      have wi : IntKind.wrap .i64 ((i : Int) + 1) = ((i + 1 : Nat) : Int) := by rw [w64s (by omega) (by omega)]; omega
      rw [wi]
      have hg : ∀ m, m < list.length → (list ++ ext).getD m 0 = list.getD m 0 := fun m hm => by
        rw [List.getD_eq_getElem?_getD, List.getElem?_append_left hm, ← List.getD_eq_getElem?_getD]
      refine reachS_l0 hn h hx j (i + 1) out' (list ++ ext) (by omega) q1 q2 q3 q4 (by simp; omega) (q5 x h0) ?_ ?_
      · intro w hw
        rcases q6 w hw with h6 | h6
        · exact h1 w h6
        · exact .step (h1 _ hzm) h6
      · intro m hm2 w hw
        by_cases e : m = i
        · subst e
          rw [hg m ci] at hw
          unfold openB at hw
          obtain ⟨d, hd, hd2⟩ := List.any_eq_true.1 hw
          exact q7 d (by simpa using hd) w hd2
        · rw [hg m (by omega)] at hw
          exact q5 w (h2 m (by omega) w hw)
    · have k1 : ¬ decide ((i : Int) < (list.length : Int)) = true := by simpa using c
      rw [if_neg k1]
      congr 1
      have clo : ∀ w, Rch ds s x w → w ∈ out := by
        intro w hw
        induction hw with
        | refl => exact h0
        | step hr ho ih =>
          obtain ⟨m, hm2, e⟩ := List.getElem_of_mem ((hm _).2 ih)
          have : list.getD m 0 = list[m] := by rw [List.getD_eq_getElem?_getD, List.getElem?_eq_getElem hm2]; rfl
          exact h2 m (by omega) _ (by rw [this, e]; exact ho)
      refine asc_ext ha (memL_asc _) fun w => ?_
      rw [memL_mem (reachN_lt ds s x)]
      constructor
      · intro hw
        have hwr := hr w hw
        refine ⟨w.toNat, by omega, (reachN_bit h hx _).2 ?_⟩
        have : ((w.toNat : Nat) : Int) = w := by omega
        rw [this]
        exact h1 w hw
      · rintro ⟨m, rfl, hb⟩
        exact clo _ ((reachN_bit h hx m).1 hb)
theorem reachS_eq {n : Nat} (hn : 40 ≤ n) {N : Int} {ds : List (Int × Int × Int)} {ks : List Int} (h : VM N ds ks) {s x : Int} (hx : 0 ≤ x ∧ x < N) : spec_l2Reach.F n N ds ks x s = some (memL (reachN ds s x)) := by
  unfold spec_l2Reach.F
  have := reachS_l0 hn h (K := fun y13 => some y13) (s := s) hx n 0 [x] [x] (by omega) (by simp [Asc]) (by simpa using hx) (fun w => Iff.rfl) rfl (by omega) (by simp) (by intro w hw; simp only [List.mem_singleton] at hw; subst hw; exact .refl) (fun m hm => by omega)
  simpa using this
end Go.Pv
