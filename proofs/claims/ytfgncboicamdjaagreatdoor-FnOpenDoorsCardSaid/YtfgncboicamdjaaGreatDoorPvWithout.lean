/- Plain laws: a node less, least needs, mazes that are joined. -/
import Derived.Test.YtfgncboicamdjaaGreatDoorPvPut
set_option linter.unusedVariables false
set_option linter.unusedSimpArgs false
set_option autoImplicit false
namespace Go.Pv
open Go Go.Fx Go.Pf

/-! ### The order of doors -/
theorem lex3_iff {p q : Int × Int × Int} : lex3 p q = true ↔ p.1 < q.1 ∨ (p.1 = q.1 ∧ (p.2.1 < q.2.1 ∨ (p.2.1 = q.2.1 ∧ p.2.2 < q.2.2))) := by
  simp [lex3]
theorem lex3_trans {p q r : Int × Int × Int} (h1 : lex3 p q = true) (h2 : lex3 q r = true) : lex3 p r = true := by
  rw [lex3_iff] at *
  omega
theorem lex3_ne {p q : Int × Int × Int} (h : lex3 p q = true) : p ≠ q := by
  intro e
  subst e
  rw [lex3_iff] at h
  omega
theorem VM.pair {N : Int} {ds : List (Int × Int × Int)} {ks : List Int} (h : VM N ds ks) {i : Nat} : ∀ {j : Nat}, i < j → j < ds.length → lex3 (ds.getD i (0, 0, 0)) (ds.getD j (0, 0, 0)) = true
  | 0, hij, _ => by omega
  | j + 1, hij, hj => by
    have hs := h.sorted j hj
    by_cases e : i = j
    · subst e; exact hs
    · exact lex3_trans (h.pair (j := j) (by omega) (by omega)) hs

/-! ### What is deleted -/
section
variable {n : Nat}
def nodeP (x : Int) (d : Int × Int × Int) : Bool := decide (d.1 = x) || decide (d.2.1 = x)
/-- One element more behind a part that is filtered. -/
theorem take_filter_step {α : Type} (p : α → Bool) (l : List α) (d : α) {j : Nat} (hj : j < l.length) : (l.take (j + 1)).filter p = (l.take j).filter p ++ (if p (l.getD j d) = true then [l.getD j d] else []) := by
  rw [List.take_succ_eq_append_getElem hj, List.filter_append]
  have : l[j] = l.getD j d := by rw [List.getD_eq_getElem?_getD, List.getElem?_eq_getElem hj]; rfl
  rw [← this, List.filter_cons, List.filter_nil]
theorem filter_all_false {α : Type} (p : α → Bool) (d : α) (l : List α) (h : ∀ m, m < l.length → p (l.getD m d) = false) : l.filter (fun a => !p a) = l := by
  rw [List.filter_eq_self]
  intro a ha
  obtain ⟨m, hm, rfl⟩ := List.getElem_of_mem ha
  have := h m hm
  rw [List.getD_eq_getElem?_getD, List.getElem?_eq_getElem hm] at this
  have e : (some l[m]).getD d = l[m] := rfl
  rw [e] at this
  rw [this]; rfl
variable {N : Int} {ds : List (Int × Int × Int)} {ks : List Int}
/-! ### Least needs -/
def needP (xs : List Int) (v : Int) : Bool := xs.any fun o => !decide (o = v) && hasB v o
theorem needIn_l0 {K : Unit → Option Int} {v : Int} {l : List Int} (hl : l.length ≤ 1048576) (hr : ∀ o ∈ l, 0 ≤ o ∧ o ≤ 63) : ∀ (j i : Nat), l.length - i < j →
    ∃ m : Int, 0 ≤ m ∧ slices_IndexFunc_int_int_cLeastNeeds_1_1.l0 n K j l v l.length i = if needP (l.drop i) v = true then some m else K ()
  | 0, i, h => by omega
  | j + 1, i, h => by
    rw [slices_IndexFunc_int_int_cLeastNeeds_1_1.l0]
    by_cases c : (i : Int) < (l.length : Int)
    · have ci : i < l.length := by omega
      have ei : (i : Int).toNat = i := by omega
      have k1 : decide ((i : Int) < (l.length : Int)) = true := by simpa using c
      have k2 : 0 ≤ (i : Int) ∧ (i : Int) < (l.length : Int) := ⟨by omega, c⟩
      have wi : IntKind.wrap .i64 ((i : Int) + 1) = ((i + 1 : Nat) : Int) := by rw [w64s (by omega) (by omega)]; omega
      have hm := hr _ (getD_mem (d := (0 : Int)) ci)
      have hs := getD_drop (d := (0 : Int)) ci
      have e : impl_LeastNeeds_1_1_c0.F n (l.getD i 0) v = some (!decide (l.getD i 0 = v) && hasB v (l.getD i 0)) := by
        unfold impl_LeastNeeds_1_1_c0.F
        rw [has_eq n hm.1 hm.2]
        cases decide (l.getD i 0 = v) <;> rfl
      rw [if_pos k1, if_pos k2, ei, wi, e, Option.bind_some, hs]
      unfold needP
      rw [List.any_cons]
      cases (!decide (l.getD i 0 = v) && hasB v (l.getD i 0)) with
      | true => exact ⟨i, by omega, by simp⟩
      | false =>
        obtain ⟨m, hm1, hm2⟩ := needIn_l0 hl hr (K := K) (v := v) j (i + 1) (by omega)
        refine ⟨m, hm1, ?_⟩
        rw [if_neg (by simp), hm2]
        rfl
    · have k1 : ¬ decide ((i : Int) < (l.length : Int)) = true := by simpa using c
      have : l.drop i = [] := List.drop_eq_nil_of_le (by omega)
      refine ⟨0, by omega, ?_⟩
      rw [if_neg k1, this]
      rfl
theorem needDel_eq (hn : 1048578 ≤ n) {v : Int} {l : List Int} (hl : l.length ≤ 1048576) (hr : ∀ o ∈ l, 0 ≤ o ∧ o ≤ 63) : impl_LeastNeeds_1_c0.F n v l = some (needP l v) := by
  unfold impl_LeastNeeds_1_c0.F slices_ContainsFunc_int_int_cLeastNeeds_1_1.F slices_IndexFunc_int_int_cLeastNeeds_1_1.F
  obtain ⟨m, hm, he⟩ := needIn_l0 (n := n) (K := fun _ => some (-1 : Int)) (v := v) hl hr n 0 (by omega)
  simp only [Int.natCast_zero, List.drop_zero] at he
  rw [he]
  cases needP l v with
  | true => simp [hm]
  | false => simp
theorem needIdx_l0 (hn : 1048578 ≤ n) {K : Unit → Option Int} {x : List Int} (hx : x.length ≤ 1048576) (hr : ∀ o ∈ x, 0 ≤ o ∧ o ≤ 63) {l : List Int} (hl : l.length ≤ 1048576) : ∀ (j i : Nat), l.length - i < j → i ≤ l.length → (∀ m, m < i → needP x (l.getD m 0) = false) →
    (∃ k : Nat, k < l.length ∧ (∀ m, m < k → needP x (l.getD m 0) = false) ∧ needP x (l.getD k 0) = true ∧ slices_IndexFunc_int_int_cLeastNeeds_1.l0 n K j l x l.length i = some (k : Int)) ∨
    ((∀ m, m < l.length → needP x (l.getD m 0) = false) ∧ slices_IndexFunc_int_int_cLeastNeeds_1.l0 n K j l x l.length i = K ())
  | 0, i, h, _, _ => by omega
  | j + 1, i, h, hi, hm => by
    rw [slices_IndexFunc_int_int_cLeastNeeds_1.l0]
    by_cases c : (i : Int) < (l.length : Int)
    · have ci : i < l.length := by omega
      have ei : (i : Int).toNat = i := by omega
      have k1 : decide ((i : Int) < (l.length : Int)) = true := by simpa using c
      have k2 : 0 ≤ (i : Int) ∧ (i : Int) < (l.length : Int) := ⟨by omega, c⟩
      have wi : IntKind.wrap .i64 ((i : Int) + 1) = ((i + 1 : Nat) : Int) := by rw [w64s (by omega) (by omega)]; omega
      rw [if_pos k1, if_pos k2, ei, wi, needDel_eq hn hx hr, Option.bind_some]
      cases hp : needP x (l.getD i 0) with
      | true =>
        rw [if_pos rfl]
        exact .inl ⟨i, ci, hm, hp, rfl⟩
      | false =>
        rw [if_neg (by simp)]
        refine needIdx_l0 hn hx hr hl j (i + 1) (by omega) (by omega) fun m hm2 => ?_
        by_cases q : m = i
        · rw [q]; exact hp
        · exact hm m (by omega)
    · have k1 : ¬ decide ((i : Int) < (l.length : Int)) = true := by simpa using c
      rw [if_neg k1]
      exact .inr ⟨fun m hm2 => hm m (by omega), rfl⟩
theorem needDel_l0 (hn : 1048578 ≤ n) {K : List Int → Int → Option (List Int)} {x : List Int} (hx : x.length ≤ 1048576) (hr : ∀ o ∈ x, 0 ≤ o ∧ o ≤ 63) {l : List Int} (hl : l.length ≤ 1048576) : ∀ (f j i : Nat) (xs : List Int), l.length - j < f → i < j → j ≤ l.length → xs.length = l.length → xs.take i = (l.take j).filter (fun d => !needP x d) → xs.drop j = l.drop j →
    ∃ (xs' : List Int) (i' : Nat), xs'.length = l.length ∧ i' ≤ l.length ∧ xs'.take i' = l.filter (fun d => !needP x d) ∧ slices_DeleteFunc_int_int_cLeastNeeds_1.l0 n K f xs x i j = K xs' i'
  | 0, j, i, xs, h, _, _, _, _, _ => by omega
  | f + 1, j, i, xs, h, hij, hj, hlen, ht, hd => by
    rw [slices_DeleteFunc_int_int_cLeastNeeds_1.l0, hlen]
    by_cases c : (j : Int) < (l.length : Int)
    · have cj : j < l.length := by omega
      have ej : (j : Int).toNat = j := by omega
      have ei : (i : Int).toNat = i := by omega
      have k1 : decide ((j : Int) < (l.length : Int)) = true := by simpa using c
      have k2 : 0 ≤ (j : Int) ∧ (j : Int) < (l.length : Int) := ⟨by omega, c⟩
      have k3 : 0 ≤ (i : Int) ∧ (i : Int) < (l.length : Int) := ⟨by omega, by omega⟩
      have wj : IntKind.wrap .i64 ((j : Int) + 1) = ((j + 1 : Nat) : Int) := by rw [w64s (by omega) (by omega)]; omega
      have wi : IntKind.wrap .i64 ((i : Int) + 1) = ((i + 1 : Nat) : Int) := by rw [w64s (by omega) (by omega)]; omega
      have hx1 := getD_drop (d := (0 : Int)) (l := xs) (i := j) (by omega)
      have hl1 := getD_drop (d := (0 : Int)) cj
      have hdd := hd
      rw [hx1, hl1] at hdd
      simp only [List.cons.injEq] at hdd
      rw [if_pos k1, if_pos k2, ej, wj, hdd.1, needDel_eq hn hx hr, Option.bind_some]
      have hstep := take_filter_step (fun d => !needP x d) l (0 : Int) cj
      cases hp : needP x (l.getD j 0) with
      | true =>
        rw [if_neg (by simp)]
        rw [hp] at hstep
        refine needDel_l0 hn hx hr hl f (j + 1) i xs (by omega) (by omega) (by omega) hlen ?_ hdd.2
        rw [hstep, ht]; simp
      | false =>
        rw [hp] at hstep
        rw [if_pos (by simp), if_pos k3, ei, wi]
        refine needDel_l0 hn hx hr hl f (j + 1) (i + 1) _ (by omega) (by omega) (by omega) (by simpa using hlen) ?_ ?_
        · rw [set_take xs i _ (by omega), hstep, ht]; simp
        · rw [List.drop_set_of_lt (by omega)]
          exact hdd.2
    · have k1 : ¬ decide ((j : Int) < (l.length : Int)) = true := by simpa using c
      have : j = l.length := by omega
      rw [if_neg k1]
      refine ⟨xs, i, hlen, by omega, ?_, rfl⟩
      rw [ht, this, List.take_length]
theorem needDel_all (hn : 1048578 ≤ n) {l : List Int} (hl : l.length ≤ 1048576) (hr : ∀ o ∈ l, 0 ≤ o ∧ o ≤ 63) : slices_DeleteFunc_int_int_cLeastNeeds_1.F n l l = some (l.filter fun d => !needP l d) := by
  unfold slices_DeleteFunc_int_int_cLeastNeeds_1.F slices_IndexFunc_int_int_cLeastNeeds_1.F
  rcases needIdx_l0 (n := n) hn (K := fun _ => some (-1 : Int)) hl hr hl n 0 (by omega) (by omega) (fun m hm => by omega) with ⟨k, hk, hk2, hk3, he⟩ | ⟨hall, he⟩
  · simp only [Int.natCast_zero] at he
    have wk : IntKind.wrap .i64 ((k : Int) + 1) = ((k + 1 : Nat) : Int) := by rw [w64s (by omega) (by omega)]; omega
    rw [he, Option.bind_some, if_neg (by rw [decide_eq_true_eq]; omega), wk]
    obtain ⟨xs', i', p1, p2, p3, p4⟩ := needDel_l0 (n := n) hn (K := fun y3 y4 =>
      if 0 ≤ y4 ∧ y4 ≤ (y3.length : Int) then (if 0 ≤ y4 ∧ y4 ≤ ((y3.take y4.toNat ++ List.replicate (y3.length - y4.toNat) (0 : Int)).length : Int) then (some ((y3.take y4.toNat ++ List.replicate (y3.length - y4.toNat) (0 : Int)).take y4.toNat)) else none) else none) hl hr hl n (k + 1) k l (by omega) (by omega) (by omega) rfl (by
        have hstep := take_filter_step (fun d => !needP l d) l (0 : Int) hk
        rw [hk3] at hstep
        rw [hstep]
        simp only [Bool.not_true, Bool.false_eq_true, if_false, List.append_nil]
        refine (filter_all_false (needP l) (0 : Int) (l.take k) fun m hm => ?_).symm
        have hmk : m < k := by simp at hm; omega
        rw [List.getD_eq_getElem?_getD, List.getElem?_take, if_pos hmk, ← List.getD_eq_getElem?_getD]
        exact hk2 m hmk) rfl
    rw [p4]
    have ei : (i' : Int).toNat = i' := by omega
    have q1 : 0 ≤ (i' : Int) ∧ (i' : Int) ≤ (xs'.length : Int) := by omega
    have q2 : 0 ≤ (i' : Int) ∧ (i' : Int) ≤ ((xs'.take i' ++ List.replicate (xs'.length - i') (0 : Int)).length : Int) := by
      rw [List.length_append, List.length_take, List.length_replicate]; omega
    simp only [if_pos q1, ei, if_pos q2]
    rw [List.take_append_of_le_length (by rw [List.length_take]; omega), List.take_take, Nat.min_self, p3]
  · simp only [Int.natCast_zero] at he
    rw [he, Option.bind_some, if_pos (by simp)]
    rw [filter_all_false (needP l) (0 : Int) l hall]

theorem joinB_minmax {x y : Int} {d : Int × Int × Int} (h : d.1 < d.2.1) : joinB x y d = (decide (d.1 = (if y < x then y else x)) && decide (d.2.1 = (if y > x then y else x))) := by
  unfold joinB
  by_cases c1 : y < x
  · have : ¬ y > x := by omega
    rw [if_pos c1, if_neg this]
    by_cases a : d.1 = y
    · have : ¬ d.1 = x := by omega
      simp [a]
      omega
    · have : ¬ (d.1 = x ∧ d.2.1 = y) := by omega
      simp [a]
      omega
  · rw [if_neg c1]
    by_cases c2 : y > x
    · rw [if_pos c2]
      by_cases a : d.1 = x
      · simp [a]
        omega
      · simp [a]
        omega
    · rw [if_neg c2]
      have : ¬ (d.1 = x ∧ d.2.1 = y) := by omega
      have e : x = y := by omega
      subst e
      simp
theorem needs_l0 (h : VM N ds ks) {K : List Int → Option (List Int × Bool)} {x y : Int} : ∀ (j i : Nat) (o : List Int), ds.length - i < j → o.length ≤ i → i ≤ ds.length →
    impl_LeastNeeds.l0 n K j x y o ds ds.length i = K (o ++ ((ds.drop i).filter (joinB x y)).map fun d => d.2.2)
  | 0, i, o, hj, _, _ => by omega
  | j + 1, i, o, hj, ho, hi => by
    rw [impl_LeastNeeds.l0]
    have hdl := h.dl
    by_cases c : (i : Int) < (ds.length : Int)
    · have ci : i < ds.length := by omega
      have ei : (i : Int).toNat = i := by omega
      have k1 : decide ((i : Int) < (ds.length : Int)) = true := by simpa using c
      have k2 : 0 ≤ (i : Int) ∧ (i : Int) < (ds.length : Int) := ⟨by omega, c⟩
      have wi : IntKind.wrap .i64 ((i : Int) + 1) = ((i + 1 : Nat) : Int) := by rw [w64s (by omega) (by omega)]; omega
      have hs := getD_drop (d := ((0, 0, 0) : Int × Int × Int)) ci
      have hm := h.door _ (getD_mem (d := ((0, 0, 0) : Int × Int × Int)) ci)
      have k3 : o.length + ([(ds.getD i (0, 0, 0)).2.2] : List Int).length ≤ 4398046511104 := by simp only [List.length_singleton]; omega
      rw [if_pos k1, if_pos k2, ei, wi, hs, List.filter_cons, if_pos k3, needs_l0 h j (i + 1) _ (by omega) (by simp; omega) (by omega), needs_l0 h j (i + 1) o (by omega) (by omega) (by omega), joinB_minmax hm.2.1]
      cases decide ((ds.getD i (0, 0, 0)).1 = (if y < x then y else x)) with
      | false => simp
      | true =>
        cases decide ((ds.getD i (0, 0, 0)).2.1 = (if y > x then y else x)) with
        | false => simp
        | true => simp
    · have k1 : ¬ decide ((i : Int) < (ds.length : Int)) = true := by simpa using c
      have : ds.drop i = [] := List.drop_eq_nil_of_le (by omega)
      rw [if_neg k1, this]
      simp
/-- Is a door's need a least one, as the reference tells. -/
def leastB (ds : List (Int × Int × Int)) (x y : Int) (i k : Nat) : Bool := !decide (k = i) && joinB x y (ds.getD k (0, 0, 0)) && hasB (ds.getD i (0, 0, 0)).2.2 (ds.getD k (0, 0, 0)).2.2
theorem leastS_l2 (h : VM N ds ks) {K : Int → Int → Int → List (Int × Int × Int) → List Int → List Int → Int → Bool → Option (List Int × Bool)} {x y : Int} {o : List Int} {i : Nat} (hi : i < ds.length) : ∀ (j k : Nat) (b : Bool), ds.length - k < j → k ≤ ds.length →
    spec_LeastNeeds.l2 n K j x y N ds ks o i b k = K x y N ds ks o i (b && !((List.range' k (ds.length - k)).any fun m => leastB ds x y i m))
  | 0, k, b, hj, _ => by omega
  | j + 1, k, b, hj, hk => by
    rw [spec_LeastNeeds.l2]
    have hdl := h.dl
    by_cases c : (k : Int) < (ds.length : Int)
    · have ck : k < ds.length := by omega
      have ek : (k : Int).toNat = k := by omega
      have ei : (i : Int).toNat = i := by omega
      have k1 : decide ((k : Int) < (ds.length : Int)) = true := by simpa using c
      have k2 : 0 ≤ (k : Int) ∧ (k : Int) < (ds.length : Int) := ⟨by omega, c⟩
      have k3 : 0 ≤ (i : Int) ∧ (i : Int) < (ds.length : Int) := ⟨by omega, by omega⟩
      have wk : IntKind.wrap .i64 ((k : Int) + 1) = ((k + 1 : Nat) : Int) := by rw [w64s (by omega) (by omega)]; omega
      have e : ds.length - k = (ds.length - (k + 1)) + 1 := by omega
      rw [if_pos k1]
      cases b with
      | false => simp
      | true =>
        rw [if_pos rfl, e, List.range'_succ, List.any_cons]
        have ih := fun b => leastS_l2 h (K := K) (x := x) (y := y) (o := o) hi j (k + 1) b (by omega) (by omega)
        simp only [if_pos k2, if_pos k3, ek, ei, wk, l2Joins_eq, l2Has_eq, Option.bind_some, ih]
        have hl : leastB ds x y i k = (!decide (k = i) && joinB x y (ds.getD k (0, 0, 0)) && hasB (ds.getD i (0, 0, 0)).2.2 (ds.getD k (0, 0, 0)).2.2) := rfl
        rw [hl]
        have hki : decide ((k : Int) = (i : Int)) = decide (k = i) := by rw [decide_eq_decide]; omega
        rw [hki]
        cases decide (k = i) with
        | true => simp
        | false =>
          cases joinB x y (ds.getD k (0, 0, 0)) with
          | false => simp
          | true =>
            cases hasB (ds.getD i (0, 0, 0)).2.2 (ds.getD k (0, 0, 0)).2.2 with
            | false => simp
            | true => simp
    · have k1 : ¬ decide ((k : Int) < (ds.length : Int)) = true := by simpa using c
      have e : ds.length - k = 0 := by omega
      rw [if_neg k1, e]
      simp
theorem leastS_l0 (hn : 40 ≤ n) (h : VM N ds ks) {K : List Int → Option (List Int × Bool)} {x y : Int} (P : List Int) (hP : ∀ i, i < ds.length → joinB x y (ds.getD i (0, 0, 0)) = true → ((List.range' 0 ds.length).any fun m => leastB ds x y i m) = needP P (ds.getD i (0, 0, 0)).2.2) : ∀ (j i : Nat) (o : List Int), ds.length - i < j → o.length ≤ i → i ≤ ds.length →
    spec_LeastNeeds.l0 n K j x y N ds ks o i = K (o ++ (((ds.drop i).filter (joinB x y)).map fun d => d.2.2).filter fun v => !needP P v)
  | 0, i, o, hj, _, _ => by omega
  | j + 1, i, o, hj, ho, hi => by
    rw [spec_LeastNeeds.l0]
    have hdl := h.dl
    by_cases c : (i : Int) < (ds.length : Int)
    · have ci : i < ds.length := by omega
      have ei : (i : Int).toNat = i := by omega
      have k1 : decide ((i : Int) < (ds.length : Int)) = true := by simpa using c
      have k2 : 0 ≤ (i : Int) ∧ (i : Int) < (ds.length : Int) := ⟨by omega, c⟩
      have wi : IntKind.wrap .i64 ((i : Int) + 1) = ((i + 1 : Nat) : Int) := by rw [w64s (by omega) (by omega)]; omega
      have hs := getD_drop (d := ((0, 0, 0) : Int × Int × Int)) ci
      have k3 : o.length + ([(ds.getD i (0, 0, 0)).2.2] : List Int).length ≤ 4398046511104 := by simp only [List.length_singleton]; omega
      have e2 := leastS_l2 (n := n) h (K := fun y6 y7 y8 y9 y10 y11 y12 y13 =>
        if y13 = true then
          if 0 ≤ y12 ∧ y12 < (y9.length : Int) then (if y11.length + ([(y9.getD y12.toNat ((0 : Int), (0 : Int), (0 : Int))).2.2] : List (Int)).length ≤ 4398046511104 then (spec_LeastNeeds.l0 n K j y6 y7 y8 y9 y10 (y11 ++ ([(y9.getD y12.toNat ((0 : Int), (0 : Int), (0 : Int))).2.2] : List (Int))) (IntKind.wrap .i64 (y12 + (1 : Int)))) else none) else none
        else
          spec_LeastNeeds.l0 n K j y6 y7 y8 y9 y10 y11 (IntKind.wrap .i64 (y12 + (1 : Int)))) (x := x) (y := y) (o := o) ci n 0 (joinB x y (ds.getD i (0, 0, 0))) (by omega) (by omega)
      simp only [Int.natCast_zero, Nat.sub_zero] at e2
      rw [if_pos k1, if_pos k2, l2Joins_eq, Option.bind_some, ei, e2, if_pos k2, ei, if_pos k3, wi, leastS_l0 hn h P hP j (i + 1) _ (by omega) (by simp; omega) (by omega), leastS_l0 hn h P hP j (i + 1) o (by omega) (by omega) (by omega), hs, List.filter_cons]
      cases hj2 : joinB x y (ds.getD i (0, 0, 0)) with
      | false => simp
      | true =>
        simp only [Nat.sub_zero, hP i ci hj2, Bool.true_and, if_true, List.map_cons, List.filter_cons]
        cases needP P (ds.getD i (0, 0, 0)).2.2 with
        | false => simp
        | true => simp
    · have k1 : ¬ decide ((i : Int) < (ds.length : Int)) = true := by simpa using c
      have : ds.drop i = [] := List.drop_eq_nil_of_le (by omega)
      rw [if_neg k1, this]
      simp
theorem least_same (h : VM N ds ks) {x y : Int} {i : Nat} (hi : i < ds.length) (hj : joinB x y (ds.getD i (0, 0, 0)) = true) : ((List.range' 0 ds.length).any fun m => leastB ds x y i m) = needP ((ds.filter (joinB x y)).map fun d => d.2.2) (ds.getD i (0, 0, 0)).2.2 := by
  rw [Bool.eq_iff_iff]
  unfold needP
  rw [List.any_eq_true, List.any_eq_true]
  have hdi := h.door _ (getD_mem (d := ((0, 0, 0) : Int × Int × Int)) hi)
  rw [joinB_minmax hdi.2.1] at hj
  simp only [Bool.and_eq_true, decide_eq_true_eq] at hj
  constructor
  · rintro ⟨m, hm, hb⟩
    have hm2 : m < ds.length := by simpa using hm
    unfold leastB at hb
    simp only [Bool.and_eq_true, Bool.not_eq_true', decide_eq_false_iff_not] at hb
    obtain ⟨⟨b1, b2⟩, b3⟩ := hb
    have hdm := h.door _ (getD_mem (d := ((0, 0, 0) : Int × Int × Int)) hm2)
    refine ⟨(ds.getD m (0, 0, 0)).2.2, List.mem_map.2 ⟨ds.getD m (0, 0, 0), List.mem_filter.2 ⟨getD_mem hm2, b2⟩, rfl⟩, ?_⟩
    rw [joinB_minmax hdm.2.1] at b2
    simp only [Bool.and_eq_true, decide_eq_true_eq] at b2
    simp only [Bool.and_eq_true, Bool.not_eq_true', decide_eq_false_iff_not]
    refine ⟨fun e => ?_, b3⟩
    have hne : ds.getD m (0, 0, 0) ≠ ds.getD i (0, 0, 0) := by
      rcases Nat.lt_or_ge m i with hlt | hge
      · exact lex3_ne (h.pair hlt hi)
      · exact (lex3_ne (h.pair (i := i) (j := m) (by omega) hm2)).symm
    apply hne
    apply Prod.ext
    · rw [b2.1, hj.1]
    · apply Prod.ext
      · rw [b2.2, hj.2]
      · exact e
  · rintro ⟨v, hv, hb⟩
    obtain ⟨d, hd, rfl⟩ := List.mem_map.1 hv
    obtain ⟨hd1, hd2⟩ := List.mem_filter.1 hd
    obtain ⟨m, hm, rfl⟩ := List.getElem_of_mem hd1
    have hg : ds.getD m (0, 0, 0) = ds[m] := by rw [List.getD_eq_getElem?_getD, List.getElem?_eq_getElem hm]; rfl
    simp only [Bool.and_eq_true, Bool.not_eq_true', decide_eq_false_iff_not] at hb
    refine ⟨m, by simpa using hm, ?_⟩
    unfold leastB
    rw [hg, hd2, hb.2]
    have : ¬ m = i := by
      intro e
      subst e
      exact hb.1 (by rw [hg])
    simp [this]
open Classical in
theorem LeastNeeds_same (hn : 1048578 ≤ n) (x y : Int) : ∃ q : List Int × Bool, q.1.length ≤ 1048576 ∧ spec_LeastNeeds.F n N ds ks x y = some q ∧ impl_LeastNeeds.F n N ds ks x y = some q := by
  unfold spec_LeastNeeds.F impl_LeastNeeds.F
  rw [isNode_eq (by omega) (by simp; omega) (by simp)]
  simp only [l2Node_eq (n := n) (by omega : 40 ≤ n), Option.bind_some, List.all_cons, List.all_nil, Bool.and_true]
  by_cases h : VM N ds ks
  · have hv : decide (VM N ds ks) = true := by simp [h]
    rw [hv, Bool.true_and, Bool.true_and, Bool.true_and]
    cases hx : inB x 0 (N - 1) with
    | false => exact ⟨([], false), by simp, rfl, rfl⟩
    | true =>
      cases hy : inB y 0 (N - 1) with
      | false => exact ⟨([], false), by simp, rfl, rfl⟩
      | true =>
        have hdl := h.dl
        simp only [Bool.and_self, Bool.not_true, Bool.false_eq_true, if_false]
        have e1 := leastS_l0 (n := n) (by omega) h (K := fun y14 => some (y14, true)) (x := x) (y := y) _ (fun i hi hj => least_same h hi hj) n 0 [] (by omega) (by simp) (by omega)
        have e2 := needs_l0 (n := n) h (x := x) (y := y) (K := fun y2 =>
          (slices_Clone_int_int.F n y2).bind fun r3 =>
          (slices_DeleteFunc_int_int_cLeastNeeds_1.F n r3 y2).bind fun r4 =>
          some (r4, true)) n 0 [] (by omega) (by simp) (by omega)
        simp only [Int.natCast_zero, List.drop_zero, List.nil_append] at e1 e2
        rw [e1, e2]
        have hlen := List.length_filter_le (joinB x y) ds
        have hml : ((ds.filter (joinB x y)).map fun d => d.2.2).length ≤ 30 := by rw [List.length_map]; omega
        have hr : ∀ o ∈ (ds.filter (joinB x y)).map fun d => d.2.2, 0 ≤ o ∧ o ≤ 63 := by
          intro o ho
          obtain ⟨d, hd, rfl⟩ := List.mem_map.1 ho
          have := h.door d (List.mem_filter.1 hd).1
          omega
        have ecl : slices_Clone_int_int.F n ((ds.filter (joinB x y)).map fun d => d.2.2) = some ((ds.filter (joinB x y)).map fun d => d.2.2) := by
          unfold slices_Clone_int_int.F
          rw [if_pos (by rw [List.length_nil]; omega)]
          rfl
        rw [ecl, Option.bind_some, needDel_all hn (by omega) hr, Option.bind_some]
        have hfl := List.length_filter_le (fun v => !needP ((ds.filter (joinB x y)).map fun d => d.2.2) v) ((ds.filter (joinB x y)).map fun d => d.2.2)
        exact ⟨_, by simp only; omega, rfl, rfl⟩
  · have hv : decide (VM N ds ks) = false := by simp [h]
    rw [hv]
    exact ⟨([], false), by simp, rfl, rfl⟩

/-! ### Mazes that are joined -/
theorem l2Put_l0 {K : List (Int × Int × Int) → Int → Int → Int → Int → Option (List (Int × Int × Int))} {xs : List (Int × Int × Int)} {d : Int × Int × Int} (hx : xs.length ≤ 1048576) (hall : ∀ m, m < xs.length → lex3 (xs.getD m (0, 0, 0)) d = true) : ∀ (j i : Nat), xs.length - i < j → i ≤ xs.length →
    spec_l2Put.l0 n K j xs d.1 d.2.1 d.2.2 i = K xs d.1 d.2.1 d.2.2 xs.length
  | 0, i, h, _ => by omega
  | j + 1, i, h, hi => by
    rw [spec_l2Put.l0]
    by_cases c : (i : Int) < (xs.length : Int)
    · have ci : i < xs.length := by omega
      have ei : (i : Int).toNat = i := by omega
      have k1 : decide ((i : Int) < (xs.length : Int)) = true := by simpa using c
      have k2 : 0 ≤ (i : Int) ∧ (i : Int) < (xs.length : Int) := ⟨by omega, c⟩
      have wi : IntKind.wrap .i64 ((i : Int) + 1) = ((i + 1 : Nat) : Int) := by rw [w64s (by omega) (by omega)]; omega
      rw [if_pos k1, if_pos k2, l2Before_eq, Option.bind_some, ei, hall i ci, if_pos rfl, wi]
      exact l2Put_l0 hx hall j (i + 1) (by omega) (by omega)
    · have k1 : ¬ decide ((i : Int) < (xs.length : Int)) = true := by simpa using c
      have : i = xs.length := by omega
      rw [if_neg k1, this]
theorem l2Put_end (hn : 1048578 ≤ n) {xs : List (Int × Int × Int)} {d : Int × Int × Int} (hx : xs.length ≤ 1048576) (hd : d.1 < d.2.1) (hall : ∀ m, m < xs.length → lex3 (xs.getD m (0, 0, 0)) d = true) : spec_l2Put.F n xs d.1 d.2.1 d.2.2 = some (xs ++ [d]) := by
  unfold spec_l2Put.F
  have e1 : spec_l1Least.F n d.1 d.2.1 = some d.1 := by
    unfold spec_l1Least.F
    rw [if_pos (by rw [decide_eq_true_eq]; exact hd)]
  have e2 : spec_l1Most.F n d.1 d.2.1 = some d.2.1 := by
    unfold spec_l1Most.F
    rw [if_neg (by rw [decide_eq_true_eq]; omega)]
  rw [e1, e2, Option.bind_some, Option.bind_some]
  have := l2Put_l0 (n := n) (K := fun y4 y5 y6 y7 y8 =>
    if (decide (y8 < (y4.length : Int))) = true then
      if 0 ≤ y8 ∧ y8 < (y4.length : Int) then (if (decide (((y4.getD y8.toNat ((0 : Int), (0 : Int), (0 : Int))).1) = y5) && (decide (((y4.getD y8.toNat ((0 : Int), (0 : Int), (0 : Int))).2.1) = y6) && (decide (((y4.getD y8.toNat ((0 : Int), (0 : Int), (0 : Int))).2.2) = y7) && true))) = true then
        some y4
      else
        if 0 ≤ y8 ∧ y8 ≤ (y4.length : Int) then (if ([] : List (Int × Int × Int)).length + (y4.take y8.toNat).length ≤ 4398046511104 then (if (([] : List (Int × Int × Int)) ++ (y4.take y8.toNat)).length + ([(y5, y6, y7)] : List (Int × Int × Int)).length ≤ 4398046511104 then (if 0 ≤ y8 ∧ y8 ≤ (y4.length : Int) then (if ((([] : List (Int × Int × Int)) ++ (y4.take y8.toNat)) ++ ([(y5, y6, y7)] : List (Int × Int × Int))).length + (y4.drop y8.toNat).length ≤ 4398046511104 then (some (((([] : List (Int × Int × Int)) ++ (y4.take y8.toNat)) ++ ([(y5, y6, y7)] : List (Int × Int × Int))) ++ (y4.drop y8.toNat))) else none) else none) else none) else none) else none) else none
    else
      if 0 ≤ y8 ∧ y8 ≤ (y4.length : Int) then (if ([] : List (Int × Int × Int)).length + (y4.take y8.toNat).length ≤ 4398046511104 then (if (([] : List (Int × Int × Int)) ++ (y4.take y8.toNat)).length + ([(y5, y6, y7)] : List (Int × Int × Int)).length ≤ 4398046511104 then (if 0 ≤ y8 ∧ y8 ≤ (y4.length : Int) then (if ((([] : List (Int × Int × Int)) ++ (y4.take y8.toNat)) ++ ([(y5, y6, y7)] : List (Int × Int × Int))).length + (y4.drop y8.toNat).length ≤ 4398046511104 then (some (((([] : List (Int × Int × Int)) ++ (y4.take y8.toNat)) ++ ([(y5, y6, y7)] : List (Int × Int × Int))) ++ (y4.drop y8.toNat))) else none) else none) else none) else none) else none) hx hall n 0 (by omega) (by omega)
  simp only [Int.natCast_zero] at this
  rw [this]
  have k1 : ¬ decide ((xs.length : Int) < (xs.length : Int)) = true := by rw [decide_eq_true_eq]; omega
  have ek : (xs.length : Int).toNat = xs.length := by omega
  have q1 : 0 ≤ (xs.length : Int) ∧ (xs.length : Int) ≤ (xs.length : Int) := ⟨by omega, by omega⟩
  have q2 : ([] : List (Int × Int × Int)).length + (xs.take xs.length).length ≤ 4398046511104 := by simp; omega
  have q3 : (([] : List (Int × Int × Int)) ++ (xs.take xs.length)).length + ([(d.1, d.2.1, d.2.2)] : List (Int × Int × Int)).length ≤ 4398046511104 := by simp; omega
  have q4 : ((([] : List (Int × Int × Int)) ++ (xs.take xs.length)) ++ ([(d.1, d.2.1, d.2.2)] : List (Int × Int × Int))).length + (xs.drop xs.length).length ≤ 4398046511104 := by simp; omega
  simp only [if_neg k1, ek, if_pos q1, if_pos q2, if_pos q3, if_pos q4]
  simp
def shiftD (by_ : Int) (d : Int × Int × Int) : Int × Int × Int := (d.1 + by_, d.2.1 + by_, d.2.2)
theorem lex3_shift {b : Int} {p q : Int × Int × Int} (h : lex3 p q = true) : lex3 (shiftD b p) (shiftD b q) = true := by
  rw [lex3_iff] at *
  simp only [shiftD]
  omega
variable {M : Int} {es : List (Int × Int × Int)} {js : List Int}
end
end Go.Pv
