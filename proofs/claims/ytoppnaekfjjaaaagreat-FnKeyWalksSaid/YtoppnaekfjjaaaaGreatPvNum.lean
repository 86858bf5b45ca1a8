/- Plain laws: mazes with other numbers of their nodes. -/
import Derived.Test.YtoppnaekfjjaaaaGreatPvAdd
set_option linter.unusedVariables false
set_option linter.unusedSimpArgs false
set_option autoImplicit false
set_option maxRecDepth 4000
namespace Go.Pv
open Go Go.Fx Go.Pf

/-! ### Counting -/
def upF : Int → Nat → List Int
  | _, 0 => []
  | a, m + 1 => a :: upF (a + 1) m
theorem upF_len : ∀ (m : Nat) (a : Int), (upF a m).length = m
  | 0, a => rfl
  | m + 1, a => by simp [upF, upF_len m (a + 1)]
theorem upF_mem : ∀ (m : Nat) (a x : Int), x ∈ upF a m ↔ a ≤ x ∧ x < a + m
  | 0, a, x => by simp [upF]
  | m + 1, a, x => by
    rw [upF, List.mem_cons, upF_mem m (a + 1) x]
    omega
theorem upF_snoc : ∀ (m : Nat) (a : Int), upF a (m + 1) = upF a m ++ [a + m]
  | 0, a => by simp [upF]
  | m + 1, a => by
    rw [upF, upF_snoc m (a + 1), upF]
    simp
    omega
theorem counting_l0 {n : Nat} {K : List Int → Option (List Int)} {N : Int} (hN : N ≤ 1048576) : ∀ (f i : Nat), N.toNat - i < f → (i : Int) ≤ N →
    impl_counting.l0 n K f (upF 0 i) N i = K (upF 0 N.toNat)
  | 0, i, hf, _ => by omega
  | f + 1, i, hf, hi => by
    rw [impl_counting.l0]
    by_cases c : (i : Int) < N
    · have wi : IntKind.wrap .i64 ((i : Int) + 1) = ((i + 1 : Nat) : Int) := by rw [w64s (by omega) (by omega)]; omega
      have e : upF 0 i ++ [(i : Int)] = upF 0 (i + 1) := by rw [upF_snoc]; simp
      rw [if_pos (by rw [decide_eq_true_eq]; exact c), if_pos (by rw [upF_len, List.length_singleton]; omega), wi, e]
      exact counting_l0 hN f (i + 1) (by omega) (by omega)
    · rw [if_neg (by rw [decide_eq_true_eq]; exact c)]
      rw [show N.toNat = i by omega]
theorem counting_eq {n : Nat} {N : Int} (h0 : 0 ≤ N) (hN : N ≤ 1048576) (hn : N.toNat < n) : impl_counting.F n N = some (upF 0 N.toNat) := by
  unfold impl_counting.F
  have := counting_l0 (n := n) (K := fun y1 => some y1) hN n 0 (by omega) (by omega)
  exact this
theorem equal_l0 {n : Nat} {K : Unit → Option Bool} {xs ys : List Int} (hl : xs.length = ys.length) (hx : xs.length ≤ 1048576) : ∀ (f i : Nat), xs.length - i < f → i ≤ xs.length →
    slices_Equal_int_int.l0 n K f xs ys xs.length i = if xs.drop i = ys.drop i then K () else some false
  | 0, i, hf, _ => by omega
  | f + 1, i, hf, hi => by
    rw [slices_Equal_int_int.l0]
    by_cases cc : (i : Int) < (xs.length : Int)
    · have c2 : i < xs.length := by omega
      have k1 : decide ((i : Int) < (xs.length : Int)) = true := by simpa using cc
      have k2 : 0 ≤ (i : Int) ∧ (i : Int) < (xs.length : Int) := ⟨by omega, cc⟩
      have k3 : 0 ≤ (i : Int) ∧ (i : Int) < (ys.length : Int) := by omega
      have wi : IntKind.wrap .i64 ((i : Int) + 1) = ((i + 1 : Nat) : Int) := by rw [w64s (by omega) (by omega)]; omega
      rw [if_pos k1, if_pos k2, if_pos k3, Int.toNat_natCast, wi, getD_drop (d := (0 : Int)) c2, getD_drop (d := (0 : Int)) (l := ys) (i := i) (by omega), equal_l0 hl hx f (i + 1) (by omega) (by omega)]
      by_cases e : xs.getD i 0 = ys.getD i 0
      · rw [if_neg (by rw [decide_eq_true e]; simp), e]
        by_cases e2 : xs.drop (i + 1) = ys.drop (i + 1)
        · rw [if_pos e2, if_pos (by rw [e2])]
        · rw [if_neg e2, if_neg (fun h => e2 (List.cons.inj h).2)]
      · rw [if_pos (by rw [decide_eq_false e]; rfl), if_neg (fun h => e (List.cons.inj h).1)]
    · have k1 : ¬ decide ((i : Int) < (xs.length : Int)) = true := by simpa using cc
      rw [if_neg k1, List.drop_eq_nil_of_le (by omega), List.drop_eq_nil_of_le (by omega), if_pos rfl]
theorem equal_eq {n : Nat} {xs ys : List Int} (hx : xs.length ≤ 1048576) (hn : xs.length < n) : slices_Equal_int_int.F n xs ys = some (decide (xs = ys)) := by
  unfold slices_Equal_int_int.F
  by_cases hl : xs.length = ys.length
  · rw [if_neg (by rw [decide_eq_true (by omega)]; simp)]
    have := equal_l0 (n := n) (K := fun _ => some true) hl hx n 0 (by omega) (by omega)
    simp only [Int.natCast_zero, List.drop_zero] at this
    rw [this]
    by_cases e : xs = ys
    · rw [if_pos e, decide_eq_true e]
    · rw [if_neg e, decide_eq_false e]
  · rw [if_pos (by rw [decide_eq_false (by omega)]; rfl), decide_eq_false (fun e => hl (by rw [e]))]
theorem sorted_up : ∀ (m : Nat) (a : Int) (l : List Int), l.Pairwise (· ≤ ·) → l.length = m → (∀ i : Int, a ≤ i → i < a + m → i ∈ l) → l = upF a m
  | 0, a, l, _, hl, _ => List.length_eq_zero_iff.1 hl
  | m + 1, a, [], _, hl, _ => by simp at hl
  | m + 1, a, x :: r, hs, hl, hin => by
    have hs' := List.pairwise_cons.1 hs
    have hlr : r.length = m := by simpa using hl
    have hxa : x ≤ a := by
      rcases List.mem_cons.1 (hin a (by omega) (by omega)) with h | h
      · omega
      · exact hs'.1 a h
    by_cases e : x = a
    · subst e
      have ih := sorted_up m (x + 1) r hs'.2 hlr (fun i h1 h2 => by
        rcases List.mem_cons.1 (hin i (by omega) (by omega)) with h | h
        · omega
        · exact h)
      rw [ih]
      rfl
    · have ih := sorted_up m a r hs'.2 hlr (fun i h1 h2 => by
        rcases List.mem_cons.1 (hin i (by omega) (by omega)) with h | h
        · omega
        · exact h)
      have hlast : a + (m : Int) ∈ r := by
        rcases List.mem_cons.1 (hin (a + m) (by omega) (by omega)) with h | h
        · omega
        · exact h
      rw [ih, upF_mem] at hlast
      omega
def Ord (l : List Int) (N : Int) : Prop := (∀ i : Int, 0 ≤ i → i < N → i ∈ l) ∧ (l.length : Int) = N
theorem sortI_up {l : List Int} {N : Int} (h0 : 0 ≤ N) : sortI l = upF 0 N.toNat ↔ Ord l N := by
  have hlen : (sortI l).length = l.length := by unfold sortI; exact List.length_mergeSort _
  have hmem : ∀ x, x ∈ sortI l ↔ x ∈ l := fun x => by unfold sortI; exact List.mem_mergeSort
  constructor
  · intro e
    constructor
    · intro i h1 h2
      rw [← hmem, e, upF_mem]
      omega
    · rw [← hlen, e, upF_len]
      omega
  · rintro ⟨h1, h2⟩
    refine sorted_up N.toNat 0 _ ?_ (by omega) (fun i a b => (hmem i).2 (h1 i a (by omega)))
    unfold sortI
    have h := List.pairwise_mergeSort (le := fun x y : Int => decide (x ≤ y)) (fun a b c h1 h2 => by
      rw [decide_eq_true_eq] at *
      omega) (fun a b => by
      simp only [Bool.or_eq_true, decide_eq_true_eq]
      omega) l
    exact h.imp fun {a b} h => by simpa using h
open Classical in
theorem isOrder_eq {n : Nat} {l : List Int} {N : Int} (h0 : 0 ≤ N) (hN : N ≤ 64) (hl : l.length ≤ 1048576) (hn : 1048578 ≤ n) : impl_isOrder.F n l N = some (decide (Ord l N)) := by
  unfold impl_isOrder.F slices_Clone_int_int.F sortInts.F
  rw [if_pos (by simp; omega), Option.bind_some]
  have hlen : (sortI l).length = l.length := by unfold sortI; exact List.length_mergeSort _
  rw [show ([] : List Int) ++ l = l from rfl, if_pos (by omega), Option.bind_some, counting_eq h0 (by omega) (by omega), Option.bind_some, equal_eq (by omega) (by omega), Option.bind_some]
  congr 1
  rw [decide_eq_decide]
  exact sortI_up h0
theorem has_l0 {n : Nat} {K : Unit → Option Bool} {xs : List Int} {y : Int} (hx : xs.length ≤ 4398046511104) : ∀ (j i : Nat), xs.length - i < j →
    spec_l1Has.l0 n K j xs y i = if y ∈ xs.drop i then some true else K ()
  | 0, i, h => by omega
  | j + 1, i, h => by
    rw [spec_l1Has.l0]
    by_cases c : (i : Int) < (xs.length : Int)
    · have ci : i < xs.length := by omega
      have k1 : decide ((i : Int) < (xs.length : Int)) = true := by simpa using c
      have k2 : 0 ≤ (i : Int) ∧ (i : Int) < (xs.length : Int) := ⟨by omega, c⟩
      have wi : IntKind.wrap .i64 ((i : Int) + 1) = ((i + 1 : Nat) : Int) := by rw [w64s (by omega) (by omega)]; omega
      rw [if_pos k1, if_pos k2, wi, Int.toNat_natCast, has_l0 hx j (i + 1) (by omega), getD_drop (d := (0 : Int)) ci]
      by_cases e : xs.getD i 0 = y
      · rw [if_pos (by rw [decide_eq_true e]), if_pos (by rw [← e]; simp)]
      · rw [if_neg (by rw [decide_eq_false e]; simp)]
        by_cases e2 : y ∈ xs.drop (i + 1)
        · rw [if_pos e2, if_pos (List.mem_cons_of_mem _ e2)]
        · rw [if_neg e2, if_neg (fun h => by
            rcases List.mem_cons.1 h with h | h
            · exact e h.symm
            · exact e2 h)]
    · have k1 : ¬ decide ((i : Int) < (xs.length : Int)) = true := by simpa using c
      have : xs.drop i = [] := List.drop_eq_nil_of_le (by omega)
      rw [if_neg k1, this, if_neg (by simp)]
theorem hasL_eq {n : Nat} {xs : List Int} (hx : xs.length ≤ 4398046511104) (hn : xs.length < n) (y : Int) : spec_l1Has.F n xs y = some (decide (y ∈ xs)) := by
  unfold spec_l1Has.F
  have := has_l0 (n := n) (K := fun _ => some false) (y := y) hx n 0 (by omega)
  simp only [Int.natCast_zero, List.drop_zero] at this
  rw [this]
  by_cases e : y ∈ xs
  · simp [e]
  · simp [e]
open Classical in
theorem l2Order_l0 {n : Nat} {l : List Int} {N : Int} (h0 : 0 ≤ N) (hN : N ≤ 64) (hl : l.length ≤ 1048576) (hn : 1048578 ≤ n) : ∀ (f i : Nat), N.toNat - i < f → (i : Int) ≤ N → (∀ j : Int, 0 ≤ j → j < i → j ∈ l) →
    spec_l2Order.l0 n (fun y2 y3 => some (decide ((y2.length : Int) = y3))) f l N i = some (decide (Ord l N))
  | 0, i, hf, _, _ => by omega
  | f + 1, i, hf, hi, hin => by
    rw [spec_l2Order.l0]
    by_cases c : (i : Int) < N
    · have wi : IntKind.wrap .i64 ((i : Int) + 1) = ((i + 1 : Nat) : Int) := by rw [w64s (by omega) (by omega)]; omega
      rw [if_pos (by rw [decide_eq_true_eq]; exact c), hasL_eq (by omega) (by omega), Option.bind_some, wi]
      by_cases e : (i : Int) ∈ l
      · rw [if_neg (by rw [decide_eq_true e]; simp)]
        exact l2Order_l0 h0 hN hl hn f (i + 1) (by omega) (by omega) (fun j h1 h2 => by
          by_cases hj : j = i
          · rw [hj]; exact e
          · exact hin j h1 (by omega))
      · rw [if_pos (by rw [decide_eq_false e]; rfl)]
        have : ¬ Ord l N := fun h => e (h.1 i (by omega) c)
        rw [decide_eq_false this]
    · rw [if_neg (by rw [decide_eq_true_eq]; exact c)]
      congr 1
      rw [decide_eq_decide]
      constructor
      · intro h
        exact ⟨fun j h1 h2 => hin j h1 (by omega), h⟩
      · intro h
        exact h.2
open Classical in
theorem l2Order_eq {n : Nat} {l : List Int} {N : Int} (h0 : 0 ≤ N) (hN : N ≤ 64) (hl : l.length ≤ 1048576) (hn : 1048578 ≤ n) : spec_l2Order.F n l N = some (decide (Ord l N)) := by
  unfold spec_l2Order.F
  exact l2Order_l0 h0 hN hl hn n 0 (by omega) (by omega) (fun j h1 h2 => by omega)
/-- Where each number of an order lies, and that there is none beside. -/
theorem Ord.at {l : List Int} {N : Int} (h : Ord l N) {p : Int} (h1 : 0 ≤ p) (h2 : p < N) : ∃ i, i < l.length ∧ l.getD i 0 = p := by
  obtain ⟨i, hi, e⟩ := List.getElem_of_mem (h.1 p h1 h2)
  exact ⟨i, hi, by rw [List.getD_eq_getElem?_getD, List.getElem?_eq_getElem hi]; exact e⟩
theorem Ord.range {l : List Int} {N : Int} (h0 : 0 ≤ N) (h : Ord l N) : ∀ x ∈ l, 0 ≤ x ∧ x < N := by
  intro x hx
  have e := (sortI_up h0).2 h
  have hm : x ∈ sortI l := by unfold sortI; exact List.mem_mergeSort.2 hx
  rw [e, upF_mem] at hm
  omega
theorem getD_or {l : List Int} (x : Int) : (l.getD x.toNat 0) ∈ l ∨ l.length ≤ x.toNat := by
  by_cases h : x.toNat < l.length
  · exact .inl (getD_mem h)
  · exact .inr (by omega)
/-! ### Doors and keys of a numbered maze -/
def renD (to : List Int) (d : Door) : Door := (to.getD d.1.toNat 0, to.getD d.2.1.toNat 0, d.2.2)
theorem numD_l0 {n : Nat} {K : List Int → Int → List Door → List Int → Int → List Door → List Int → Int → List Door → List Int → Option (Int × List Door × List Int)} {to : List Int} {N a p : Int} {ds b : List Door} {ks c o : List Int} (hL : ds.length ≤ 1048576) (hd : ∀ d ∈ ds, (0 ≤ d.1 ∧ d.1 < (to.length : Int)) ∧ (0 ≤ d.2.1 ∧ d.2.1 < (to.length : Int))) : ∀ (f i : Nat), ds.length - i < f → i ≤ ds.length →
    impl_numbered.l0 n K f to N ds ks a b c p ((ds.take i).map (renD to) ++ ds.drop i) o ds.length i = K to N ds ks a b c p (ds.map (renD to)) o
  | 0, i, hf, _ => by omega
  | f + 1, i, hf, hi => by
    rw [impl_numbered.l0]
    by_cases cc : (i : Int) < (ds.length : Int)
    · have c2 : i < ds.length := by omega
      have k1 : decide ((i : Int) < (ds.length : Int)) = true := by simpa using cc
      have k2 : 0 ≤ (i : Int) ∧ (i : Int) < (ds.length : Int) := ⟨by omega, cc⟩
      have wi : IntKind.wrap .i64 ((i : Int) + 1) = ((i + 1 : Nat) : Int) := by rw [w64s (by omega) (by omega)]; omega
      obtain ⟨g1, g2⟩ := hd _ (getD_mem (d := dz) c2)
      have hlen : ((ds.take i).map (renD to) ++ ds.drop i).length = ds.length := by simp; omega
      have k3 : 0 ≤ (i : Int) ∧ (i : Int) < (((ds.take i).map (renD to) ++ ds.drop i).length : Int) := by rw [hlen]; exact k2
      simp only [if_pos k1, if_pos k2, Int.toNat_natCast, wi]
      rw [if_pos g1, if_pos g2, if_pos k3]
      have e : ((ds.take i).map (renD to) ++ ds.drop i).set i (to.getD (ds.getD i dz).1.toNat 0, to.getD (ds.getD i dz).2.1.toNat 0, (ds.getD i dz).2.2) = (ds.take (i + 1)).map (renD to) ++ ds.drop (i + 1) := by
        rw [getD_drop (d := dz) c2, List.take_succ_eq_append_getElem c2, List.map_append]
        have hlt : ((ds.take i).map (renD to)).length = i := by simp; omega
        rw [List.set_append_right _ _ (by omega), hlt, Nat.sub_self, List.set_cons_zero]
        have : ds[i] = ds.getD i dz := by rw [List.getD_eq_getElem?_getD, List.getElem?_eq_getElem c2]; rfl
        rw [this]
        simp [renD]
      rw [e]
      exact numD_l0 hL hd f (i + 1) (by omega) (by omega)
    · have k1 : ¬ decide ((i : Int) < (ds.length : Int)) = true := by simpa using cc
      rw [if_neg k1, List.take_of_length_le (by omega), List.drop_eq_nil_of_le (by omega), List.append_nil]
theorem iset_at {o : List Int} {i : Nat} {v : Int} (h : i < o.length) : (o.set i v).getD i 0 = v := by
  simp [List.getD, h]
theorem iset_off (o : List Int) {i k : Nat} (v : Int) (h : i ≠ k) : (o.set i v).getD k 0 = o.getD k 0 := by
  simp [List.getD, List.getElem?_set_ne h]
theorem numK_l2 {n : Nat} {K : Int → List Door → List Int → Int → List Door → List Int → Option (Int × List Door × List Int)} {K' : Int → List Door → List Int → Int → List Door → List Int → Option (Int × List Door × List Int)} {to : List Int} {N a a' p p' : Int} {ds b b' q q' : List Door} {ks c c' : List Int} (hN : (ks.length : Int) = N) (hk : ks.length ≤ 12) (hto : (to.length : Int) = N) (hr : ∀ x ∈ to, 0 ≤ x ∧ x < N) : ∀ (f f' i : Nat) (o o' : List Int), ks.length - i < f → ks.length - i < f' → i ≤ ks.length → o.length = ks.length → o'.length = ks.length →
    (∀ x : Nat, x < ks.length → (∀ j, i ≤ j → j < to.length → (to.getD j 0).toNat ≠ x) → o.getD x 0 = o'.getD x 0) →
    ∃ r, r.length = ks.length ∧ spec_l2Numbered.l2 n K f to N ds ks a b c p q o i = K a b c p q r ∧ impl_numbered.l2 n K' f' to a' b' c' p' q' o' ks ks.length i = K' a' b' c' p' q' r
  | 0, f', i, o, o', hf, _, _, _, _, _ => by omega
  | f + 1, 0, i, o, o', _, hf, _, _, _, _ => by omega
  | f + 1, f' + 1, i, o, o', hf, hf', hi, ho, ho', hsame => by
    rw [spec_l2Numbered.l2, impl_numbered.l2]
    by_cases cc : (i : Int) < N
    · have c2 : i < ks.length := by omega
      have k0 : decide ((i : Int) < N) = true := by simpa using cc
      have k1 : decide ((i : Int) < (ks.length : Int)) = true := by rw [decide_eq_true_eq]; omega
      have k2 : 0 ≤ (i : Int) ∧ (i : Int) < (ks.length : Int) := ⟨by omega, by omega⟩
      have k3 : 0 ≤ (i : Int) ∧ (i : Int) < (to.length : Int) := ⟨by omega, by omega⟩
      have wi : IntKind.wrap .i64 ((i : Int) + 1) = ((i + 1 : Nat) : Int) := by rw [w64s (by omega) (by omega)]; omega
      have hm := hr _ (getD_mem (d := (0 : Int)) (i := i) (l := to) (by omega))
      have k4 : 0 ≤ to.getD i 0 ∧ to.getD i 0 < (o.length : Int) := by omega
      have k5 : 0 ≤ to.getD i 0 ∧ to.getD i 0 < (o'.length : Int) := by omega
      simp only [if_pos k0, if_pos k1, if_pos k2, if_pos k3, Int.toNat_natCast, if_pos k4, if_pos k5, wi]
      refine numK_l2 hN hk hto hr f f' (i + 1) _ _ (by omega) (by omega) (by omega) (by rw [List.length_set]; exact ho) (by rw [List.length_set]; exact ho') (fun x hx hj => ?_)
      by_cases e : (to.getD i 0).toNat = x
      · subst e
        rw [iset_at (by omega), iset_at (by omega)]
      · rw [iset_off _ _ e, iset_off _ _ e]
        refine hsame x hx (fun j hj1 hj2 => ?_)
        by_cases ej : j = i
        · rw [ej]; exact e
        · exact hj j (by omega) hj2
    · have k0 : ¬ decide ((i : Int) < N) = true := by simpa using cc
      have k1 : ¬ decide ((i : Int) < (ks.length : Int)) = true := by rw [decide_eq_true_eq]; omega
      rw [if_neg k0, if_neg k1]
      have e : o = o' := by
        apply List.ext_getElem?
        intro x
        by_cases hx : x < ks.length
        · have := hsame x hx (fun j h1 h2 => by omega)
          rw [List.getD_eq_getElem?_getD, List.getD_eq_getElem?_getD] at this
          rw [List.getElem?_eq_getElem (by omega), List.getElem?_eq_getElem (by omega)] at this ⊢
          simpa using this
        · rw [List.getElem?_eq_none (by omega), List.getElem?_eq_none (by omega)]
      rw [e]
      exact ⟨o', ho', rfl, rfl⟩
theorem numS_l0 {n : Nat} {K : List Int → Int → List Door → List Int → Int → List Door → List Int → Int → List Door → List Int → Option (Int × List Door × List Int)} {to : List Int} {N a p : Int} {ds b : List Door} {ks c o : List Int} (hn : 1048578 ≤ n) (hL : ds.length ≤ 30) (hd : ∀ d ∈ ds, (0 ≤ d.1 ∧ d.1 < (to.length : Int)) ∧ (0 ≤ d.2.1 ∧ d.2.1 < (to.length : Int))) : ∀ (f i : Nat) (q : List Door), ds.length - i < f → i ≤ ds.length → LexS q → q.length ≤ i →
    ∃ q', LexS q' ∧ (∀ x, x ∈ q' ↔ x ∈ q ∨ ∃ d ∈ ds.drop i, nrm (renD to d) = x) ∧ q'.length ≤ 30 ∧ spec_l2Numbered.l0 n K f to N ds ks a b c p q o i = K to N ds ks a b c p q' o
  | 0, i, q, hf, _, _, _ => by omega
  | f + 1, i, q, hf, hi, hq, hl => by
    rw [spec_l2Numbered.l0]
    by_cases cc : (i : Int) < (ds.length : Int)
    · have c2 : i < ds.length := by omega
      have k1 : decide ((i : Int) < (ds.length : Int)) = true := by simpa using cc
      have k2 : 0 ≤ (i : Int) ∧ (i : Int) < (ds.length : Int) := ⟨by omega, cc⟩
      have wi : IntKind.wrap .i64 ((i : Int) + 1) = ((i + 1 : Nat) : Int) := by rw [w64s (by omega) (by omega)]; omega
      obtain ⟨g1, g2⟩ := hd _ (getD_mem (d := dz) c2)
      simp only [if_pos k1, if_pos k2, Int.toNat_natCast, wi]
      rw [if_pos g1, if_pos g2]
      have hdr := getD_drop (d := dz) c2
      obtain ⟨r, r1, r2, r3, r4, r5⟩ := put_eq (n := n) (l := q) (by omega) (by omega) hq (to.getD (ds.getD i dz).1.toNat 0) (to.getD (ds.getD i dz).2.1.toNat 0) (ds.getD i dz).2.2
      rw [r1, Option.bind_some]
      have hr : r.length ≤ i + 1 := by
        by_cases hin : nrm (to.getD (ds.getD i dz).1.toNat 0, to.getD (ds.getD i dz).2.1.toNat 0, (ds.getD i dz).2.2) ∈ q
        · rw [r4 hin]; omega
        · rw [r5 hin]; omega
      obtain ⟨q', s1, s2, s3, s4⟩ := numS_l0 (K := K) (N := N) (a := a) (p := p) (b := b) (ks := ks) (c := c) (o := o) hn hL hd f (i + 1) r (by omega) (by omega) r2 hr
      refine ⟨q', s1, fun x => ?_, s3, s4⟩
      rw [s2 x, r3 x, hdr]
      constructor
      · rintro ((h | h) | ⟨d, h, h'⟩)
        · exact .inl h
        · exact .inr ⟨ds.getD i dz, by simp, h.symm⟩
        · exact .inr ⟨d, List.mem_cons_of_mem _ h, h'⟩
      · rintro (h | ⟨d, h, h'⟩)
        · exact .inl (.inl h)
        · rcases List.mem_cons.1 h with rfl | h
          · exact .inl (.inr h'.symm)
          · exact .inr ⟨d, h, h'⟩
    · have k1 : ¬ decide ((i : Int) < (ds.length : Int)) = true := by simpa using cc
      have : ds.drop i = [] := List.drop_eq_nil_of_le (by omega)
      rw [if_neg k1, this]
      exact ⟨q, hq, fun x => by simp, by omega, rfl⟩
theorem numbered_same {n : Nat} {N : Int} {ds : List Door} {ks to : List Int} (hn : 1048578 ≤ n) (h : VM N ds ks) (ho : Ord to N) : ∃ (q : List Door) (r : List Int), q.length ≤ 30 ∧ r.length ≤ 12 ∧ spec_l2Numbered.F n N ds ks to = some (N, q, r) ∧ impl_numbered.F n N ds ks to = some (N, q, r) := by
  have h1 := h.n1
  have h2 := h.n2
  have hd := h.dl
  have hkl := h.kl
  have hto := ho.2
  have hdoor : ∀ d ∈ ds, (0 ≤ d.1 ∧ d.1 < (to.length : Int)) ∧ (0 ≤ d.2.1 ∧ d.2.1 < (to.length : Int)) := by
    intro d hd
    have := h.door d hd
    omega
  unfold spec_l2Numbered.F impl_numbered.F
  rw [if_pos (by omega), ownE (by omega) (by omega), Option.bind_some]
  obtain ⟨q, s1, s2, s3, s4⟩ := numS_l0 (n := n) (K := fun y2 y3 y4 y5 y6 y7 y8 y9 y10 y11 =>
    spec_l2Numbered.l2 n (fun y12 y13 y14 y15 y16 y17 =>
      some (y15, y16, y17)) n y2 y3 y4 y5 y6 y7 y8 y9 y10 y11 (0 : Int)) (to := to) (N := N) (a := 0) (p := N) (b := []) (ds := ds) (ks := ks) (c := []) (o := List.replicate N.toNat 0) hn hd hdoor n 0 [] (by omega) (by omega) List.Pairwise.nil (by simp)
  have e1 := numD_l0 (n := n) (K := fun y2 y3 y4 y5 y6 y7 y8 y9 y10 y11 =>
    impl_numbered.l2 n (fun y12 y13 y14 y15 y16 y17 =>
      (impl_tidy.F n y15 y16 y17).bind fun r18 =>
      some (r18.1, r18.2.1, r18.2.2)) n y2 y6 y7 y8 y9 y10 y11 y5 (y5.length : Int) (0 : Int)) (to := to) (N := N) (a := 0) (p := N) (b := []) (ds := ds) (ks := ks) (c := []) (o := ks) (by omega) hdoor n 0 (by omega) (by omega)
  obtain ⟨r, t1, t2, t3⟩ := numK_l2 (n := n) (K := fun y12 y13 y14 y15 y16 y17 => some (y15, y16, y17)) (K' := fun y12 y13 y14 y15 y16 y17 =>
      (impl_tidy.F n y15 y16 y17).bind fun r18 =>
      some (r18.1, r18.2.1, r18.2.2)) (to := to) (N := N) (a := 0) (a' := 0) (p := N) (p' := N) (ds := ds) (b := []) (b' := []) (q := q) (q' := ds.map (renD to)) (ks := ks) (c := []) (c' := []) hkl (by omega) hto (ho.range (by omega)) n n 0 (List.replicate N.toNat 0) ks (by omega) (by omega) (by omega) (by simp; omega) rfl (fun x hx hj => by
        obtain ⟨i, hi, e⟩ := ho.at (p := (x : Int)) (by omega) (by omega)
        exact absurd (by rw [e]; simp) (hj i (by omega) hi))
  simp only [Int.natCast_zero, List.take_zero, List.map_nil, List.nil_append, List.drop_zero] at s4 e1 t2 t3
  rw [s4, e1, t2, t3, tidy_eq (by simp; omega) (by simp; omega), Option.bind_some]
  have e : q = tidyL (ds.map (renD to)) := by
    refine lex_ext s1 (tidyL_lex _) fun x => ?_
    rw [s2 x, tidyL_mem]
    simp only [List.drop_zero, List.not_mem_nil, false_or, List.mem_map]
    constructor
    · rintro ⟨d, hd1, hd2⟩
      exact ⟨_, ⟨d, hd1, rfl⟩, hd2⟩
    · rintro ⟨_, ⟨d, hd1, rfl⟩, hd2⟩
      exact ⟨d, hd1, hd2⟩
  refine ⟨q, r, s3, by omega, rfl, ?_⟩
  rw [e]
  rfl
open Classical in
theorem NumberMaze_same {n : Nat} {N : Int} {ds : List Door} {ks to : List Int} (hn : 1048578 ≤ n) (hl : to.length ≤ 1048576) : ∃ q : RM, (q.2.1.length ≤ 1048576 ∧ q.2.2.1.length ≤ 1048576) ∧ spec_NumberMaze.F n N ds ks to = some q ∧ impl_NumberMaze.F n N ds ks to = some q := by
  unfold spec_NumberMaze.F impl_NumberMaze.F
  rw [l2Maze_val (by omega), IsMaze_val (by omega), Option.bind_some, Option.bind_some]
  by_cases h : VM N ds ks
  · have hv : decide (VM N ds ks) = true := by simp [h]
    have h1 := h.n1
    have h2 := h.n2
    simp only [hv, Bool.not_true, Bool.false_eq_true, if_false]
    rw [l2Order_eq (by omega) (by omega) hl hn, isOrder_eq (by omega) (by omega) hl hn, Option.bind_some, Option.bind_some]
    by_cases ho : Ord to N
    · have hov : decide (Ord to N) = true := by simp [ho]
      simp only [hov, Bool.not_true, Bool.false_eq_true, if_false]
      obtain ⟨q, r, g1, g2, g3, g4⟩ := numbered_same (n := n) hn h ho
      rw [g3, g4]
      simp only [Option.bind_some]
      exact ⟨(N, q, r, true), ⟨by simp only; omega, by simp only; omega⟩, rfl, rfl⟩
    · have hov : decide (Ord to N) = false := by simp [ho]
      rw [hov]
      exact ⟨(0, [], [], false), by simp, rfl, rfl⟩
  · have hv : decide (VM N ds ks) = false := by simp [h]
    rw [hv]
    exact ⟨(0, [], [], false), by simp, rfl, rfl⟩
/-! ### The other way round -/
theorem mirror_cases {N : Int} (h1 : 1 ≤ N) (h2 : N ≤ 12) : N = 1 ∨ N = 2 ∨ N = 3 ∨ N = 4 ∨ N = 5 ∨ N = 6 ∨ N = 7 ∨ N = 8 ∨ N = 9 ∨ N = 10 ∨ N = 11 ∨ N = 12 := by omega
theorem reverse_up {n : Nat} {N : Int} (hn : 20 ≤ n) (h1 : 1 ≤ N) (h2 : N ≤ 12) : slices_Reverse_int_int.F n (upF 0 N.toNat) = some (upF 0 N.toNat).reverse := by
  obtain ⟨m, rfl⟩ : ∃ m, n = m + 20 := ⟨n - 20, by omega⟩
  rcases mirror_cases h1 h2 with rfl | rfl | rfl | rfl | rfl | rfl | rfl | rfl | rfl | rfl | rfl | rfl <;> rfl
theorem mirrorS_l0 {n : Nat} {K : Int → List Door → List Int → Int → List Door → List Int → List Int → Option RM} {N a : Int} {ds b : List Door} {ks c : List Int} (hn : 20 ≤ n) (h1 : 1 ≤ N) (h2 : N ≤ 12) : spec_MirrorMaze.l0 n K n N ds ks a b c [] (IntKind.wrap .i64 (N - 1)) = K N ds ks a b c (upF 0 N.toNat).reverse := by
  have hgen : ∀ (f m : Nat) (o : List Int), m < f → o.length ≤ 100 - m → m ≤ 12 → spec_MirrorMaze.l0 n K f N ds ks a b c o ((m : Int) - 1) = K N ds ks a b c (o ++ (upF 0 m).reverse) := by
    intro f
    induction f with
    | zero => intro m o h _ _; omega
    | succ f ih =>
      intro m o hm ho h12
      rw [spec_MirrorMaze.l0]
      cases m with
      | zero =>
        rw [if_neg (by rw [decide_eq_true_eq]; omega)]
        simp [upF]
      | succ m =>
        have w1 : IntKind.wrap .i64 (((m + 1 : Nat) : Int) - 1 - 1) = (m : Int) - 1 := by rw [w64 (by omega) (by omega)]; omega
        rw [if_pos (by rw [decide_eq_true_eq]; omega), if_pos (by rw [List.length_singleton]; omega), w1, ih m _ (by omega) (by simp; omega) (by omega), upF_snoc]
        have e : ((m + 1 : Nat) : Int) - 1 = 0 + (m : Int) := by omega
        rw [e]
        simp
  have w0 : IntKind.wrap .i64 (N - 1) = ((N.toNat : Nat) : Int) - 1 := by rw [w64s (by omega) (by omega)]; omega
  rw [w0, hgen n N.toNat [] (by omega) (by simp) (by omega)]
  rfl
theorem ord_mirror {N : Int} (h1 : 1 ≤ N) : Ord (upF 0 N.toNat).reverse N := by
  constructor
  · intro i a b
    rw [List.mem_reverse, upF_mem]
    omega
  · rw [List.length_reverse, upF_len]
    omega
open Classical in
theorem MirrorMaze_same {n : Nat} {N : Int} {ds : List Door} {ks : List Int} (hn : 1048578 ≤ n) : ∃ q : RM, (q.2.1.length ≤ 1048576 ∧ q.2.2.1.length ≤ 1048576) ∧ spec_MirrorMaze.F n N ds ks = some q ∧ impl_MirrorMaze.F n N ds ks = some q := by
  unfold spec_MirrorMaze.F impl_MirrorMaze.F
  rw [l2Maze_val (by omega), IsMaze_val (by omega), Option.bind_some, Option.bind_some]
  by_cases h : VM N ds ks
  · have hv : decide (VM N ds ks) = true := by simp [h]
    have h1 := h.n1
    have h2 := h.n2
    simp only [hv, Bool.not_true, Bool.false_eq_true, if_false]
    rw [mirrorS_l0 (by omega) h1 h2, counting_eq (by omega) (by omega) (by omega), Option.bind_some, reverse_up (by omega) h1 h2, Option.bind_some]
    obtain ⟨q, r, g1, g2, g3, g4⟩ := numbered_same (n := n) hn h (ord_mirror h1)
    rw [g3, g4]
    simp only [Option.bind_some]
    exact ⟨(N, q, r, true), ⟨by simp only; omega, by simp only; omega⟩, rfl, rfl⟩
  · have hv : decide (VM N ds ks) = false := by simp [h]
    rw [hv]
    exact ⟨(0, [], [], false), by simp, rfl, rfl⟩
end Go.Pv
