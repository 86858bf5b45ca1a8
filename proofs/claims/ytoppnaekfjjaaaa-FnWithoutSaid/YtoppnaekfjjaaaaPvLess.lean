/- Plain laws: what is had at last, and mazes without doors, keys or a colour. -/
import Derived.Test.YtoppnaekfjjaaaaPvMono
import Derived.Test.YtoppnaekfjjaaaaPvLex
import Derived.Test.YtoppnaekfjjaaaaPvWithout
set_option linter.unusedVariables false
set_option linter.unusedSimpArgs false
set_option autoImplicit false
namespace Go.Pv
open Go Go.Fx Go.Pf

section
variable {n : Nat} {N : Int} {ds : List (Int × Int × Int)} {ks : List Int}
open Classical in
/-- What is had at last. -/
theorem gain_val (hn : 100 ≤ n) (h : VM N ds ks) {s : Nat} (hs : s < 2 ^ 6) : impl_GainAtLast.F n N ds ks (s : Int) = some (((lastN ds ks s : Nat) : Int), memL (reachN ds ((lastN ds ks s : Nat) : Int) 0), true) := by
  unfold impl_GainAtLast.F
  have hs2 : setB (s : Int) = true := by
    have : (2 : Nat) ^ 6 = 64 := by decide
    rw [setB_iff]; omega
  rw [asked_eq (by omega), Option.bind_some, hs2, decide_eq_true h, Bool.and_true, Bool.not_true, if_neg (by simp), atLast_eq hn h hs, Option.bind_some, members_eq (by omega) (reachN_lt _ _ _), Option.bind_some]
theorem memL_sub {a b : Nat} (ha : a < 2 ^ 12) (hb : b < 2 ^ 12) (h : Sub a b) : ∀ x ∈ memL a, x ∈ memL b := fun x hx => by
  rw [memL_mem ha] at hx
  rw [memL_mem hb]
  obtain ⟨i, rfl, hi⟩ := hx
  exact ⟨i, rfl, h i hi⟩
theorem sets_and {a b : Nat} (ha : a < 2 ^ 6) (hb : b < 2 ^ 6) (h : Sub a b) : bitAnd .i64 (a : Int) (b : Int) = (a : Int) := by
  have p63 : (2 : Nat) ^ 63 = 9223372036854775808 := by decide
  rw [bitAnd_nat (by omega) (by omega), h.and]

/-- A maze with no more has no more at last. -/
theorem gain_less {ds' : List (Int × Int × Int)} {ks' : List Int} (L : Less N ds' ds ks' ks) : Sub (lastN ds' ks' 0) (lastN ds ks 0) ∧ lastN ds' ks' 0 < 2 ^ 6 ∧ lastN ds ks 0 < 2 ^ 6 ∧
    ∀ x ∈ memL (reachN ds' ((lastN ds' ks' 0 : Nat) : Int) 0), x ∈ memL (reachN ds ((lastN ds ks 0 : Nat) : Int) 0) := by
  have h1 := (lastN_fix L.le _ 0 (Nat.le_refl _) (by decide)).2.2
  have h2 := (lastN_fix L.ge _ 0 (Nat.le_refl _) (by decide)).2.2
  have h3 := lastN_less L (s := 0) (t := 0) (by decide) (by decide) (.refl 0)
  have h0 : (0 : Int) ≤ 0 ∧ (0 : Int) < N := ⟨by omega, by have := L.le.n1; omega⟩
  exact ⟨h3, h1, h2, memL_sub (reachN_lt _ _ _) (reachN_lt _ _ _) (reachN_less L h1 h2 h3 h0)⟩

theorem vm_of' {r : List (Int × Int × Int)} (h : VM N ds ks) (hr : LexS r) (hl : r.length ≤ 30) (hd : ∀ d ∈ r, 0 ≤ d.1 ∧ d.1 < d.2.1 ∧ d.2.1 < N ∧ 0 ≤ d.2.2 ∧ d.2.2 ≤ 63) : VM N r ks :=
  ⟨h.n1, h.n2, hl, h.kl, hd, lexS_at hr, h.keys⟩
theorem vm_lex (h : VM N ds ks) : LexS ds := lexS_of h.sorted
theorem vm_filter (h : VM N ds ks) (p : Int × Int × Int → Bool) : VM N (ds.filter p) ks :=
  vm_of' h ((vm_lex h).filter p) (Nat.le_trans (List.length_filter_le _ _) h.dl) fun d hd => h.door d (List.mem_filter.1 hd).1
theorem less_filter (h : VM N ds ks) (p : Int × Int × Int → Bool) : Less N (ds.filter p) ds ks ks :=
  ⟨vm_filter h p, h, fun d hd => (List.mem_filter.1 hd).1, fun x => .refl _⟩
theorem vm_keys (h : VM N ds ks) {js : List Int} (hl : js.length = ks.length) (hk : ∀ m, m < js.length → 0 ≤ js.getD m 0 ∧ js.getD m 0 ≤ 63) : VM N ds js :=
  ⟨h.n1, h.n2, h.dl, by rw [hl]; exact h.kl, h.door, h.sorted, fun k hk2 => by
    obtain ⟨i, hi, rfl⟩ := List.mem_iff_getElem.1 hk2
    have := hk i hi
    rw [List.getD_eq_getElem?_getD, List.getElem?_eq_getElem hi] at this
    exact this⟩
theorem key_range (h : VM N ds ks) (m : Nat) : 0 ≤ ks.getD m 0 ∧ ks.getD m 0 ≤ 63 := by
  by_cases c : m < ks.length
  · exact h.keys _ (getD_mem c)
  · rw [List.getD_eq_getElem?_getD, List.getElem?_eq_none (by omega)]
    simp
theorem getD_set0 (l : List Int) (i m : Nat) : (l.set i 0).getD m 0 = if i = m then 0 else l.getD m 0 := by
  simp only [List.getD_eq_getElem?_getD]
  by_cases c : i = m
  · subst c
    by_cases c2 : i < l.length
    · rw [List.getElem?_set_self c2, if_pos rfl]; rfl
    · rw [List.getElem?_eq_none (by simp; omega), if_pos rfl]; rfl
  · rw [List.getElem?_set_ne c, if_neg c]
theorem less_put (h : VM N ds ks) (i : Nat) : Less N ds ds (ks.set i 0) ks := by
  refine ⟨vm_keys h (by simp) fun m hm => ?_, h, fun d hd => hd, fun x j hj => ?_⟩
  · rw [getD_set0]
    split
    · omega
    · exact key_range h m
  · rw [getD_set0] at hj
    split at hj
    · simp at hj
    · exact hj

/-! ### Values -/
open Classical in
theorem WithoutNode_impl (hn : 1048578 ≤ n) (hd : ds.length ≤ 1048576) (hk : ks.length ≤ 1048576) (x : Int) :
    impl_WithoutNode.F n N ds ks x = some (if (decide (VM N ds ks) && inB x 0 (N - 1)) = true then (N, ds.filter (fun d => !nodeP x d), ks, true) else (0, [], [], false)) := by
  unfold impl_WithoutNode.F impl_withoutNode.F
  rw [isNode_eq (by omega) (by simp; omega) (by simp), own_eq hd hk]
  simp only [Option.bind_some, List.all_cons, List.all_nil, Bool.and_true]
  rw [nodeDel_all hn hd]
  cases (decide (VM N ds ks) && inB x 0 (N - 1)) <;> rfl
open Classical in
theorem WithoutKeys_impl (hn : 1048578 ≤ n) (hd : ds.length ≤ 1048576) (hk : ks.length ≤ 1048576) (x : Int) :
    impl_WithoutKeys.F n N ds ks x = some (if (decide (VM N ds ks) && inB x 0 (N - 1)) = true then (N, ds, ks.set x.toNat 0, true) else (0, [], [], false)) := by
  unfold impl_WithoutKeys.F impl_PutKeys.F impl_put.F
  rw [isNode_eq (by omega) (by simp; omega) (by simp), own_eq hd hk]
  simp only [Option.bind_some, List.all_cons, List.all_nil, Bool.and_true, isSet_eq]
  cases hb : (decide (VM N ds ks) && inB x 0 (N - 1)) with
  | false => rfl
  | true =>
    simp only [Bool.and_eq_true, decide_eq_true_eq] at hb
    obtain ⟨h, hx⟩ := hb
    simp only [inB, Bool.and_eq_true, decide_eq_true_eq] at hx
    have hkl := h.kl
    have c : 0 ≤ x ∧ x < (ks.length : Int) := ⟨hx.1, by omega⟩
    have s0 : setB 0 = true := by decide
    simp only [s0, Bool.not_true, Bool.false_eq_true, if_false, if_pos c, Option.bind_some, if_true]
open Classical in
theorem WithoutKeys_spec (hn : 1048578 ≤ n) (hd : ds.length ≤ 1048576) (hk : ks.length ≤ 1048576) (x : Int) :
    spec_WithoutKeys.F n N ds ks x = some (if (decide (VM N ds ks) && inB x 0 (N - 1)) = true then (N, ds, ks.set x.toNat 0, true) else (0, [], [], false)) := by
  unfold spec_WithoutKeys.F spec_l3Keys.F
  rw [l2Node_eq (by omega), l2Own_eq hd hk]
  simp only [Option.bind_some]
  cases hb : (decide (VM N ds ks) && inB x 0 (N - 1)) with
  | false => rfl
  | true =>
    simp only [Bool.and_eq_true, decide_eq_true_eq] at hb
    obtain ⟨h, hx⟩ := hb
    simp only [inB, Bool.and_eq_true, decide_eq_true_eq] at hx
    have hkl := h.kl
    have c : 0 ≤ x ∧ x < (ks.length : Int) := ⟨hx.1, by omega⟩
    simp only [Bool.not_true, Bool.false_eq_true, if_false, if_pos c, Option.bind_some, if_true]
theorem wcol_l0 {K : Int → List (Int × Int × Int) → List Int → Int → List (Int × Int × Int) → List Int → Option (Int × List (Int × Int × Int) × List Int)} {c : Int} (hc : 0 ≤ c) (hkl : (ks.length : Int) = N) (hN : N ≤ 12) :
    ∀ (j i : Nat) (o : List Int), ks.length - i < j → o.length = ks.length → (∀ m, i ≤ m → o.getD m 0 = ks.getD m 0) → (∀ m, m < i → m < ks.length → o.getD m 0 = bitClr .i64 (ks.getD m 0) (shL .i64 1 c)) →
      ∃ o' : List Int, o'.length = ks.length ∧ (∀ m, m < ks.length → o'.getD m 0 = bitClr .i64 (ks.getD m 0) (shL .i64 1 c)) ∧ impl_withoutColour.l0 n K j c 0 [] [] N ds o ks.length i = K 0 [] [] N ds o'
  | 0, i, o, hj, _, _, _ => by omega
  | j + 1, i, o, hj, ho, hm, hm2 => by
    rw [impl_withoutColour.l0]
    by_cases c1 : (i : Int) < (ks.length : Int)
    · have ci : i < ks.length := by omega
      have ei : (i : Int).toNat = i := by omega
      have k1 : decide ((i : Int) < (ks.length : Int)) = true := by simpa using c1
      have k3 : 0 ≤ (i : Int) ∧ (i : Int) < (o.length : Int) := ⟨by omega, by omega⟩
      have wi : IntKind.wrap .i64 ((i : Int) + 1) = ((i + 1 : Nat) : Int) := by rw [w64s (by omega) (by omega)]; omega
      have nc : ¬ c < 0 := by omega
      simp only [if_pos k1, if_pos k3, if_neg nc, wi, ei, hm i (Nat.le_refl _)]
      refine wcol_l0 hc hkl hN j (i + 1) _ (by omega) (by simpa using ho) (fun m hm3 => ?_) (fun m hm3 hm4 => ?_)
      · have : i ≠ m := by omega
        rw [List.getD_eq_getElem?_getD, List.getElem?_set_ne this, ← List.getD_eq_getElem?_getD]
        exact hm m (by omega)
      · by_cases e : i = m
        · subst e
          rw [List.getD_eq_getElem?_getD, List.getElem?_set_self (by omega)]
          rfl
        · rw [List.getD_eq_getElem?_getD, List.getElem?_set_ne e, ← List.getD_eq_getElem?_getD]
          exact hm2 m (by omega) hm4
    · have k1 : ¬ decide ((i : Int) < (ks.length : Int)) = true := by simpa using c1
      rw [if_neg k1]
      exact ⟨o, ho, fun m hm3 => hm2 m (by omega) hm3, rfl⟩
open Classical in
theorem WithoutColour_impl (hn : 1048578 ≤ n) (hd : ds.length ≤ 1048576) (hk : ks.length ≤ 1048576) (c : Int) :
    (∃ o : List Int, VM N ds ks ∧ 0 ≤ c ∧ c ≤ 5 ∧ o.length = ks.length ∧ (∀ m, m < ks.length → o.getD m 0 = bitClr .i64 (ks.getD m 0) (shL .i64 1 c)) ∧ impl_WithoutColour.F n N ds ks c = some (N, ds, o, true)) ∨
    impl_WithoutColour.F n N ds ks c = some (0, [], [], false) := by
  unfold impl_WithoutColour.F impl_withoutColour.F
  rw [IsMaze_val (by omega), own_eq hd hk]
  simp only [Option.bind_some, within_eq]
  by_cases h : VM N ds ks
  · have hv : (!decide (VM N ds ks)) = false := by simp [h]
    simp only [hv, Bool.false_eq_true, if_false]
    by_cases hc : 0 ≤ c ∧ c ≤ 5
    · simp only [nin_false hc, Bool.false_eq_true, if_false]
      obtain ⟨o, ho, h1, h2⟩ := wcol_l0 (n := n) (ds := ds) (K := fun y2 y3 y4 y5 y6 y7 => some (y5, y6, y7)) hc.1 h.kl h.n2 n 0 ks (by have := h.kl; have := h.n2; omega) rfl (fun _ _ => rfl) (fun m hm => by omega)
      simp only [Int.natCast_zero] at h2
      rw [h2]
      exact .inl ⟨o, h, hc.1, hc.2, ho, h1, rfl⟩
    · simp only [nin_true hc, if_true]
      exact .inr trivial
  · have hv : (!decide (VM N ds ks)) = true := by simp [h]
    simp only [hv, if_true]
    exact .inr trivial
theorem clr_key (h : VM N ds ks) {c : Int} (h1 : 0 ≤ c) (h2 : c ≤ 5) (m : Nat) : bitClr .i64 (ks.getD m 0) (shL .i64 1 c) = ((clrN (ks.getD m 0).toNat (2 ^ c.toNat) : Nat) : Int) ∧ (∀ i, (clrN (ks.getD m 0).toNat (2 ^ c.toNat)).testBit i = ((ks.getD m 0).toNat.testBit i && !decide (c.toNat = i))) ∧ clrN (ks.getD m 0).toNat (2 ^ c.toNat) ≤ 63 := by
  have hr := key_range h m
  have e1 : ks.getD m 0 = (((ks.getD m 0).toNat : Nat) : Int) := by omega
  have e2 : c = ((c.toNat : Nat) : Int) := by omega
  have p63 : (2 : Nat) ^ 63 = 9223372036854775808 := by decide
  have hp : 2 ^ c.toNat < 2 ^ 63 := Nat.pow_lt_pow_right (by decide) (by omega)
  refine ⟨?_, fun i => ?_, ?_⟩
  · conv => lhs; rw [e1, e2]
    rw [shL_one (by omega), bitClr_nat (by omega) hp]
  · rw [clrN_bit (by omega) hp, Nat.testBit_two_pow]
  · have := clrN_lt (a := (ks.getD m 0).toNat) (b := 2 ^ c.toNat) (m := 64) (by omega)
    omega
theorem less_col (h : VM N ds ks) {c : Int} (h1 : 0 ≤ c) (h2 : c ≤ 5) {o : List Int} (ho : o.length = ks.length) (hv : ∀ m, m < ks.length → o.getD m 0 = bitClr .i64 (ks.getD m 0) (shL .i64 1 c)) : Less N ds ds o ks ∧ ∀ x : Nat, (o.getD x 0).toNat.testBit c.toNat = false := by
  have out : ∀ x, ¬ x < ks.length → o.getD x 0 = 0 := fun x hx => by
    rw [List.getD_eq_getElem?_getD, List.getElem?_eq_none (by omega)]; rfl
  refine ⟨⟨vm_keys h ho fun m hm => ?_, h, fun d hd => hd, fun x j hj => ?_⟩, fun x => ?_⟩
  · obtain ⟨k1, _, k3⟩ := clr_key h h1 h2 m
    rw [hv m (by omega), k1]
    omega
  · by_cases c1 : x < ks.length
    · obtain ⟨k1, k2, k3⟩ := clr_key h h1 h2 x
      rw [hv x c1, k1, Int.toNat_natCast, k2, Bool.and_eq_true] at hj
      exact hj.1
    · rw [out x c1] at hj
      simp at hj
  · by_cases c1 : x < ks.length
    · obtain ⟨k1, k2, k3⟩ := clr_key h h1 h2 x
      rw [hv x c1, k1, Int.toNat_natCast, k2]
      simp
    · rw [out x c1]
      simp
theorem doorsNone_l0 {K : List Int → Option (List Int × Bool)} {x : Int} {o : List Int} (hl : ds.length ≤ 30) (hx : ∀ d ∈ ds, ¬ d.1 = x ∧ ¬ d.2.1 = x) : ∀ (j i : Nat), ds.length - i < j →
    impl_DoorsAt.l0 n K j x o ds ds.length i = K o
  | 0, i, hj => by omega
  | j + 1, i, hj => by
    rw [impl_DoorsAt.l0]
    by_cases c : (i : Int) < (ds.length : Int)
    · have k1 : decide ((i : Int) < (ds.length : Int)) = true := by simpa using c
      have k2 : 0 ≤ (i : Int) ∧ (i : Int) < (ds.length : Int) := ⟨by omega, c⟩
      have wi : IntKind.wrap .i64 ((i : Int) + 1) = ((i + 1 : Nat) : Int) := by rw [w64s (by omega) (by omega)]; omega
      have hm := hx _ (getD_mem (l := ds) (i := (i : Int).toNat) (d := ((0 : Int), (0 : Int), (0 : Int))) (by omega))
      rw [if_pos k1, if_pos k2, if_neg (by simpa using hm.1), if_neg (by simpa using hm.2), wi]
      exact doorsNone_l0 hl hx j (i + 1) (by omega)
    · rw [if_neg (by simpa using c)]
open Classical in
theorem doors_none (hn : 100 ≤ n) (h : VM N ds ks) {x : Int} (hx0 : 0 ≤ x ∧ x ≤ N - 1) (hx : ∀ d ∈ ds, ¬ d.1 = x ∧ ¬ d.2.1 = x) : impl_DoorsAt.F n N ds ks x = some ([], true) := by
  unfold impl_DoorsAt.F
  have hv : inB x 0 (N - 1) = true := by simp [inB, hx0.1, hx0.2]
  rw [isNode_eq (by omega) (by simp; omega) (by simp), Option.bind_some]
  simp only [List.all_cons, List.all_nil, Bool.and_true, hv, decide_eq_true h, Bool.not_true, Bool.false_eq_true, if_false]
  exact doorsNone_l0 (K := fun y2 => some (y2, true)) h.dl hx n 0 (by have := h.dl; omega)
end
end Go.Pv
