/- Plain laws: what doors, needs, sets and texts of mazes answer. -/
import Derived.Test.YtfgncboicamdjaaGreatDoorPvIsOpenTo
import Derived.Test.YtfgncboicamdjaaGreatDoorPvWithout
import Derived.Test.YtfgncboicamdjaaGreatDoorPvL3
import Derived.Test.YtfgncboicamdjaaGreatDoorPvMono
import Derived.Test.YtfgncboicamdjaaGreatDoorPvSim
import Derived.Test.YtfgncboicamdjaaGreatDoorPvPMaze
import Derived.Test.YtfgncboicamdjaaGreatDoorPvPut
set_option linter.unusedVariables false
set_option linter.unusedSimpArgs false
set_option autoImplicit false
namespace Go.Pv
open Go Go.Fx Go.Pf

section
variable {n : Nat} {N : Int} {ds : List (Int × Int × Int)} {ks : List Int}
/-- The question is one. -/
structure OkQ (N : Int) (ds : List (Int × Int × Int)) (ks : List Int) (x y s : Int) : Prop where
  vm : VM N ds ks
  x : 0 ≤ x ∧ x < N
  y : 0 ≤ y ∧ y < N
  s : 0 ≤ s ∧ s ≤ 63
open Classical in
theorem isOpen_q (hn : 40 ≤ n) {x y s : Int} (hq : (0 ≤ x ∧ x < N) → VM N ds ks → True) : ∃ r, spec_IsOpenTo.F n N ds ks x y s = some r ∧ impl_IsOpenTo.F n N ds ks x y s = some r ∧ (r.2 = true → OkQ N ds ks x y s ∧ r.1 = openB ds x y s) := by
  unfold spec_IsOpenTo.F impl_IsOpenTo.F
  rw [isNode_eq hn (by simp; omega) (by simp)]
  simp only [l2Node_eq hn, Option.bind_some, l2Set_eq, isSet_eq, List.all_cons, List.all_nil, Bool.and_true]
  by_cases h : VM N ds ks
  · have hv : decide (VM N ds ks) = true := by simp [h]
    rw [hv, l2Open_eq (by have := h.dl; omega) (by have := h.dl; omega), steps_eq hn h]
    simp only [Bool.true_and, Option.bind_some]
    cases hx : inB x 0 (N - 1) with
    | false => exact ⟨(false, false), rfl, rfl, fun h => by cases h⟩
    | true =>
      cases hy : inB y 0 (N - 1) with
      | false => exact ⟨(false, false), rfl, rfl, fun h => by cases h⟩
      | true =>
        cases hs : setB s with
        | false => exact ⟨(false, false), rfl, rfl, fun h => by cases h⟩
        | true =>
          simp only [inB, Bool.and_eq_true, decide_eq_true_eq] at hx hy
          refine ⟨(openB ds x y s, true), rfl, ?_, fun _ => ⟨⟨h, by omega, by omega, setB_iff.1 hs⟩, rfl⟩⟩
          have := h.n2
          have hy0 : ¬ y < 0 := by omega
          simp only [Bool.and_self, Bool.not_true, Bool.false_eq_true, if_false, if_neg hy0, steps_bit1 h x s y hy.1 (by omega)]
  · have hv : decide (VM N ds ks) = false := by simp [h]
    rw [hv]
    exact ⟨(false, false), rfl, rfl, fun h => by cases h⟩

def needsL (ds : List (Int × Int × Int)) (x y : Int) : List Int := ((ds.filter (joinB x y)).map fun d => d.2.2).filter fun v => !needP ((ds.filter (joinB x y)).map fun d => d.2.2) v
open Classical in
theorem leastNeeds_q (hn : 1048578 ≤ n) (x y : Int) : ∃ q : List Int × Bool, q.1.length ≤ 1048576 ∧ spec_LeastNeeds.F n N ds ks x y = some q ∧ impl_LeastNeeds.F n N ds ks x y = some q ∧ (VM N ds ks → (0 ≤ x ∧ x < N) → (0 ≤ y ∧ y < N) → q = (needsL ds x y, true)) := by
  obtain ⟨q, h1, h2, h3⟩ := LeastNeeds_same (n := n) (N := N) (ds := ds) (ks := ks) hn x y
  refine ⟨q, h1, h2, h3, fun h hx hy => ?_⟩
  unfold spec_LeastNeeds.F at h2
  have ix : inB x 0 (N - 1) = true := by
    simp only [inB, Bool.and_eq_true, decide_eq_true_eq]; omega
  have iy : inB y 0 (N - 1) = true := by
    simp only [inB, Bool.and_eq_true, decide_eq_true_eq]; omega
  have hv : decide (VM N ds ks) = true := by simp [h]
  simp only [l2Node_eq (n := n) (by omega : 40 ≤ n), Option.bind_some, hv, ix, iy, Bool.and_self, Bool.not_true, Bool.false_eq_true, if_false] at h2
  have hdl := h.dl
  have e1 := leastS_l0 (n := n) (by omega) h (K := fun y14 => some (y14, true)) (x := x) (y := y) _ (fun i hi hj => least_same h hi hj) n 0 [] (by omega) (by simp) (by omega)
  simp only [Int.natCast_zero, List.drop_zero, List.nil_append] at e1
  rw [e1] at h2
  exact (Option.some.inj h2).symm

theorem sub_le {a b : Nat} (h : Sub a b) : a ≤ b := by
  have := h.and
  rw [← this]
  exact Nat.and_le_right
/-- A door is open exactly to sets with one of its least needs. -/
theorem needs_open (h : VM N ds ks) {x y : Int} {s : Nat} (hs : s < 64) : (∃ v ∈ needsL ds x y, hasB (s : Int) v = true) ↔ openB ds x y (s : Int) = true := by
  have hr : ∀ v ∈ (ds.filter (joinB x y)).map fun d => d.2.2, 0 ≤ v ∧ v ≤ 63 := by
    intro o ho
    obtain ⟨d, hd, rfl⟩ := List.mem_map.1 ho
    have := h.door d (List.mem_filter.1 hd).1
    omega
  have hop : openB ds x y (s : Int) = true ↔ ∃ v ∈ (ds.filter (joinB x y)).map fun d => d.2.2, hasB (s : Int) v = true := by
    unfold openB
    rw [List.any_eq_true]
    constructor
    · rintro ⟨d, hd, h2⟩
      rw [Bool.and_eq_true] at h2
      exact ⟨d.2.2, List.mem_map.2 ⟨d, List.mem_filter.2 ⟨hd, h2.1⟩, rfl⟩, h2.2⟩
    · rintro ⟨v, hv, h2⟩
      obtain ⟨d, hd, rfl⟩ := List.mem_map.1 hv
      obtain ⟨h3, h4⟩ := List.mem_filter.1 hd
      exact ⟨d, h3, by rw [Bool.and_eq_true]; exact ⟨h4, h2⟩⟩
  rw [hop]
  unfold needsL
  generalize (ds.filter (joinB x y)).map (fun d => d.2.2) = P at hr ⊢
  constructor
  · rintro ⟨v, hv, h2⟩
    exact ⟨v, (List.mem_filter.1 hv).1, h2⟩
  · rintro ⟨v, hv, h2⟩
    -- a least one
    have key : ∀ (m : Nat) (v : Int), v.toNat ≤ m → v ∈ P → hasB (s : Int) v = true → ∃ w ∈ P.filter (fun v => !needP P v), hasB (s : Int) w = true := by
      intro m
      induction m with
      | zero =>
        intro v hm hv h2
        refine ⟨v, List.mem_filter.2 ⟨hv, ?_⟩, h2⟩
        rw [Bool.not_eq_true']
        cases hn : needP P v with
        | false => rfl
        | true =>
          exfalso
          unfold needP at hn
          rw [List.any_eq_true] at hn
          obtain ⟨o, ho, h3⟩ := hn
          rw [Bool.and_eq_true, Bool.not_eq_true', decide_eq_false_iff_not] at h3
          have r1 := hr v hv
          have r2 := hr o ho
          have hsub : Sub o.toNat v.toNat := (hasB_iff (s := v.toNat) (by omega) r2.1 r2.2).1 (by rw [show ((v.toNat : Nat) : Int) = v by omega]; exact h3.2)
          have := sub_le hsub
          exact h3.1 (by omega)
      | succ m ih =>
        intro v hm hv h2
        cases hn : needP P v with
        | false => exact ⟨v, List.mem_filter.2 ⟨hv, by rw [hn]; rfl⟩, h2⟩
        | true =>
          unfold needP at hn
          rw [List.any_eq_true] at hn
          obtain ⟨o, ho, h3⟩ := hn
          rw [Bool.and_eq_true, Bool.not_eq_true', decide_eq_false_iff_not] at h3
          have r1 := hr v hv
          have r2 := hr o ho
          have hsub : Sub o.toNat v.toNat := (hasB_iff (s := v.toNat) (by omega) r2.1 r2.2).1 (by rw [show ((v.toNat : Nat) : Int) = v by omega]; exact h3.2)
          have hle := sub_le hsub
          have hne : o.toNat ≠ v.toNat := fun e => h3.1 (by omega)
          refine ih o (by omega) ho ?_
          rw [hasB_iff hs r2.1 r2.2]
          exact hsub.trans ((hasB_iff hs r1.1 r1.2).1 h2)
    exact key v.toNat v (Nat.le_refl _) hv h2

open Classical in
theorem reachWith_q (hn : 100 ≤ n) (x s : Int) : ∃ q : List Int × Bool, q.1.length ≤ 1048576 ∧ spec_ReachWith.F n N ds ks x s = some q ∧ impl_ReachWith.F n N ds ks x s = some q ∧ (q.2 = true → VM N ds ks ∧ (0 ≤ x ∧ x < N) ∧ (0 ≤ s ∧ s ≤ 63)) ∧
    (VM N ds ks → (0 ≤ x ∧ x < N) → (0 ≤ s ∧ s ≤ 63) → q = (memL (reachN ds s x), true)) := by
  unfold spec_ReachWith.F impl_ReachWith.F
  rw [isNode_eq (by omega) (by simp; omega) (by simp), l2Node_eq (by omega)]
  simp only [Option.bind_some, List.all_cons, List.all_nil, Bool.and_true, l2Set_eq, isSet_eq]
  by_cases h : VM N ds ks
  · have hv : decide (VM N ds ks) = true := by simp [h]
    rw [hv, Bool.true_and]
    cases hx : inB x 0 (N - 1) with
    | false =>
      refine ⟨([], false), by simp, rfl, rfl, (fun h => by cases h), fun _ hx' _ => ?_⟩
      simp [inB] at hx
      omega
    | true =>
      simp only [inB, Bool.and_eq_true, decide_eq_true_eq] at hx
      have hx' : 0 ≤ x ∧ x < N := by omega
      cases hs : setB s with
      | false =>
        refine ⟨([], false), by simp, rfl, rfl, (fun h => by cases h), fun _ _ hs' => ?_⟩
        rw [setB_iff.2 hs'] at hs
        cases hs
      | true =>
        rw [reachS_eq (by omega) h hx', reach_eq (by omega) h hx', Option.bind_some, Option.bind_some, members_eq (by omega) (reachN_lt _ _ _), Option.bind_some]
        have := memL_length (reachN ds s x)
        exact ⟨(memL (reachN ds s x), true), by simp only; omega, rfl, rfl, fun _ => ⟨h, hx', setB_iff.1 hs⟩, fun _ _ _ => rfl⟩
  · have hv : decide (VM N ds ks) = false := by simp [h]
    rw [hv]
    exact ⟨([], false), by simp, rfl, rfl, (fun h => by cases h), fun h' => absurd h' h⟩
theorem or5_set {s : Int} (h : 0 ≤ s ∧ s ≤ 63) : ∃ t : Nat, bitOr .i64 s 5 = (t : Int) ∧ t < 2 ^ 6 ∧ Sub s.toNat t := by
  have e : s = ((s.toNat : Nat) : Int) := by omega
  have p63 : (2 : Nat) ^ 63 = 9223372036854775808 := by decide
  have p6 : (2 : Nat) ^ 6 = 64 := by decide
  refine ⟨s.toNat ||| 5, ?_, Nat.or_lt_two_pow (by omega) (by omega), Sub.or_left _ _⟩
  rw [e]
  exact bitOr_nat (b := 5) (by omega) (by omega)
theorem reach_more (h : VM N ds ks) {x : Int} (hx : 0 ≤ x ∧ x < N) {s t : Nat} (hs : s < 2 ^ 6) (ht : t < 2 ^ 6) (hst : Sub s t) {z : Int} (hz : z ∈ memL (reachN ds (s : Int) x)) : z ∈ memL (reachN ds (t : Int) x) := by
  obtain ⟨i, rfl, hi⟩ := (memL_mem (reachN_lt ds (s : Int) x)).1 hz
  exact (memL_mem (reachN_lt ds (t : Int) x)).2 ⟨i, rfl, reachN_less (N := N) (ks := ks) (ks' := ks) ⟨h, h, fun _ hd => hd, fun _ => Sub.refl _⟩ hs ht hst hx i hi⟩
theorem reach_self (h : VM N ds ks) {x s : Int} (hx : 0 ≤ x ∧ x < N) : x ∈ memL (reachN ds s x) := by
  refine (memL_mem (reachN_lt ds s x)).2 ⟨x.toNat, by omega, ?_⟩
  rw [reachN_bit h hx, show ((x.toNat : Nat) : Int) = x by omega]
  exact .refl
end

/-! ### Sets and colours -/
section
variable {n : Nat}
def orS (a : Int) (l : List Int) : Int := l.foldl (fun a c => bitOr .i64 a (shL .i64 1 c)) a
theorem setOf_same {xs : List Int} (hl : xs.length ≤ 1048576) : ∀ (j i : Nat) (a : Int), xs.length - i < j → i ≤ xs.length → ∃ r, impl_SetOf.l0 n (fun y2 => some (y2, true)) j a xs (xs.length : Int) (i : Int) = some r ∧ spec_SetOf.l0 n (fun y2 => some (y2, true)) j xs a (i : Int) = some r
  | 0, i, a, h, _ => by omega
  | j + 1, i, a, h, hi => by
    unfold impl_SetOf.l0 spec_SetOf.l0
    by_cases c : i < xs.length
    · have wi : IntKind.wrap .i64 ((i : Int) + 1) = ((i + 1 : Nat) : Int) := by rw [w64s (by omega) (by omega)]; omega
      have k2 : 0 ≤ (i : Int) ∧ (i : Int) < (xs.length : Int) := ⟨by omega, by omega⟩
      have k1 : decide ((i : Int) < (xs.length : Int)) = true := by simpa using c
      simp only [if_pos k1, if_pos k2, within_eq, l1In_eq, Option.bind_some]
      cases hb : (decide (0 ≤ xs.getD (i : Int).toNat 0) && decide (xs.getD (i : Int).toNat 0 ≤ 5)) with
      | false => exact ⟨(0, false), rfl, rfl⟩
      | true =>
        rw [Bool.and_eq_true, decide_eq_true_eq, decide_eq_true_eq] at hb
        have k3 : ¬ xs.getD (i : Int).toNat 0 < 0 := by omega
        simp only [Bool.not_true, Bool.false_eq_true, if_false, if_neg k3, wi]
        exact setOf_same hl j (i + 1) _ (by omega) (by omega)
    · have k1 : ¬ decide ((i : Int) < (xs.length : Int)) = true := by simpa using c
      simp only [if_neg k1]
      exact ⟨_, rfl, rfl⟩
theorem setOf_val {xs : List Int} (hl : xs.length ≤ 1048576) (hb : ∀ x ∈ xs, 0 ≤ x ∧ x ≤ 5) : ∀ (j i : Nat) (a : Int), xs.length - i < j → i ≤ xs.length → impl_SetOf.l0 n (fun y2 => some (y2, true)) j a xs (xs.length : Int) (i : Int) = some (orS a (xs.drop i), true)
  | 0, i, a, h, _ => by omega
  | j + 1, i, a, h, hi => by
    unfold impl_SetOf.l0
    by_cases c : i < xs.length
    · have wi : IntKind.wrap .i64 ((i : Int) + 1) = ((i + 1 : Nat) : Int) := by rw [w64s (by omega) (by omega)]; omega
      have k2 : 0 ≤ (i : Int) ∧ (i : Int) < (xs.length : Int) := ⟨by omega, by omega⟩
      have hm := hb _ (getD_mem (d := 0) c)
      have hbb : (decide (0 ≤ xs.getD (i : Int).toNat 0) && decide (xs.getD (i : Int).toNat 0 ≤ 5)) = true := by
        rw [Int.toNat_natCast, Bool.and_eq_true, decide_eq_true_eq, decide_eq_true_eq]
        exact hm
      rw [if_pos (by simpa using c), if_pos k2, within_eq, Option.bind_some, hbb, if_neg (by simp), Int.toNat_natCast, if_neg (by omega), wi, setOf_val hl hb j (i + 1) _ (by omega) (by omega), getD_drop (d := 0) c]
      rfl
    · rw [if_neg (by simpa using c), List.drop_of_length_le (by omega)]
      rfl
theorem SetOf_q (hn : 1048578 ≤ n) {xs : List Int} (hl : xs.length ≤ 1048576) : ∃ r, impl_SetOf.F n xs = some r ∧ spec_SetOf.F n xs = some r := by
  unfold impl_SetOf.F spec_SetOf.F
  have := setOf_same (n := n) hl n 0 0 (by omega) (by omega)
  simpa using this
theorem or_mem : ∀ S : Fin 64, orS 0 (memL S.val) = (S.val : Int) := by decide +kernel
theorem setOf_mem (hn : 1048578 ≤ n) {S : Nat} (hS : S < 64) : impl_SetOf.F n (memL S) = some ((S : Int), true) := by
  unfold impl_SetOf.F
  have hl := memL_length S
  have hb : ∀ x ∈ memL S, 0 ≤ x ∧ x ≤ 5 := by
    intro x hx
    obtain ⟨i, rfl, hi⟩ := (memL_mem (by omega)).1 hx
    have : i < 6 := by
      rcases Nat.lt_or_ge i 6 with h | h
      · exact h
      · have := Nat.testBit_lt_two_pow (x := S) (i := i) (Nat.lt_of_lt_of_le hS (by have := Nat.pow_le_pow_right (show 0 < 2 by omega) h; omega))
        rw [this] at hi
        cases hi
    omega
  have := setOf_val (n := n) (by omega) hb n 0 0 (by omega) (by omega)
  simp only [Int.natCast_zero, List.drop_zero] at this
  rw [this, or_mem ⟨S, hS⟩]
theorem l2Colours_l0 {K : List Int → Option (List Int)} {S : Nat} (hS : S < 64) : ∀ (j c : Nat) (o : List Int), 6 - c < j → c ≤ 6 → o.length ≤ c → spec_l2Colours.l0 n K j (S : Int) o (c : Int) = K (o ++ memF S c (6 - c))
  | 0, c, o, h, _, _ => by omega
  | j + 1, c, o, h, hc, ho => by
    unfold spec_l2Colours.l0
    by_cases c6 : c < 6
    · have wi : IntKind.wrap .i64 ((c : Int) + 1) = ((c + 1 : Nat) : Int) := by rw [w64s (by omega) (by omega)]; omega
      have p63 : (2 : Nat) ^ 63 = 9223372036854775808 := by decide
      rw [if_pos (by simp; omega), if_neg (by omega), bit_one (by omega) (by omega), show 6 - c = (6 - (c + 1)) + 1 by omega, memF_succ, wi]
      cases hb : S.testBit c with
      | true =>
        rw [if_pos rfl, if_pos rfl, if_pos (by simp; omega), l2Colours_l0 hS j (c + 1) _ (by omega) (by omega) (by simp; omega)]
        simp
      | false =>
        rw [if_neg (by simp), if_neg (by simp), l2Colours_l0 hS j (c + 1) _ (by omega) (by omega) (by omega)]
    · rw [if_neg (by simp; omega), show 6 - c = 0 by omega]
      simp [memF]
theorem memL_six {S : Nat} (hS : S < 64) : memF S 0 6 = memL S := by
  refine asc_ext (memF_asc _ _ _) (memL_asc _) fun x => ?_
  rw [memF_mem, memL_mem (by omega)]
  constructor
  · rintro ⟨i, h1, _, _, h4⟩
    exact ⟨i, h1, h4⟩
  · rintro ⟨i, h1, h4⟩
    refine ⟨i, h1, by omega, ?_, h4⟩
    rcases Nat.lt_or_ge i 6 with h | h
    · omega
    · have := Nat.testBit_lt_two_pow (x := S) (i := i) (Nat.lt_of_lt_of_le hS (by have := Nat.pow_le_pow_right (show 0 < 2 by omega) h; omega))
      rw [this] at h4
      cases h4
/-- The colours of a set, and back. -/
theorem coloursOf_q (hn : 1048578 ≤ n) (s : Int) : ∃ q : List Int × Bool, q.1.length ≤ 1048576 ∧ impl_ColoursOf.F n s = some q ∧ spec_ColoursOf.F n s = some q ∧ (q.2 = true → impl_SetOf.F n q.1 = some (s, true)) := by
  unfold impl_ColoursOf.F spec_ColoursOf.F
  rw [isSet_eq, l2Set_eq, Option.bind_some, Option.bind_some]
  cases hs : setB s with
  | false => exact ⟨([], false), by simp, rfl, rfl, fun h => by cases h⟩
  | true =>
    have hr := setB_iff.1 hs
    obtain ⟨S, rfl⟩ : ∃ S : Nat, s = (S : Int) := ⟨s.toNat, by omega⟩
    have hS : S < 64 := by omega
    have h6 : spec_l2Colours.F n (S : Int) = some (memL S) := by
      unfold spec_l2Colours.F
      have := l2Colours_l0 (n := n) (K := fun y1 => some y1) hS n 0 [] (by omega) (by omega) (by simp)
      simp only [Int.natCast_zero, List.nil_append, Nat.sub_zero] at this
      rw [this, memL_six hS]
    have hl := memL_length S
    simp only [Bool.not_true, Bool.false_eq_true, if_false]
    rw [members_eq (by omega) (by omega), h6]
    exact ⟨(memL S, true), by simp only; omega, rfl, rfl, fun _ => setOf_mem hn hS⟩
end

/-! ### A maze's text tells the maze -/
theorem spl_join (c : UInt8) : ∀ (x : List UInt8) (r : List (List UInt8)), c ∉ x → (∀ y ∈ r, c ∉ y) → spl c (Lib.join (x :: r) [c]) = x :: r
  | x, [], hx, _ => by rw [Lib.join_one]; exact spl_none c x hx
  | x, y :: r, hx, hr => by
    have e : Lib.join (x :: y :: r) [c] = x ++ c :: Lib.join (y :: r) [c] := by
      rw [Lib.join_cons, Lib.join_cons]
      simp [Lib.joinTail]
    rw [e, spl_cut c x _ hx, spl_join c y r (hr y (List.mem_cons_self ..)) fun z hz => hr z (List.mem_cons_of_mem _ hz)]
theorem itoa_bytes {v : Int} {b : UInt8} (h : b ∈ Lib.itoa v) : b.toNat = 45 ∧ v < 0 ∨ 48 ≤ b.toNat ∧ b.toNat ≤ 57 := by
  unfold Lib.itoa at h
  split at h
  · rename_i c
    rcases List.mem_cons.1 h with rfl | h
    · exact .inl ⟨rfl, c⟩
    · exact .inr ((dec_digs _).1 b h)
  · exact .inr ((dec_digs _).1 b h)
theorem itoa_no {v : Int} (hv : 0 ≤ v) {c : UInt8} (hc : c.toNat < 48) : c ∉ Lib.itoa v := by
  intro h
  rcases itoa_bytes h with ⟨_, h2⟩ | h2 <;> omega
theorem rdAll_join {c : UInt8} (hc : c.toNat < 48) {l : List Int} (h0 : l ≠ []) (hl : ∀ x ∈ l, 0 ≤ x ∧ x ≤ 999999) : rdAll (spl c (Lib.join (l.map Lib.itoa) [c])) = some l := by
  cases l with
  | nil => exact absurd rfl h0
  | cons x r =>
    rw [List.map_cons, spl_join c _ _ (itoa_no (hl x (by simp)).1 hc) (fun y hy => by
      obtain ⟨z, hz, rfl⟩ := List.mem_map.1 hy
      exact itoa_no (hl z (List.mem_cons_of_mem _ hz)).1 hc)]
    exact rdAll_map (l := x :: r) fun y hy => by
      have := hl y hy
      omega
theorem join_no {c d : UInt8} (hc : c.toNat < 48) (hne : c ≠ d) {l : List Int} (hl : ∀ x ∈ l, 0 ≤ x) : c ∉ Lib.join (l.map Lib.itoa) [d] := by
  cases l with
  | nil => simp [Lib.join_nil]
  | cons x r =>
    rw [List.map_cons, Lib.join_cons]
    simp only [Lib.joinTail, List.mem_append, List.mem_flatten, List.mem_map, not_or, not_exists, not_and]
    refine ⟨itoa_no (hl x (by simp)) hc, ?_⟩
    rintro p ⟨q, hq, rfl⟩ hm
    obtain ⟨z, hz, rfl⟩ := hq
    simp only [List.cons_append, List.nil_append, List.mem_cons] at hm
    rcases hm with e | hm
    · exact hne e
    · exact itoa_no (hl z (List.mem_cons_of_mem _ hz)) hc hm
def doorW (d : Int × Int × Int) : List UInt8 := Lib.join ([d.1, d.2.1, d.2.2].map Lib.itoa) [45]
theorem rdDs_map : ∀ {l : List (Int × Int × Int)}, (∀ d ∈ l, (0 ≤ d.1 ∧ d.1 ≤ 999999) ∧ (0 ≤ d.2.1 ∧ d.2.1 ≤ 999999) ∧ (0 ≤ d.2.2 ∧ d.2.2 ≤ 999999)) → rdDs (l.map doorW) = some l
  | [], _ => rfl
  | d :: l, h => by
    have hd := h d (List.mem_cons_self ..)
    have e : rdD (doorW d) = some d := by
      unfold rdD doorW
      rw [rdAll_join (by decide) (by simp) (by
        intro x hx
        simp only [List.mem_cons, List.not_mem_nil, or_false] at hx
        rcases hx with rfl | rfl | rfl
        · exact hd.1
        · exact hd.2.1
        · exact hd.2.2)]
      rfl
    simp only [List.map_cons, rdDs, e, rdDs_map fun y hy => h y (List.mem_cons_of_mem _ hy)]
open Classical in
theorem resM_text {N : Int} {ds : List (Int × Int × Int)} {ks : List Int} (h : VM N ds ks) : resM (mazeT N ds ks) = (N, ds, ks, true) := by
  have hd : ∀ d ∈ ds, (0 ≤ d.1 ∧ d.1 ≤ 999999) ∧ (0 ≤ d.2.1 ∧ d.2.1 ≤ 999999) ∧ (0 ≤ d.2.2 ∧ d.2.2 ≤ 999999) := by
    intro d hd
    have := h.door d hd
    have := h.n2
    omega
  have hN := h.n1
  have hN2 := h.n2
  have hk : ∀ k ∈ ks, 0 ≤ k := fun k hk => (h.keys k hk).1
  have e : mazeT N ds ks = Lib.join (Lib.itoa N :: Lib.join (ks.map Lib.itoa) [44] :: ds.map doorW) [32] := by
    have : ∀ l : List (Int × Int × Int), l.flatMap doorT = Lib.joinTail [32] (l.map doorW) := by
      intro l
      induction l with
      | nil => rfl
      | cons d l ih =>
        rw [List.flatMap_cons, ih, ← door_join]
        simp [Lib.joinTail, doorW]
    rw [Lib.join_cons]
    unfold mazeT
    rw [this]
    simp [Lib.joinTail]
  have hs := spl_join 32 (Lib.itoa N) (Lib.join (ks.map Lib.itoa) [44] :: ds.map doorW) (itoa_no (by omega) (by decide)) (by
    intro y hy
    rcases List.mem_cons.1 hy with rfl | hy
    · exact join_no (by decide) (by decide) hk
    · obtain ⟨d, hd', rfl⟩ := List.mem_map.1 hy
      have := hd d hd'
      refine join_no (by decide) (by decide) ?_
      intro x hx
      simp only [List.mem_cons, List.not_mem_nil, or_false] at hx
      rcases hx with rfl | rfl | rfl <;> omega)
  unfold resM
  rw [e, hs]
  have hk0 : ks ≠ [] := by
    intro e
    have := h.kl
    rw [e] at this
    simp at this
    omega
  have h1 := rd_itoa (v := N) (by omega)
  have h2 := rdAll_join (c := 44) (by decide) hk0 (fun k hk' => by have := h.keys k hk'; omega)
  have h3 := rdDs_map hd
  simp only [h1, h2, h3]
  rw [if_pos h]
end Go.Pv
