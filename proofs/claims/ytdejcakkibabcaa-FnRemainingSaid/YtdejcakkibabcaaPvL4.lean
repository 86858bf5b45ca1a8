/- Plain laws: least numbers of steps, told in two ways. -/
import Derived.Test.YtdejcakkibabcaaPvDistB
import Derived.Test.YtdejcakkibabcaaPvTaken
import Derived.KernelRfl
set_option linter.unusedVariables false
set_option linter.unusedSimpArgs false
set_option autoImplicit false
namespace Go.Pv
open Go Go.Fx Go.Pf

/-! ### How many colours -/
def popF : Nat → Nat → Nat
  | 0, _ => 0
  | k + 1, x => if 0 < x then x % 2 + popF k (x / 2) else 0
theorem popF_le : ∀ (k x : Nat), popF k x ≤ k
  | 0, x => Nat.le_refl _
  | k + 1, x => by
    unfold popF
    have := popF_le k (x / 2)
    split
    · omega
    · omega
theorem l2Many_l0 {n : Nat} {K : Int → Option Int} : ∀ (j k x a : Nat), k < j → x < 2 ^ k → k ≤ 6 → a + k ≤ 100 → spec_l2Many.l0 n K j x a = K ((a + popF k x : Nat) : Int)
  | 0, k, x, a, h, _, _, _ => by omega
  | j + 1, k, x, a, h, hx, hk, ha => by
    rw [spec_l2Many.l0]
    have p : (2 : Nat) ^ k ≤ 2 ^ 6 := Nat.pow_le_pow_right (by omega) hk
    have p6 : (2 : Nat) ^ 6 = 64 := by decide
    have p63 : (2 : Nat) ^ 63 = 9223372036854775808 := by decide
    by_cases c : 0 < x
    · cases k with
      | zero => simp at hx; omega
      | succ k =>
        have k1 : decide ((x : Int) > 0) = true := by rw [decide_eq_true_eq]; omega
        have e1 : shR .i64 (x : Int) 1 = ((x / 2 : Nat) : Int) := by
          have := shR_nat (a := x) (k := 1) (by omega)
          rw [Nat.shiftRight_eq_div_pow] at this
          simpa using this
        have hm : x % 2 < 2 := Nat.mod_lt _ (by omega)
        rw [if_pos k1, e1, bitAnd_one (by omega), w64s (by omega) (by omega)]
        have e2 : (a : Int) + ((x % 2 : Nat) : Int) = ((a + x % 2 : Nat) : Int) := by omega
        have hx2 : x / 2 < 2 ^ k := by
          rw [Nat.pow_succ] at hx
          omega
        rw [e2, l2Many_l0 j k (x / 2) (a + x % 2) (by omega) hx2 (by omega) (by omega)]
        congr 2
        conv => rhs; unfold popF
        rw [if_pos c]
        omega
    · have k1 : ¬ decide ((x : Int) > 0) = true := by rw [decide_eq_true_eq]; omega
      have : x = 0 := by omega
      rw [if_neg k1, this]
      cases k <;> simp [popF]
theorem l2Many_eq {n : Nat} (hn : 40 ≤ n) {x : Nat} (hx : x < 64) : spec_l2Many.F n (x : Int) = some ((popF 6 x : Nat) : Int) := by
  unfold spec_l2Many.F
  have := l2Many_l0 (n := n) (K := fun y1 => some y1) n 6 x 0 (by omega) (by omega) (by omega) (by omega)
  simpa using this
theorem ones_all : ((List.range 64).all fun x => math_bits_OnesCount64.F 0 (x : Int) == some ((popF 6 x : Nat) : Int)) = true := by kernel_rfl
theorem ones_eq (n : Nat) {x : Nat} (hx : x < 64) : math_bits_OnesCount.F n (IntKind.wrap .u64 (x : Int)) = some ((popF 6 x : Nat) : Int) := by
  have e : IntKind.wrap .u64 (x : Int) = (x : Int) := by
    have hw : ∀ m : Int, IntKind.u64.wrap m = m % 18446744073709551616 := fun m => by simp [IntKind.wrap, IntKind.bits, IntKind.signed]
    rw [hw]
    omega
  have h := List.all_eq_true.1 ones_all x (List.mem_range.2 hx)
  have h2 : math_bits_OnesCount64.F 0 (x : Int) = some ((popF 6 x : Nat) : Int) := by simpa using h
  unfold math_bits_OnesCount.F
  rw [e]
  show (math_bits_OnesCount64.F 0 (x : Int)).bind _ = _
  rw [h2]
  rfl

/-! ### The least number of steps to a node -/
def leastF (p : Nat → Bool) (f : Nat → Int) (c : Nat) : Nat → Int → Int
  | 0, b => b
  | k + 1, b => leastF p f (c + 1) k (if p c = true ∧ 0 ≤ f c ∧ (b < 0 ∨ f c < b) then f c else b)
theorem leastF_congr {p q : Nat → Bool} {f g : Nat → Int} : ∀ (k c : Nat) (b : Int), (∀ i, c ≤ i → i < c + k → p i = q i ∧ f i = g i) → leastF p f c k b = leastF q g c k b
  | 0, c, b, _ => rfl
  | k + 1, c, b, h => by
    obtain ⟨e1, e2⟩ := h c (Nat.le_refl _) (by omega)
    unfold leastF
    rw [e1, e2]
    exact leastF_congr k (c + 1) _ fun i h1 h2 => h i (by omega) (by omega)
theorem leastF_range {p : Nat → Bool} {f : Nat → Int} {B : Int} (hf : ∀ i, f i ≤ B) : ∀ (k c : Nat) (b : Int), -1 ≤ b → b ≤ B → -1 ≤ leastF p f c k b ∧ leastF p f c k b ≤ B
  | 0, c, b, h1, h2 => ⟨h1, h2⟩
  | k + 1, c, b, h1, h2 => by
    unfold leastF
    split
    · rename_i h
      exact leastF_range hf k (c + 1) _ (by omega) (hf c)
    · exact leastF_range hf k (c + 1) _ h1 h2
section
variable {n : Nat} {N : Int} {ds : List (Int × Int × Int)} {ks : List Int}
def rowF (o : List Int) (x : Int) (s : Nat) : Int := o.getD (idI x (s : Int)).toNat 0
def wantB (st most : Int) (s : Nat) : Bool := hasB (s : Int) st && decide (((popF 6 s : Nat) : Int) ≤ most)
theorem l4Least_l0 (hn : 40 ≤ n) {o : List Int} {x st most : Int} (ho : (o.length : Int) = N * 64) (hN : N ≤ 12) (hx : 0 ≤ x ∧ x < N) {K : Int → Option Int} : ∀ (j c : Nat) (b : Int), 64 - c < j → c ≤ 64 →
    spec_l4Least.l0 n K j o x st most b c = K (leastF (wantB st most) (rowF o x) c (64 - c) b)
  | 0, c, b, h, _ => by omega
  | j + 1, c, b, h, hc => by
    rw [spec_l4Least.l0]
    by_cases cc : c < 64
    · have k1 : decide ((c : Int) < 64) = true := by rw [decide_eq_true_eq]; omega
      have wc : IntKind.wrap .i64 ((c : Int) + 1) = ((c + 1 : Nat) : Int) := by rw [w64s (by omega) (by omega)]; omega
      have k2 : 0 ≤ idI x (c : Int) ∧ idI x (c : Int) < (o.length : Int) := by unfold idI; omega
      have e : 64 - c = (64 - (c + 1)) + 1 := by omega
      have ih := fun b => l4Least_l0 hn (st := st) (most := most) ho hN hx (K := K) j (c + 1) b (by omega) (by omega)
      rw [if_pos k1, l4Id_eq n hx.1 (by omega) (by omega) (by omega), Option.bind_some, if_pos k2, l2Has_eq, Option.bind_some, l2Many_eq hn cc, wc, e]
      have hr : o.getD (idI x (c : Int)).toNat 0 = rowF o x c := rfl
      rw [hr]
      unfold leastF
      rw [ih, ih]
      unfold wantB
      cases hasB (c : Int) st with
      | false => simp
      | true =>
        by_cases c1 : ((popF 6 c : Nat) : Int) ≤ most
        · simp only [if_true, Option.bind_some, c1, decide_true, Bool.and_self, true_and]
          by_cases c2 : 0 ≤ rowF o x c
          · rw [if_pos (by rw [decide_eq_true_eq]; exact c2)]
            by_cases c3 : b < 0
            · rw [if_pos (by rw [decide_eq_true_eq]; exact c3), if_pos ⟨c2, .inl c3⟩]
            · rw [if_neg (by rw [decide_eq_true_eq]; exact c3)]
              by_cases c4 : rowF o x c < b
              · rw [if_pos (by rw [decide_eq_true_eq]; exact c4), if_pos ⟨c2, .inr c4⟩]
              · rw [if_neg (by rw [decide_eq_true_eq]; exact c4), if_neg (by rintro ⟨_, h1 | h1⟩; exact c3 h1; exact c4 h1)]
          · rw [if_neg (by rw [decide_eq_true_eq]; exact c2), if_neg (by rintro ⟨h1, _⟩; exact c2 h1)]
        · simp [c1]
    · have k1 : ¬ decide ((c : Int) < 64) = true := by rw [decide_eq_true_eq]; omega
      have e : 64 - c = 0 := by omega
      rw [if_neg k1, e]
      rfl
theorem l4Least_eq (hn : 100 ≤ n) {o : List Int} {x : Int} (st most : Int) (ho : (o.length : Int) = N * 64) (hN : N ≤ 12) (hx : 0 ≤ x ∧ x < N) : spec_l4Least.F n o x st most = some (leastF (wantB st most) (rowF o x) 0 64 (-1)) := by
  unfold spec_l4Least.F
  have := l4Least_l0 (n := n) (by omega) (st := st) (most := most) ho hN hx (K := fun y4 => some y4) n 0 (-1) (by omega) (by omega)
  simpa using this
theorem better_eq (a b : Int) : impl_better.F n a b = some (decide (0 ≤ a ∧ (b < 0 ∨ a < b))) := by
  unfold impl_better.F
  by_cases c1 : 0 ≤ a
  · rw [if_pos (by rw [decide_eq_true_eq]; exact c1)]
    by_cases c2 : b < 0
    · rw [if_pos (by rw [decide_eq_true_eq]; exact c2)]; simp [c1, c2]
    · rw [if_neg (by rw [decide_eq_true_eq]; exact c2)]; simp [c1, c2]
  · rw [if_neg (by rw [decide_eq_true_eq]; exact c1)]; simp [c1]
/-- A row of the program's table. -/
theorem row_get {o : List Int} {x : Int} (ho : (o.length : Int) = N * 64) (hx : 0 ≤ x ∧ x < N) {s : Nat} (hs : s < 64) : (((gridOf o).drop (0 + x.toNat * 64)).take 64).getD s 0 = rowF o x s := by
  rw [List.getD_eq_getElem?_getD, List.getElem?_take, if_pos hs, List.getElem?_drop, ← List.getD_eq_getElem?_getD]
  have e : 0 + x.toNat * 64 + s = (idI x (s : Int)).toNat := by unfold idI; omega
  rw [e, grid_get (by unfold idI; omega)]
  rfl
theorem row_get' {o : List Int} {x : Int} (ho : (o.length : Int) = N * 64) (hx : 0 ≤ x ∧ x < N) {s : Nat} (hs : s < 64) : (((gridOf o).drop (x.toNat * 64)).take 64).getD s 0 = rowF o x s := by
  have := row_get ho hx hs
  rw [Nat.zero_add] at this
  exact this
theorem leastAny_l0 {r : List Int} {K : Int → Option Int} : ∀ (j c : Nat) (b : Int), 64 - c < j → c ≤ 64 →
    impl_grid_least_canySet.l0 n K j b r c = K (leastF (fun _ => true) (fun s => r.getD s 0) c (64 - c) b)
  | 0, c, b, h, _ => by omega
  | j + 1, c, b, h, hc => by
    rw [impl_grid_least_canySet.l0]
    by_cases cc : c < 64
    · have k1 : decide ((c : Int) < 64) = true := by rw [decide_eq_true_eq]; omega
      have k2 : 0 ≤ (c : Int) ∧ (c : Int) < (64 : Int) := by omega
      have wc : IntKind.wrap .i64 ((c : Int) + 1) = ((c + 1 : Nat) : Int) := by rw [w64s (by omega) (by omega)]; omega
      have ec : (c : Int).toNat = c := by omega
      have e : 64 - c = (64 - (c + 1)) + 1 := by omega
      rw [if_pos k1, if_pos k2, wc, ec, e]
      simp only [impl_anySet.F, Option.bind_some, if_true, better_eq]
      rw [leastAny_l0 j (c + 1) _ (by omega) (by omega), leastAny_l0 j (c + 1) _ (by omega) (by omega)]
      conv => rhs; unfold leastF
      by_cases q : 0 ≤ r.getD c 0 ∧ (b < 0 ∨ r.getD c 0 < b)
      · rw [if_pos (by rw [decide_eq_true_eq]; exact q), if_pos ⟨rfl, q⟩]
      · rw [if_neg (by rw [decide_eq_true_eq]; exact q), if_neg (fun h => q h.2)]
    · have k1 : ¬ decide ((c : Int) < 64) = true := by rw [decide_eq_true_eq]; omega
      have e : 64 - c = 0 := by omega
      rw [if_neg k1, e]
      rfl
theorem want06 {s : Nat} (hs : s < 64) : wantB 0 6 s = true := by
  have p63 : (2 : Nat) ^ 63 = 9223372036854775808 := by decide
  have h1 : hasB (s : Int) 0 = true := by
    unfold hasB
    have := bitAnd_nat (a := s) (b := 0) (by omega) (by omega)
    rw [Nat.and_zero] at this
    rw [decide_eq_true_eq]
    exact this
  have h2 := popF_le 6 s
  simp only [wantB, h1, Bool.true_and, decide_eq_true_eq]
  omega
theorem leastAny_eq (hn : 100 ≤ n) {o : List Int} {x : Int} (ho : (o.length : Int) = N * 64) (hN : N ≤ 12) (hx : 0 ≤ x ∧ x < N) : impl_grid_least_canySet.F n (gridOf o) x = some (leastF (wantB 0 6) (rowF o x) 0 64 (-1)) := by
  unfold impl_grid_least_canySet.F
  rw [if_pos ⟨hx.1, by omega, by omega⟩]
  have := leastAny_l0 (n := n) (r := ((gridOf o).drop (0 + x.toNat * 64)).take 64) (K := fun y3 => some y3) n 0 (-1) (by omega) (by omega)
  simp only [Int.natCast_zero] at this
  rw [this, if_pos (by omega)]
  congr 1
  exact leastF_congr 64 0 _ fun i _ hi => ⟨(want06 (by omega)).symm, row_get ho hx (by omega)⟩
theorem leastWith_l0 {r : List Int} {st : Int} (hst : 0 ≤ st ∧ st ≤ 63) {K : Int → Option Int} : ∀ (j c : Nat) (b : Int), 64 - c < j → c ≤ 64 →
    impl_grid_least_cFewestWith_1.l0 n K j st b r c = K (leastF (fun s => hasB (s : Int) st) (fun s => r.getD s 0) c (64 - c) b)
  | 0, c, b, h, _ => by omega
  | j + 1, c, b, h, hc => by
    rw [impl_grid_least_cFewestWith_1.l0]
    by_cases cc : c < 64
    · have k1 : decide ((c : Int) < 64) = true := by rw [decide_eq_true_eq]; omega
      have k2 : 0 ≤ (c : Int) ∧ (c : Int) < (64 : Int) := by omega
      have wc : IntKind.wrap .i64 ((c : Int) + 1) = ((c + 1 : Nat) : Int) := by rw [w64s (by omega) (by omega)]; omega
      have ec : (c : Int).toNat = c := by omega
      have e : 64 - c = (64 - (c + 1)) + 1 := by omega
      rw [if_pos k1, if_pos k2, wc, ec, e]
      simp only [impl_FewestWith_1_c0.F, has_eq n hst.1 hst.2, Option.bind_some, better_eq]
      rw [leastWith_l0 hst j (c + 1) _ (by omega) (by omega), leastWith_l0 hst j (c + 1) _ (by omega) (by omega)]
      conv => rhs; unfold leastF
      cases hq : hasB (c : Int) st with
      | false => simp
      | true =>
        rw [if_pos rfl]
        by_cases q : 0 ≤ r.getD c 0 ∧ (b < 0 ∨ r.getD c 0 < b)
        · rw [if_pos (by rw [decide_eq_true_eq]; exact q), if_pos ⟨rfl, q⟩]
        · rw [if_neg (by rw [decide_eq_true_eq]; exact q), if_neg (fun h => q h.2)]
    · have k1 : ¬ decide ((c : Int) < 64) = true := by rw [decide_eq_true_eq]; omega
      have e : 64 - c = 0 := by omega
      rw [if_neg k1, e]
      rfl
theorem leastWith_eq (hn : 100 ≤ n) {o : List Int} {x st : Int} (hst : 0 ≤ st ∧ st ≤ 63) (ho : (o.length : Int) = N * 64) (hN : N ≤ 12) (hx : 0 ≤ x ∧ x < N) : impl_grid_least_cFewestWith_1.F n (gridOf o) x st = some (leastF (wantB st 6) (rowF o x) 0 64 (-1)) := by
  unfold impl_grid_least_cFewestWith_1.F
  rw [if_pos ⟨hx.1, by omega, by omega⟩]
  have := leastWith_l0 (n := n) (r := ((gridOf o).drop (0 + x.toNat * 64)).take 64) hst (K := fun y3 => some y3) n 0 (-1) (by omega) (by omega)
  simp only [Int.natCast_zero] at this
  rw [this, if_pos (by omega)]
  congr 1
  refine leastF_congr 64 0 _ fun i _ hi => ⟨?_, row_get ho hx (by omega)⟩
  have h2 := popF_le 6 i
  have : decide (((popF 6 i : Nat) : Int) ≤ 6) = true := by rw [decide_eq_true_eq]; omega
  simp only [wantB, this, Bool.and_true]
theorem leastKeys_l0 {r : List Int} {most : Int} {K : Int → Option Int} : ∀ (j c : Nat) (b : Int), 64 - c < j → c ≤ 64 →
    impl_grid_least_cstepsAndKeys_1.l0 n K j most b r c = K (leastF (fun s => decide (((popF 6 s : Nat) : Int) ≤ most)) (fun s => r.getD s 0) c (64 - c) b)
  | 0, c, b, h, _ => by omega
  | j + 1, c, b, h, hc => by
    rw [impl_grid_least_cstepsAndKeys_1.l0]
    by_cases cc : c < 64
    · have k1 : decide ((c : Int) < 64) = true := by rw [decide_eq_true_eq]; omega
      have k2 : 0 ≤ (c : Int) ∧ (c : Int) < (64 : Int) := by omega
      have wc : IntKind.wrap .i64 ((c : Int) + 1) = ((c + 1 : Nat) : Int) := by rw [w64s (by omega) (by omega)]; omega
      have ec : (c : Int).toNat = c := by omega
      have e : 64 - c = (64 - (c + 1)) + 1 := by omega
      rw [if_pos k1, if_pos k2, wc, ec, e]
      simp only [impl_stepsAndKeys_1_c0.F, ones_eq n cc, Option.bind_some, better_eq]
      rw [leastKeys_l0 j (c + 1) _ (by omega) (by omega), leastKeys_l0 j (c + 1) _ (by omega) (by omega)]
      conv => rhs; unfold leastF
      cases hq : decide (((popF 6 c : Nat) : Int) ≤ most) with
      | false => simp
      | true =>
        rw [if_pos rfl]
        by_cases q : 0 ≤ r.getD c 0 ∧ (b < 0 ∨ r.getD c 0 < b)
        · rw [if_pos (by rw [decide_eq_true_eq]; exact q), if_pos ⟨rfl, q⟩]
        · rw [if_neg (by rw [decide_eq_true_eq]; exact q), if_neg (fun h => q h.2)]
    · have k1 : ¬ decide ((c : Int) < 64) = true := by rw [decide_eq_true_eq]; omega
      have e : 64 - c = 0 := by omega
      rw [if_neg k1, e]
      rfl
theorem want0 {s : Nat} (hs : s < 64) (most : Int) : wantB 0 most s = decide (((popF 6 s : Nat) : Int) ≤ most) := by
  have := want06 hs
  simp only [wantB, Bool.and_eq_true] at this
  simp only [wantB, this.1, Bool.true_and]
theorem leastKeys_eq (hn : 100 ≤ n) {o : List Int} {x : Int} (most : Int) (ho : (o.length : Int) = N * 64) (hN : N ≤ 12) (hx : 0 ≤ x ∧ x < N) : impl_grid_least_cstepsAndKeys_1.F n (gridOf o) x most = some (leastF (wantB 0 most) (rowF o x) 0 64 (-1)) := by
  unfold impl_grid_least_cstepsAndKeys_1.F
  rw [if_pos ⟨hx.1, by omega, by omega⟩]
  have := leastKeys_l0 (n := n) (r := ((gridOf o).drop (0 + x.toNat * 64)).take 64) (most := most) (K := fun y3 => some y3) n 0 (-1) (by omega) (by omega)
  simp only [Int.natCast_zero] at this
  rw [this, if_pos (by omega)]
  congr 1
  exact leastF_congr 64 0 _ fun i _ hi => ⟨(want0 (by omega) most).symm, row_get ho hx (by omega)⟩
theorem told_eq (n : Nat) (x : Int) : spec_l4Told.F n x = impl_told.F n x := by
  unfold spec_l4Told.F impl_told.F spec_l1Most.F
  by_cases c : x > 0
  · have : ¬ (0 : Int) > x := by omega
    rw [if_pos (by rw [decide_eq_true_eq]; exact c), if_neg this]
    rfl
  · rw [if_neg (by rw [decide_eq_true_eq]; exact c)]
    by_cases c2 : (0 : Int) > x
    · rw [if_pos c2]; rfl
    · have : x = 0 := by omega
      subst this
      rfl
theorem told_some (n : Nat) (x : Int) : ∃ q, impl_told.F n x = some q := ⟨_, rfl⟩
/-- The table from the first state. -/
theorem first_same (hn : 2000 ≤ n) (h : VM N ds ks) : ∃ o, (o.length : Int) = N * 64 ∧ (∀ e ∈ o, -1 ≤ e ∧ e ≤ 768) ∧ spec_l4First.F n N ds ks = some o ∧ impl_fromStart.F n N ds ks = some (gridOf o) := by
  unfold spec_l4First.F impl_fromStart.F
  have h1 := h.n1
  have hkl := h.kl
  have hk := h.keys _ (getD_mem (l := ks) (i := 0) (d := (0 : Int)) (by omega))
  obtain ⟨s, hs⟩ : ∃ s : Nat, ks.getD 0 0 = (s : Int) := ⟨(ks.getD 0 0).toNat, by omega⟩
  obtain ⟨o, p1, p2, p3, p4⟩ := dist_same hn h (x := 0) (s := s) ⟨by omega, by omega⟩ (by omega)
  rw [if_pos ⟨by omega, by omega⟩, if_pos ⟨by omega, by omega⟩, hs, p3, p4]
  exact ⟨o, p1, p2, rfl, rfl⟩
end
end Go.Pv
