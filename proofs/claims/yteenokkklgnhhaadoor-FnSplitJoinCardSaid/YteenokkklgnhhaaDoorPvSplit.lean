/- Plain laws of texts: texts that are cut, marked, drawn, compared. -/
import Derived.Test.YteenokkklgnhhaaDoorPvJoin
import Derived.Test.YteenokkklgnhhaaDoorPvDraw
set_option linter.unusedVariables false
set_option linter.unusedSimpArgs false
set_option autoImplicit false
namespace Go.Pv
open Go Go.Fx Go.Pf

/-! ### Marks -/
theorem strOfInts_one (x : Int) : (strOfInts ([x] : List Int)).size = 1 := rfl
theorem markText_l0 {n : Nat} {K : ByteArray → Option ByteArray} (hK : ∀ s : ByteArray, s.size ≤ 100 → ∃ t, K s = some t) : ∀ (j f u : Nat) (s : ByteArray), u < 10 ^ j → j ≤ 18 → j < f → s.size + j ≤ 100 → ∃ t, laws_markText.l0 n K f (u : Int) s = some t
  | j, 0, u, s, _, _, h, _ => by omega
  | 0, f + 1, u, s, hu, _, _, hs => by
    unfold laws_markText.l0
    rw [if_neg (by simp at hu; simp; omega)]
    exact hK s (by omega)
  | j + 1, f + 1, u, s, hu, hj, hf, hs => by
    unfold laws_markText.l0
    by_cases c : (u : Int) > 0
    · have h18 : 10 ^ (j + 1) ≤ 10 ^ 18 := Nat.pow_le_pow_right (by omega) hj
      have h18' : (10 : Nat) ^ 18 = 1000000000000000000 := by decide
      have e1 : Int.tdiv (u : Int) 10 = ((u / 10 : Nat) : Int) := by
        rw [Int.tdiv_eq_ediv_of_nonneg (by omega)]; omega
      rw [if_pos (by simpa using c), strOfInts_one, if_pos (by omega), e1, w64s (by omega) (by omega)]
      exact markText_l0 hK j f (u / 10) _ (by rw [Nat.pow_succ] at hu; omega) (by omega) (by omega) (by rw [size_app, strOfInts_one]; omega)
    · rw [if_neg (by simpa using c)]
      exact hK s (by omega)
theorem markText_some {n : Nat} (hn : 30 ≤ n) {u : Nat} (hu : u < 10 ^ 18) : ∃ t, laws_markText.F n (u : Int) = some t := by
  unfold laws_markText.F
  split
  · exact ⟨_, rfl⟩
  · refine markText_l0 (fun s hs => ?_) 18 n u _ hu (by omega) (by omega) (by decide)
    rw [show (⟨#[109]⟩ : ByteArray).size = 1 from rfl, if_pos (by omega)]
    exact ⟨_, rfl⟩
/-- The mark with a number. -/
def mk (n u : Nat) : ByteArray := (laws_markText.F n (u : Int)).getD ByteArray.empty
theorem markText_val {n : Nat} (hn : 30 ≤ n) {u : Nat} (hu : u < 10 ^ 18) : laws_markText.F n (u : Int) = some (mk n u) := by
  obtain ⟨t, ht⟩ := markText_some hn hu
  unfold mk
  rw [ht]
  rfl
def marks (n : Nat) : Nat → Nat → List ByteArray
  | _, 0 => []
  | a, k + 1 => mk n a :: marks n (a + 1) k
theorem marks_length (n : Nat) : ∀ (k a : Nat), (marks n a k).length = k
  | 0, a => rfl
  | k + 1, a => by simp [marks, marks_length n k]
theorem marks_get (n : Nat) : ∀ (k a i : Nat), i < k → (marks n a k).getD i ByteArray.empty = mk n (a + i)
  | 0, a, i, h => by omega
  | k + 1, a, 0, h => by simp [marks]
  | k + 1, a, i + 1, h => by
    rw [marks, List.getD_cons_succ, marks_get n k (a + 1) i (by omega), show a + 1 + i = a + (i + 1) by omega]
theorem markStringS_l0 {n : Nat} (hn : 30 ≤ n) {m : Nat} (hm : m ≤ 4398046511104) {a : Nat} (ha : a ≤ 4398046511104) : ∀ (j i : Nat) (xs : List ByteArray), m - i < j → i ≤ m → xs.length = m → (∀ q, q < i → xs.getD q ByteArray.empty = mk n (a + q)) →
    laws_markStringS.l0 n (fun y2 y3 => some (y3, y2)) j xs ((a + i : Nat) : Int) i = some (((a + m : Nat) : Int), marks n a m)
  | 0, i, xs, h, _, _, _ => by omega
  | j + 1, i, xs, h, hi, hl, hx => by
    unfold laws_markStringS.l0
    by_cases c : (i : Int) < (xs.length : Int)
    · have hp : (10 : Nat) ^ 18 = 1000000000000000000 := by decide
      rw [if_pos (by simpa using c), markText_val hn (by omega), Option.bind_some, if_pos ⟨by omega, c⟩, w64s (by omega) (by omega), w64s (by omega) (by omega), show (((a + i : Nat) : Int) + 1) = ((a + (i + 1) : Nat) : Int) by omega, show ((i : Int) + 1) = ((i + 1 : Nat) : Int) by omega]
      refine markStringS_l0 hn hm ha j (i + 1) _ (by omega) (by omega) (by simp [hl]) fun q hq => ?_
      have hi' : i < xs.length := by omega
      by_cases e : q = i
      · subst e
        simp [List.getD_eq_getElem?_getD, hi']
      · have e2 : ¬ i = q := fun z => e z.symm
        have := hx q (by omega)
        simp only [List.getD_eq_getElem?_getD] at this ⊢
        simp [e2, this]
    · rw [if_neg (by simpa using c)]
      have hi' : i = m := by omega
      subst hi'
      congr 2
      apply List.ext_getElem (by rw [marks_length, hl])
      intro q h1 h2
      have g1 := hx q (by omega)
      have g2 := marks_get n i a q (by omega)
      rw [← g1] at g2
      simpa [List.getD_eq_getElem?_getD, h1, h2] using g2.symm
theorem markStringS_val {n : Nat} {xs : List ByteArray} (hm : xs.length ≤ 1048578) (hn : 1048600 ≤ n) : laws_markStringS.F n xs 1 = some (((1 + xs.length : Nat) : Int), marks n 1 xs.length) := by
  unfold laws_markStringS.F
  have := markStringS_l0 (n := n) (by omega) (m := xs.length) (by omega) (a := 1) (by omega) n 0 xs (by omega) (by omega) rfl (fun q h => by omega)
  exact this
theorem heldStringS_l0 {n : Nat} (hn : 30 ≤ n) {m : Nat} (hm : m ≤ 4398046511104) {a : Nat} (ha : a ≤ 4398046511104) : ∀ (j i : Nat), m - i < j → i ≤ m →
    laws_heldStringS.l0 n (fun y2 => some y2) j (marks n a m) ((a + i : Nat) : Int) i = some ((a + m : Nat) : Int)
  | 0, i, h, _ => by omega
  | j + 1, i, h, hi => by
    have hl := marks_length n m a
    unfold laws_heldStringS.l0
    by_cases c : (i : Int) < ((marks n a m).length : Int)
    · have hp : (10 : Nat) ^ 18 = 1000000000000000000 := by decide
      have hg := marks_get n m a i (by omega)
      rw [if_pos (by simpa using c), if_pos ⟨by omega, c⟩, markText_val hn (by omega), Option.bind_some, Int.toNat_natCast, hg, if_neg (by simp), w64s (by omega) (by omega), w64s (by omega) (by omega), show (((a + i : Nat) : Int) + 1) = ((a + (i + 1) : Nat) : Int) by omega, show ((i : Int) + 1) = ((i + 1 : Nat) : Int) by omega]
      exact heldStringS_l0 hn hm ha j (i + 1) (by omega) (by omega)
    · rw [if_neg (by simpa using c), show i = m by omega]
theorem heldStringS_val {n m : Nat} (hm : m ≤ 1048578) (hn : 1048600 ≤ n) : laws_heldStringS.F n (marks n 1 m) 1 = some ((1 + m : Nat) : Int) := by
  unfold laws_heldStringS.F
  exact heldStringS_l0 (n := n) (by omega) (m := m) (by omega) (a := 1) (by omega) n 0 (by omega) (by omega)

/-! ### A text is cut at each byte -/
def splitF (s sep : ByteArray) : List ByteArray × Bool :=
  if s.size > 4000 ∨ ¬ sep.size = 1 then ([], false) else ((spl ((by_ sep).getD 0 0) (by_ s)).map fun l => (⟨l.toArray⟩ : ByteArray), true)
theorem specSplit_val {n : Nat} {s sep : ByteArray} (hs : s.size ≤ 1048576) (hn : 1048600 ≤ n) : spec_SplitString.F n s sep = some (splitF s sep) := by
  unfold spec_SplitString.F splitF
  by_cases h1 : sep.size = 1
  · rw [if_neg (by simp [h1])]
    by_cases h2 : s.size > 4000
    · rw [if_pos (by simp; omega), if_pos (.inl h2)]
    · obtain ⟨c, hc⟩ : ∃ c, by_ sep = [c] := List.length_eq_one_iff.1 (by rw [← by_size]; exact h1)
      have hb : bAt sep 0 = (c.toNat : Int) := by unfold bAt; rw [toList_by, hc]; rfl
      rw [if_neg (by simp; omega), if_pos ⟨by omega, by omega⟩, hb, l1Split_val c hs (by omega), Option.bind_some, if_neg (by simp only [not_or, Classical.not_not]; exact ⟨h2, h1⟩), hc]
      rfl
  · rw [if_pos (by simp; omega), if_pos (.inr h1)]
theorem implSplit_val {n : Nat} {s sep : ByteArray} (hs : s.size ≤ 1048576) (hn : 1048600 ≤ n) : impl_SplitString.F n s sep = some (splitF s sep) := by
  unfold impl_SplitString.F splitF
  by_cases h2 : s.size > 4000
  · rw [if_pos (by simp; omega), if_pos (.inl h2)]
  · rw [if_neg (by simp; omega)]
    by_cases h1 : sep.size = 1
    · obtain ⟨c, hc⟩ : ∃ c, by_ sep = [c] := List.length_eq_one_iff.1 (by rw [← by_size]; exact h1)
      have hsp : strSplit.F n s sep = some ((spl c (by_ s)).map fun l => (⟨l.toArray⟩ : ByteArray)) := by
        unfold strSplit.F
        rw [if_pos ⟨by omega, by omega⟩]
        congr 1
        apply map_by_inj
        rw [splitB_spl hc, List.map_map]
        have : (by_ ∘ fun l : List UInt8 => (⟨l.toArray⟩ : ByteArray)) = id := funext fun l => by_mk l
        rw [this, List.map_id]
      rw [if_neg (by simp [h1]), hsp, Option.bind_some, if_neg (by simp only [not_or, Classical.not_not]; exact ⟨h2, h1⟩), hc]
      rfl
    · rw [if_pos (by simp; omega), if_pos (.inr h1)]
theorem splitF_length {s sep : ByteArray} (hs : s.size ≤ 1048576) : (splitF s sep).1.length ≤ 1048577 := by
  unfold splitF
  split
  · simp
  · have := spl_length ((by_ sep).getD 0 0) (by_ s)
    have hz := by_size s
    simp only [List.length_map]
    omega
theorem lawSplitString (s sep : ByteArray) : ∃ n, laws_FnExactSplitString.F n s sep = some true := by
  refine ⟨1048600, ?_⟩
  unfold laws_FnExactSplitString.F
  split
  · rfl
  · split
    · rfl
    · rename_i h _
      have hs : s.size ≤ 1048576 := by simp at h; omega
      have hl := splitF_length (sep := sep) hs
      have hd1 : ¬ ((1 : Int) + ((splitF s sep).1.length : Int) < 0) := by omega
      simp only [specSplit_val hs (Nat.le_refl _), implSplit_val hs (Nat.le_refl _), Option.bind_some, eqStringS_self (xs := (splitF s sep).1) (show (splitF s sep).1.length ≤ 4398046511104 by omega) (show (splitF s sep).1.length < 1048600 by omega),
        markStringS_val (n := 1048600) (xs := (splitF s sep).1) (by omega) (by omega), heldStringS_val (n := 1048600) (m := (splitF s sep).1.length) (by omega) (by omega)]
      simp [hd1]

/-! ### What is drawn -/
section
variable {n : Nat} {cd : List Int} {a s : Int}
theorem of_ok (hb : Bytes cd) (h0 : 0 ≤ a) (h1 : a ≤ 1152921504606846000) {l : List ByteArray} (hl : l ≠ []) : Dr cd a 2 (spec_l1Cur_of.F n cd a s l) fun v => v ∈ l := by
  unfold spec_l1Cur_of.F
  obtain ⟨a1, s1, v, e, h2, h3, h4⟩ := pick_ok (n := n) (s := s) hb h0 h1 (l.length : Int)
  rw [e, Option.bind_some]
  have hpos : 0 < l.length := List.length_pos_iff.2 hl
  have hlt : v < (l.length : Int) := by
    rcases Int.lt_or_le 1 (l.length : Int) with c | c
    · exact h4.2.1 c
    · have := h4.2.2 c
      omega
  simp only
  rw [if_pos ⟨h4.1, hlt⟩]
  refine ⟨a1, s1, _, rfl, h2, h3, ?_⟩
  have hv : v.toNat < l.length := by omega
  simp [List.getD_eq_getElem?_getD, hv]
theorem any1_ok (hb : Bytes cd) (h0 : 0 ≤ a) (h1 : a ≤ 1152921504606846000) : Dr cd a 2 (spec_l1Cur_any1.F n cd a s) fun v => v.size ≤ 10 := by
  unfold spec_l1Cur_any1.F
  obtain ⟨a1, s1, v, e, h2, h3, h4⟩ := of_ok (n := n) (s := s) hb h0 h1 (l := [ByteArray.empty, (⟨#[97]⟩ : ByteArray), (⟨#[97, 44, 98]⟩ : ByteArray), (⟨#[115, 111, 109, 101, 32, 119, 111, 114, 100, 115]⟩ : ByteArray), (⟨#[120, 35, 121]⟩ : ByteArray), (⟨#[45, 49, 50]⟩ : ByteArray), (⟨#[0, 255]⟩ : ByteArray), (⟨#[44, 44]⟩ : ByteArray), (⟨#[48]⟩ : ByteArray)]) (by simp)
  rw [e, Option.bind_some]
  refine ⟨a1, s1, v, rfl, h2, h3, ?_⟩
  have hall : ∀ x ∈ ([ByteArray.empty, (⟨#[97]⟩ : ByteArray), (⟨#[97, 44, 98]⟩ : ByteArray), (⟨#[115, 111, 109, 101, 32, 119, 111, 114, 100, 115]⟩ : ByteArray), (⟨#[120, 35, 121]⟩ : ByteArray), (⟨#[45, 49, 50]⟩ : ByteArray), (⟨#[0, 255]⟩ : ByteArray), (⟨#[44, 44]⟩ : ByteArray), (⟨#[48]⟩ : ByteArray)] : List ByteArray), x.size ≤ 10 := by
    intro x hx
    simp only [List.mem_cons, List.mem_nil_iff, or_false] at hx
    rcases hx with rfl | rfl | rfl | rfl | rfl | rfl | rfl | rfl | rfl <;> decide
  exact hall v h4
theorem drawSplit_ok (hb : Bytes cd) : ∃ x y, spec_DrawSplitString.F n cd = some (x, y) ∧ x.size ≤ 10 := by
  unfold spec_DrawSplitString.F
  obtain ⟨a1, s1, v1, e1, h1, h2, h3⟩ := any1_ok (n := n) (s := 0) hb (Int.le_refl 0) (by omega)
  rw [e1, Option.bind_some]
  obtain ⟨a2, s2, v2, e2, _, _, _⟩ := of_ok (n := n) (s := s1) (a := a1) hb (by omega) (by omega) (l := [(⟨#[44]⟩ : ByteArray), (⟨#[44]⟩ : ByteArray), (⟨#[32]⟩ : ByteArray), ByteArray.empty, (⟨#[44, 44]⟩ : ByteArray)]) (by simp)
  simp only [e2, Option.bind_some]
  exact ⟨v1, v2, rfl, h3⟩
theorem drawLess_ok (hb : Bytes cd) : ∃ x y, spec_DrawLessString.F n cd = some (x, y) := by
  unfold spec_DrawLessString.F
  obtain ⟨a1, s1, v1, e1, h1, h2, h3⟩ := any1_ok (n := n) (s := 0) hb (Int.le_refl 0) (by omega)
  rw [e1, Option.bind_some]
  obtain ⟨a2, s2, v2, e2, _, _, _⟩ := any1_ok (n := n) (s := s1) (a := a1) hb (by omega) (by omega)
  simp only [e2, Option.bind_some]
  exact ⟨v1, v2, rfl⟩
theorem strOfInts_size (l : List Int) : (strOfInts l).size = l.length := by
  show ((l.map fun n => UInt8.ofNat n.toNat).toArray).size = _
  simp
theorem drawJoin_l0 (hb : Bytes cd) {m : Nat} {K : List Int → Int → Int → List ByteArray → Option (List ByteArray × ByteArray)}
    (hK : ∀ (a s : Int) (l : List ByteArray), 0 ≤ a → a ≤ 1152921504606790000 → l.length ≤ 1000 → (∀ x ∈ l, x.size ≤ 5000) → ∃ xs y, K cd a s l = some (xs, y) ∧ xs.length ≤ 1001 ∧ ∀ x ∈ xs, x.size ≤ 5000) :
    ∀ (j i : Nat) (a s : Int) (l : List ByteArray), m - i < j → m ≤ 1000 → l.length ≤ i → i ≤ m → 0 ≤ a → a ≤ 2 * i + 10 → (∀ x ∈ l, x.size ≤ 5000) → ∃ xs y, spec_DrawJoinStrings.l0 n K j cd a s l (m : Int) i = some (xs, y) ∧ xs.length ≤ 1001 ∧ ∀ x ∈ xs, x.size ≤ 5000
  | 0, i, a, s, l, h, _, _, _, _, _, _ => by omega
  | j + 1, i, a, s, l, h, hm, hl, hi, h0, h1, hx => by
    unfold spec_DrawJoinStrings.l0
    by_cases c : (i : Int) < (m : Int)
    · obtain ⟨a1, s1, v1, e1, g1, g2, g3⟩ := any1_ok (n := n) (s := s) (a := a) hb h0 (by omega)
      rw [if_pos (by simpa using c), e1, Option.bind_some]
      simp only
      rw [if_pos (by simp; omega), w64s (by omega) (by omega), show ((i : Int) + 1) = ((i + 1 : Nat) : Int) by omega]
      refine drawJoin_l0 hb hK j (i + 1) a1 s1 _ (by omega) hm (by simp; omega) (by omega) (by omega) (by omega) fun x hx' => ?_
      rcases List.mem_append.1 hx' with hx' | hx'
      · exact hx x hx'
      · simp only [List.mem_singleton] at hx'
        subst hx'
        omega
    · rw [if_neg (by simpa using c)]
      exact hK a s l h0 (by omega) (by omega) hx
theorem drawJoin_ok (hn : 2000 ≤ n) (hb : Bytes cd) : ∃ xs y, spec_DrawJoinStrings.F n cd = some (xs, y) ∧ xs.length ≤ 1001 ∧ ∀ x ∈ xs, x.size ≤ 5000 := by
  unfold spec_DrawJoinStrings.F
  obtain ⟨a1, s1, v1, e1, h1, h2, h3⟩ := pick_ok (n := n) (s := 0) hb (Int.le_refl 0) (by omega) 4
  rw [e1, Option.bind_some]
  simp only
  have hv := h3.2.1 (by omega)
  rw [show v1 = ((v1.toNat : Nat) : Int) by omega, show (0 : Int) = ((0 : Nat) : Int) from rfl]
  refine drawJoin_l0 hb ?_ n 0 a1 s1 [] (by omega) (by omega) (by simp) (by omega) (by omega) (by omega) (by simp)
  intro a s l g0 g1 g2 g3
  obtain ⟨a2, s2, v2, e2, k1, k2, _⟩ := one_ok (n := n) (s := s) (a := a) hb g0 (by omega) 20
  simp only [e2, Option.bind_some]
  split
  · obtain ⟨a3, s3, v3, e3, k3, k4, k5⟩ := pick_ok (n := n) (s := s2) (a := a2) hb (by omega) (by omega) 20
    have hv3 := k5.2.1 (by omega)
    have hv4 := k5.1
    simp only [e3, Option.bind_some]
    rw [w64s (x := 3990 + v3) (by omega) (by omega), if_pos ⟨by omega, by omega, by omega⟩, if_pos (by simp; omega)]
    obtain ⟨a4, s4, v4, e4, _, _, _⟩ := of_ok (n := n) (s := s3) (a := a3) hb (by omega) (by omega) (l := [(⟨#[44]⟩ : ByteArray), (⟨#[59]⟩ : ByteArray), (⟨#[59]⟩ : ByteArray), ByteArray.empty, (⟨#[97, 98]⟩ : ByteArray)]) (by simp)
    rw [e4, Option.bind_some]
    refine ⟨_, _, rfl, by simp; omega, fun x hx => ?_⟩
    rcases List.mem_append.1 hx with hx | hx
    · exact g3 x hx
    · simp only [List.mem_singleton] at hx
      subst hx
      rw [strOfInts_size, List.length_replicate]
      omega
  · obtain ⟨a4, s4, v4, e4, _, _, _⟩ := of_ok (n := n) (s := s2) (a := a2) hb (by omega) (by omega) (l := [(⟨#[44]⟩ : ByteArray), (⟨#[59]⟩ : ByteArray), (⟨#[59]⟩ : ByteArray), ByteArray.empty, (⟨#[97, 98]⟩ : ByteArray)]) (by simp)
    rw [e4, Option.bind_some]
    exact ⟨_, _, rfl, by omega, g3⟩
end
theorem less_asym : ∀ x y : List UInt8, Op.bytesLess x y = true → Op.bytesLess y x = false
  | [], [], h => by simp [Op.bytesLess] at h
  | [], b :: y, h => by simp [Op.bytesLess]
  | a :: x, [], h => by simp [Op.bytesLess] at h
  | a :: x, b :: y, h => by
    simp only [Op.bytesLess] at h ⊢
    by_cases e : a = b
    · subst e
      have ih := less_asym x y
      simp_all
    · have e2 : ¬ b = a := fun z => e z.symm
      have hab : a.toNat ≠ b.toNat := fun z => e (UInt8.toNat_inj.1 z)
      simp [e, e2, UInt8.lt_iff_toNat_lt] at h ⊢
      omega
/-- What is cut and joined again. -/
theorem join_split {n : Nat} {x y : ByteArray} (hx : x.size ≤ 4000) (hy : y.size = 1) (hn : 1048600 ≤ n) : impl_JoinStrings.F n (splitF x y).1 y = some (x, true) := by
  obtain ⟨c, hc⟩ : ∃ c, by_ y = [c] := List.length_eq_one_iff.1 (by rw [← by_size]; exact hy)
  have hz := by_size x
  have hsp : (splitF x y).1 = (spl c (by_ x)).map fun l => (⟨l.toArray⟩ : ByteArray) := by
    unfold splitF
    rw [if_neg (by simp only [not_or, Classical.not_not]; exact ⟨by omega, hy⟩), hc]
    rfl
  have hmm : (splitF x y).1.map by_ = spl c (by_ x) := by
    rw [hsp, List.map_map]
    have : (by_ ∘ fun l : List UInt8 => (⟨l.toArray⟩ : ByteArray)) = id := funext fun l => by_mk l
    rw [this, List.map_id]
  have hjoin := join_spl c (by_ x)
  have hfree : free c (splitF x y).1 := by
    intro z hz'
    exact spl_free c (by_ x) (by_ z) (by rw [← hmm]; exact List.mem_map_of_mem hz')
  generalize hl : (splitF x y).1 = l at *
  cases l with
  | nil => exact absurd (by rw [← hmm]; rfl) (spl_ne c (by_ x))
  | cons p l =>
    have hj : by_ (tailJ y l p) = by_ x := by
      rw [tailJ_by, ← Lib.join_cons, ← List.map_cons, hmm, hc, hjoin]
    have hjx : tailJ y l p = x := ba_ext hj
    have hts := tailJ_size hy l p
    rw [hjx] at hts
    have hlen : (p :: l).length = l.length + 1 := rfl
    have htot : tot (p :: l) = p.size + tot l := rfl
    rw [implJoin_val (by omega) (fun z hz' => by have := tot_mem hz'; omega) hn]
    unfold joinF
    dsimp only
    rw [hc, if_pos ⟨hy, hfree, by omega⟩, hjx]
theorem splitJoin_c11 {n : Nat} {x y : ByteArray} (hx : x.size ≤ 10) (hn : 1048600 ≤ n) : laws_FnSplitJoin.c11 n x y (splitF x y).1 (splitF x y).2 = some true := by
  unfold laws_FnSplitJoin.c11
  by_cases h1 : y.size = 1
  · rw [if_neg (by simp [h1]), join_split (by omega) h1 hn, Option.bind_some]
    have : (splitF x y).2 = true := by
      unfold splitF
      rw [if_neg (by simp only [not_or, Classical.not_not]; exact ⟨by omega, h1⟩)]
    rw [if_pos this]
    simp
  · rw [if_pos (by simp; omega)]
    have : splitF x y = ([], false) := by
      unfold splitF
      rw [if_pos (.inr h1)]
    rw [this]
    simp
theorem lawSplitJoin (cd : List Int) (hw : ∀ x ∈ cd, (Lit.int .u8 x).wf = true) : ∃ n, laws_FnSplitJoin.F n cd = some true := by
  have hb : Bytes cd := fun x hx => by
    have := hw x hx
    simp only [Lit.wf, Bool.and_eq_true, decide_eq_true_eq] at this
    have h1 : IntKind.min .u8 = 0 := by decide
    have h2 : IntKind.max .u8 = 255 := by decide
    omega
  refine ⟨1048600, ?_⟩
  unfold laws_FnSplitJoin.F laws_vBig.F
  rw [Option.bind_some]
  split
  · rfl
  · obtain ⟨x, y, e1, h1⟩ := drawSplit_ok (n := 1048600) hb
    obtain ⟨xs, z, e2, h2, h3⟩ := drawJoin_ok (n := 1048600) (by omega) hb
    obtain ⟨u, v, e3⟩ := drawLess_ok (n := 1048600) hb
    have h4 : ∀ q ∈ xs, q.size ≤ 1048576 := fun q hq => by have := h3 q hq; omega
    rw [e1, Option.bind_some]
    simp only [implSplit_val (s := x) (sep := y) (show x.size ≤ 1048576 by omega) (Nat.le_refl _), Option.bind_some, e2, implJoin_val (sep := z) (show xs.length ≤ 1048576 by omega) h4 (Nat.le_refl _)]
    unfold laws_FnSplitJoin.c7
    simp only [specJoin_val (sep := z) (show xs.length ≤ 1048576 by omega) h4 (Nat.le_refl _), Option.bind_some, e3, impl_LessString.F, spec_LessString.F, splitJoin_c11 h1 (Nat.le_refl _)]
    cases hl : Op.bytesLess u.toList v.toList with
    | false => simp
    | true =>
      have := less_asym _ _ hl
      simp [this]
end Go.Pv
