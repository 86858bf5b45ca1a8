/- Plain laws: rows of doors in order, each door once. -/
import Derived.Test.YtdejcakkibabcaaPvNode
set_option linter.unusedVariables false
set_option linter.unusedSimpArgs false
set_option autoImplicit false
namespace Go.Pv
open Go Go.Fx Go.Pf

abbrev Door := Int × Int × Int
theorem lex_iff (p q : Door) : lex3 p q = true ↔ (p.1 < q.1 ∨ (p.1 = q.1 ∧ (p.2.1 < q.2.1 ∨ (p.2.1 = q.2.1 ∧ p.2.2 < q.2.2)))) := by
  unfold lex3
  simp only [Bool.or_eq_true, Bool.and_eq_true, decide_eq_true_eq]
theorem lex_not (p q : Door) : lex3 p q = false ↔ ¬ (p.1 < q.1 ∨ (p.1 = q.1 ∧ (p.2.1 < q.2.1 ∨ (p.2.1 = q.2.1 ∧ p.2.2 < q.2.2)))) := by
  rw [← lex_iff]
  cases lex3 p q <;> simp
theorem lex_irrefl (p : Door) : lex3 p p = false := by rw [lex_not]; omega
theorem lex_trans {p q r : Door} (h1 : lex3 p q = true) (h2 : lex3 q r = true) : lex3 p r = true := by
  rw [lex_iff] at *
  omega
theorem lex_le {p q r : Door} (h1 : lex3 p q = true) (h2 : lex3 r q = false) : lex3 p r = true := by
  rw [lex_iff] at *
  rw [lex_not] at h2
  omega
theorem lex_tri {p q : Door} (h1 : lex3 p q = false) (h2 : lex3 q p = false) : p = q := by
  rw [lex_not] at *
  obtain ⟨a, b, c⟩ := p
  obtain ⟨a', b', c'⟩ := q
  simp only [Prod.mk.injEq] at *
  omega
def LexS (l : List Door) : Prop := l.Pairwise fun p q => lex3 p q = true
theorem lex_ext : ∀ {l m : List Door}, LexS l → LexS m → (∀ x, x ∈ l ↔ x ∈ m) → l = m
  | [], [], _, _, _ => rfl
  | [], y :: m, _, _, h => by have := (h y).2 (by simp); simp at this
  | x :: l, [], _, _, h => by have := (h x).1 (by simp); simp at this
  | x :: l, y :: m, hl, hm, h => by
    have hl' := List.pairwise_cons.1 hl
    have hm' := List.pairwise_cons.1 hm
    have e : x = y := by
      rcases List.mem_cons.1 ((h x).1 (by simp)) with h1 | h1
      · exact h1
      · rcases List.mem_cons.1 ((h y).2 (by simp)) with h2 | h2
        · exact h2.symm
        · have a := hm'.1 x h1
          have b := hl'.1 y h2
          have := lex_trans a b
          rw [lex_irrefl] at this
          cases this
    subst e
    refine congrArg _ (lex_ext hl'.2 hm'.2 fun z => ?_)
    constructor
    · intro hz
      rcases List.mem_cons.1 ((h z).1 (List.mem_cons_of_mem _ hz)) with h1 | h1
      · subst h1
        have := hl'.1 z hz
        rw [lex_irrefl] at this
        cases this
      · exact h1
    · intro hz
      rcases List.mem_cons.1 ((h z).2 (List.mem_cons_of_mem _ hz)) with h1 | h1
      · subst h1
        have := hm'.1 z hz
        rw [lex_irrefl] at this
        cases this
      · exact h1
theorem lexS_of {l : List Door} (h : ∀ i, i + 1 < l.length → lex3 (l.getD i (0, 0, 0)) (l.getD (i + 1) (0, 0, 0)) = true) : LexS l := by
  induction l with
  | nil => exact List.Pairwise.nil
  | cons x l ih =>
    have ih' := ih fun i hi => by
      have := h (i + 1) (by simpa using hi)
      simpa using this
    refine List.pairwise_cons.2 ⟨?_, ih'⟩
    cases l with
    | nil => intro y hy; simp at hy
    | cons z l =>
      have hz : lex3 x z = true := by
        have := h 0 (by simp)
        simpa using this
      intro y hy
      rcases List.mem_cons.1 hy with rfl | hy
      · exact hz
      · exact lex_trans hz ((List.pairwise_cons.1 ih').1 y hy)
theorem lexS_at {l : List Door} (h : LexS l) : ∀ i, i + 1 < l.length → lex3 (l.getD i (0, 0, 0)) (l.getD (i + 1) (0, 0, 0)) = true := by
  intro i hi
  have := List.pairwise_iff_getElem.1 h i (i + 1) (by omega) hi (by omega)
  rw [List.getD_eq_getElem?_getD, List.getD_eq_getElem?_getD, List.getElem?_eq_getElem (by omega), List.getElem?_eq_getElem hi]
  exact this
/-! ### Equal neighbours once -/
def ddF (p : Door) : List Door → List Door
  | [] => []
  | y :: l => if y = p then ddF p l else y :: ddF y l
def dd : List Door → List Door
  | [] => []
  | x :: l => x :: ddF x l
theorem ddF_sub : ∀ (l : List Door) (p x : Door), x ∈ ddF p l → x ∈ l
  | [], p, x, h => by simp [ddF] at h
  | y :: l, p, x, h => by
    unfold ddF at h
    split at h
    · exact List.mem_cons_of_mem _ (ddF_sub l p x h)
    · rcases List.mem_cons.1 h with rfl | h
      · simp
      · exact List.mem_cons_of_mem _ (ddF_sub l y x h)
theorem ddF_sup : ∀ (l : List Door) (p x : Door), x ∈ l → x = p ∨ x ∈ ddF p l
  | [], p, x, h => by simp at h
  | y :: l, p, x, h => by
    unfold ddF
    by_cases e : y = p
    · rw [if_pos e]
      rcases List.mem_cons.1 h with rfl | h
      · exact .inl e
      · exact ddF_sup l p x h
    · rw [if_neg e]
      rcases List.mem_cons.1 h with rfl | h
      · exact .inr (by simp)
      · rcases ddF_sup l y x h with rfl | h
        · exact .inr (by simp)
        · exact .inr (List.mem_cons_of_mem _ h)
theorem ddF_len : ∀ (l : List Door) (p : Door), (ddF p l).length ≤ l.length
  | [], p => Nat.le_refl _
  | y :: l, p => by
    unfold ddF
    split
    · have := ddF_len l p
      simp only [List.length_cons]
      omega
    · have := ddF_len l y
      simp only [List.length_cons]
      omega
theorem dd_mem {l : List Door} {x : Door} : x ∈ dd l ↔ x ∈ l := by
  cases l with
  | nil => rfl
  | cons y l =>
    unfold dd
    constructor
    · intro h
      rcases List.mem_cons.1 h with rfl | h
      · simp
      · exact List.mem_cons_of_mem _ (ddF_sub l y x h)
    · intro h
      rcases List.mem_cons.1 h with rfl | h
      · simp
      · rcases ddF_sup l y x h with rfl | h
        · simp
        · exact List.mem_cons_of_mem _ h
theorem dd_len (l : List Door) : (dd l).length ≤ l.length := by
  cases l with
  | nil => exact Nat.le_refl _
  | cons y l =>
    have := ddF_len l y
    unfold dd
    simp only [List.length_cons]
    omega
theorem ddF_sorted : ∀ (l : List Door) (p : Door), (p :: l).Pairwise (fun a b => lex3 b a = false) → LexS (p :: ddF p l)
  | [], p, h => List.pairwise_singleton _ _
  | y :: l, p, h => by
    have h1 := List.pairwise_cons.1 h
    have h2 := List.pairwise_cons.1 h1.2
    unfold ddF
    by_cases e : y = p
    · rw [if_pos e]
      refine ddF_sorted l p (List.pairwise_cons.2 ⟨fun z hz => h1.1 z (List.mem_cons_of_mem _ hz), h2.2⟩)
    · rw [if_neg e]
      have ih := ddF_sorted l y h1.2
      have hpy : lex3 p y = true := by
        cases hb : lex3 p y with
        | true => rfl
        | false => exact absurd (lex_tri hb (h1.1 y (by simp))).symm e
      refine List.pairwise_cons.2 ⟨?_, ih⟩
      intro z hz
      rcases List.mem_cons.1 hz with rfl | hz
      · exact hpy
      · exact lex_trans hpy ((List.pairwise_cons.1 ih).1 z hz)
theorem dd_sorted {l : List Door} (h : l.Pairwise (fun a b => lex3 b a = false)) : LexS (dd l) := by
  cases l with
  | nil => exact List.Pairwise.nil
  | cons y l => exact ddF_sorted l y h
end Go.Pv
