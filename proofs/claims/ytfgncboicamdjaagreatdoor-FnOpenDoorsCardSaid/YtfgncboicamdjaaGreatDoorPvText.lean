/- Plain laws: texts as lists of bytes: cut at a byte, joined, searched. -/
import Derived.Test.YtfgncboicamdjaaGreatDoorGwT
import Derived.Lib.CountLaws
import Derived.Lib.JoinLaws
import Derived.Lib.AtoiAll
set_option linter.unusedVariables false
set_option linter.unusedSimpArgs false
set_option autoImplicit false
namespace Go.Pv
open Go

/-- The bytes of a text. -/
abbrev by_ (s : ByteArray) : List UInt8 := s.data.toList
theorem ba_ext {a b : ByteArray} (h : by_ a = by_ b) : a = b := by
  obtain ⟨⟨x⟩⟩ := a
  obtain ⟨⟨y⟩⟩ := b
  have h' : x = y := h
  rw [h']
theorem by_mk (l : List UInt8) : by_ (⟨l.toArray⟩ : ByteArray) = l := rfl
theorem mk_by (s : ByteArray) : (⟨(by_ s).toArray⟩ : ByteArray) = s := ba_ext (by_mk _)
theorem by_append (a b : ByteArray) : by_ (a ++ b) = by_ a ++ by_ b := by
  obtain ⟨⟨x⟩⟩ := a
  obtain ⟨⟨y⟩⟩ := b
  simp [by_, ByteArray.data_append]
theorem by_size (s : ByteArray) : s.size = (by_ s).length := Lib.size_eq s
theorem by_extract (s : ByteArray) (a b : Nat) : by_ (s.extract a b) = ((by_ s).drop a).take (b - a) := Lib.extract_data s a b
theorem by_rest (s : ByteArray) (a : Nat) : by_ (s.extract a s.size) = (by_ s).drop a := by
  rw [by_extract, by_size, List.take_of_length_le]
  simp
theorem toList_by (s : ByteArray) : s.toList = by_ s := Lib.toList_data s
theorem eq_bytes (a b : ByteArray) : (a.toList == b.toList) = decide (a = b) := by
  rw [toList_by, toList_by]
  by_cases h : a = b
  · subst h; simp
  · have : ¬ by_ a = by_ b := fun e => h (ba_ext e)
    rw [decide_eq_false h]
    simpa using this

/-! ### A text is searched for a byte -/
theorem index_one (c : UInt8) : ∀ (l : List UInt8), (Lib.index l [c] = -1 ∧ c ∉ l) ∨ ∃ (i : Nat), Lib.index l [c] = i ∧ ∃ r, l = l.take i ++ c :: r ∧ l.drop (i + 1) = r ∧ c ∉ l.take i ∧ i < l.length
  | [] => .inl ⟨rfl, by simp⟩
  | b :: l => by
    unfold Lib.index
    by_cases hb : b = c
    · subst hb
      right
      refine ⟨0, ?_, l, by simp, by simp, by simp, by simp⟩
      simp [List.isPrefixOf]
    · have hp : ([c].isPrefixOf (b :: l)) = false := by
        simp [List.isPrefixOf]
        exact fun h => hb h.symm
      rw [hp]
      rcases index_one c l with ⟨h1, h2⟩ | ⟨i, h1, r, h2, h3, h4, h5⟩
      · left
        rw [h1]
        refine ⟨by simp, ?_⟩
        simp only [List.mem_cons, not_or]
        exact ⟨fun h => hb h.symm, h2⟩
      · right
        refine ⟨i + 1, ?_, r, ?_, ?_, ?_, ?_⟩
        · rw [h1]
          have : ¬ (((i : Int) == -1) = true) := by simp
          simp only [Bool.false_eq_true, if_false, if_neg this]
          omega
        · rw [List.take_succ_cons, List.cons_append, ← h2]
        · rw [List.drop_succ_cons]; exact h3
        · rw [List.take_succ_cons, List.mem_cons, not_or]
          exact ⟨fun h => hb h.symm, h4⟩
        · simp; exact h5
theorem contains_one (l : List UInt8) (c : UInt8) : Lib.contains l [c] = decide (c ∈ l) := by
  unfold Lib.contains
  rcases index_one c l with ⟨h1, h2⟩ | ⟨i, h1, r, h2, _⟩
  · rw [h1]; simp [h2]
  · have hm : c ∈ l := by rw [h2]; simp
    rw [h1]; simp [hm]
theorem cut_one (l : List UInt8) (c : UInt8) : (Lib.cut l [c]).1 = l.takeWhile fun b => b != c := by
  unfold Lib.cut
  rcases index_one c l with ⟨h1, h2⟩ | ⟨i, h1, r, h2, _, h4, _⟩
  · rw [h1, if_neg (by omega)]
    symm
    have key : ∀ q : List UInt8, c ∉ q → (q.takeWhile fun b => b != c) = q := by
      intro q
      induction q with
      | nil => intro _; rfl
      | cons b q ih =>
        intro h
        simp only [List.mem_cons, not_or] at h
        have hb : (fun b : UInt8 => b != c) b = true := by simpa using fun e => h.1 e.symm
        rw [List.takeWhile_cons, if_pos hb, ih h.2]
    exact key l h2
  · rw [h1, if_pos (by omega)]
    simp only [Int.toNat_natCast]
    conv => rhs; rw [h2]
    rw [List.takeWhile_append_of_pos]
    · simp
    · intro b hb
      simp
      exact fun e => h4 (e ▸ hb)

/-! ### Cut at a byte -/
/-- The parts of a text between bytes. -/
def spl (c : UInt8) : List UInt8 → List (List UInt8)
  | [] => [[]]
  | b :: l => if b = c then [] :: spl c l else match spl c l with
    | p :: ps => (b :: p) :: ps
    | [] => [[b]]
theorem spl_ne (c : UInt8) : ∀ l, spl c l ≠ []
  | [] => by simp [spl]
  | b :: l => by
    simp only [spl]
    split
    · simp
    · split <;> simp
/-- The first part begins with more bytes. -/
def pre (p : List UInt8) : List (List UInt8) → List (List UInt8)
  | x :: xs => (p ++ x) :: xs
  | [] => [p]
theorem pre_nil {l : List (List UInt8)} (h : l ≠ []) : pre [] l = l := by cases l with
  | nil => exact absurd rfl h
  | cons x xs => rfl
theorem pre_snoc (p : List UInt8) (b : UInt8) {l : List (List UInt8)} (h : l ≠ []) : pre p (match (generalizing := false) l with | x :: xs => (b :: x) :: xs | [] => [[b]]) = pre (p ++ [b]) l := by
  cases l with
  | nil => exact absurd rfl h
  | cons x xs => simp [pre]
theorem spl_step (c : UInt8) (p : List UInt8) (b : UInt8) (l : List UInt8) : pre p (spl c (b :: l)) = if b = c then p :: spl c l else pre (p ++ [b]) (spl c l) := by
  simp only [spl]
  split
  · simp [pre]
  · exact pre_snoc p b (spl_ne c l)
theorem spl_none (c : UInt8) : ∀ (l : List UInt8), c ∉ l → spl c l = [l]
  | [], _ => rfl
  | b :: l, h => by
    simp only [List.mem_cons, not_or] at h
    simp only [spl, if_neg (fun e : b = c => h.1 e.symm), spl_none c l h.2]
theorem spl_cut (c : UInt8) : ∀ (p r : List UInt8), c ∉ p → spl c (p ++ c :: r) = p :: spl c r
  | [], r, _ => by simp [spl]
  | b :: p, r, h => by
    simp only [List.mem_cons, not_or] at h
    simp only [List.cons_append, spl, if_neg (fun e : b = c => h.1 e.symm), spl_cut c p r h.2]
theorem spl_head (c : UInt8) (l : List UInt8) : (spl c l).head? = some (l.takeWhile fun b => b != c) := by
  induction l with
  | nil => rfl
  | cons b l ih =>
    simp only [spl]
    by_cases h : b = c
    · simp [h]
    · rw [if_neg h]
      have hb : (b != c) = true := by simp [h]
      rw [List.takeWhile_cons, if_pos hb]
      cases hs : spl c l with
      | nil => exact absurd hs (spl_ne c l)
      | cons x xs =>
        rw [hs] at ih
        simp only [List.head?_cons, Option.some.injEq] at ih ⊢
        rw [ih]
theorem splitK_spl (c : UInt8) : ∀ (m : Nat) (l : List UInt8), l.length ≤ m → Lib.splitK [c] 0 (Lib.count l [c]) l = spl c l
  | 0, l, h => by
    have : l = [] := List.length_eq_zero_iff.1 (by omega)
    subst this
    rfl
  | m + 1, l, h => by
    rcases index_one c l with ⟨h1, h2⟩ | ⟨i, h1, r, h2, h3, h4, h5⟩
    · rw [Lib.count_miss h1, spl_none c l h2]
      rfl
    · have hr : r.length ≤ m := by
        rw [← h3, List.length_drop]
        omega
      have ih := splitK_spl c m r hr
      rw [Lib.count_hit (by simp) h1, show 1 + Lib.count (l.drop (i + [c].length)) [c] = Lib.count (l.drop (i + 1)) [c] + 1 by simp [Nat.add_comm], Lib.splitK, h1]
      have hne : ¬ (((i : Int) == -1) = true) := by simp
      rw [if_neg hne]
      simp only [Int.toNat_natCast, Nat.add_zero, List.length_singleton]
      rw [h3, ih]
      conv => rhs; rw [h2]
      rw [spl_cut c _ _ h4]
theorem splitB_spl {sep : ByteArray} {c : UInt8} (hs : by_ sep = [c]) (s : ByteArray) : (Lib.splitB sep 0 (Lib.countB s sep) s).map by_ = spl c (by_ s) := by
  have h1 := Lib.splitB_data sep 0 (Lib.countB s sep) s
  have h2 : Lib.countB s sep = Lib.count (by_ s) [c] := by
    show Lib.count (by_ s) (by_ sep) = _
    rw [hs]
  rw [h2] at h1 ⊢
  have hs' : sep.data.toList = [c] := hs
  rw [hs'] at h1
  exact h1.trans (splitK_spl c _ (by_ s) (Nat.le_refl _))
theorem map_by_inj : ∀ {l m : List ByteArray}, l.map by_ = m.map by_ → l = m
  | [], [], _ => rfl
  | [], b :: m, h => by simp at h
  | a :: l, [], h => by simp at h
  | a :: l, b :: m, h => by
    simp only [List.map_cons, List.cons.injEq] at h
    rw [ba_ext h.1, map_by_inj h.2]
theorem spl_length (c : UInt8) : ∀ l : List UInt8, (spl c l).length ≤ l.length + 1
  | [] => by simp [spl]
  | b :: l => by
    have ih := spl_length c l
    simp only [spl]
    split
    · simp; omega
    · split
      · rename_i p ps hs
        rw [hs] at ih
        simp at ih ⊢
        omega
      · simp
/-- Parts joined again are the text. -/
theorem join_spl (c : UInt8) : ∀ l : List UInt8, Lib.join (spl c l) [c] = l
  | [] => by simp [spl, Lib.join_one]
  | b :: l => by
    have ih := join_spl c l
    simp only [spl]
    cases hs : spl c l with
    | nil => exact absurd hs (spl_ne c l)
    | cons x xs =>
      rw [hs, Lib.join_cons] at ih
      split
      · rename_i e
        subst e
        rw [Lib.join_cons]
        simp only [Lib.joinTail, List.map_cons, List.flatten_cons, List.nil_append, List.singleton_append, List.cons_append]
        rw [← ih]
        rfl
      · rw [Lib.join_cons, List.cons_append, ih]
theorem spl_free (c : UInt8) : ∀ (l p : List UInt8), p ∈ spl c l → c ∉ p
  | [], p, h => by simp [spl] at h; simp [h]
  | b :: l, p, h => by
    simp only [spl] at h
    split at h
    · rcases List.mem_cons.1 h with rfl | h
      · simp
      · exact spl_free c l p h
    · rename_i hb
      cases hs : spl c l with
      | nil => exact absurd hs (spl_ne c l)
      | cons x xs =>
        rw [hs] at h
        simp only [List.mem_cons] at h
        rcases h with rfl | h
        · simp only [List.mem_cons, not_or]
          exact ⟨fun e => hb e.symm, spl_free c l x (by rw [hs]; exact List.mem_cons_self ..)⟩
        · exact spl_free c l p (by rw [hs]; exact List.mem_cons_of_mem _ h)
end Go.Pv
