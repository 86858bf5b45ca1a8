/- Plain laws of texts: texts that are joined. -/
import Derived.Test.YteenokkklgnhhaaDoorPvStr
import Derived.Lib.Join
set_option linter.unusedVariables false
set_option linter.unusedSimpArgs false
set_option autoImplicit false
namespace Go.Pv
open Go Go.Fx Go.Pf

/-! ### Rows of texts -/
/-- How long texts are together. -/
def tot : List ByteArray → Nat
  | [] => 0
  | x :: l => x.size + tot l
theorem tot_mem : ∀ {l : List ByteArray} {x : ByteArray}, x ∈ l → x.size ≤ tot l
  | y :: l, x, h => by
    rcases List.mem_cons.1 h with rfl | h
    · simp [tot]
    · have := tot_mem h
      simp only [tot]
      omega
theorem tdrop_get {l : List ByteArray} {i : Nat} (h : i < l.length) : l.drop i = l.getD i ByteArray.empty :: l.drop (i + 1) := by
  rw [List.drop_eq_getElem_cons h]
  simp [List.getD_eq_getElem?_getD, h]
theorem eqStringS_l0 {n : Nat} {xs : List ByteArray} (hx : xs.length ≤ 4398046511104) : ∀ (j i : Nat), xs.length - i < j → laws_eqStringS.l0 n (fun _ => some true) j xs xs i = some true
  | 0, i, h => by omega
  | j + 1, i, h => by
    unfold laws_eqStringS.l0
    by_cases c : (i : Int) < (xs.length : Int)
    · rw [if_pos (by simpa using c), if_pos ⟨by omega, c⟩, if_pos ⟨by omega, c⟩, if_neg (by simp), w64s (by omega) (by omega), show ((i : Int) + 1) = ((i + 1 : Nat) : Int) by omega]
      exact eqStringS_l0 hx j (i + 1) (by omega)
    · rw [if_neg (by simpa using c)]
theorem eqStringS_self {n : Nat} {xs : List ByteArray} (hx : xs.length ≤ 4398046511104) (hn : xs.length < n) : laws_eqStringS.F n xs xs = some true := by
  unfold laws_eqStringS.F
  rw [if_neg (by simp)]
  exact eqStringS_l0 hx n 0 (by omega)

/-! ### Texts are joined -/
theorem ite_iff {p q : Prop} [Decidable p] [Decidable q] {α : Type} {a b : α} (h : p ↔ q) : (if p then a else b) = if q then a else b := by
  by_cases hp : p
  · rw [if_pos hp, if_pos (h.1 hp)]
  · rw [if_neg hp, if_neg fun hq => hp (h.2 hq)]
/-- No text has the byte. -/
def free (c : UInt8) (l : List ByteArray) : Prop := ∀ x ∈ l, c ∉ by_ x
instance (c : UInt8) (l : List ByteArray) : Decidable (free c l) := by unfold free; infer_instance
theorem free_cons {c : UInt8} {x : ByteArray} {l : List ByteArray} : free c (x :: l) ↔ c ∉ by_ x ∧ free c l := by
  unfold free
  simp
def tailJ (sep : ByteArray) : List ByteArray → ByteArray → ByteArray
  | [], a => a
  | x :: l, a => tailJ sep l (a ++ sep ++ x)
theorem tailJ_by (sep : ByteArray) : ∀ (l : List ByteArray) (a : ByteArray), by_ (tailJ sep l a) = by_ a ++ Lib.joinTail (by_ sep) (l.map by_)
  | [], a => by simp [tailJ, Lib.joinTail]
  | x :: l, a => by
    rw [tailJ, tailJ_by sep l, by_append, by_append]
    simp [Lib.joinTail]
section
variable {n : Nat} {xs : List ByteArray} {sep : ByteArray} {c : UInt8}
theorem specJoin_l0 (hs1 : sep.size = 1) (hs2 : by_ sep = [c]) (hx : xs.length ≤ 1048576) (hm : ∀ x ∈ xs, x.size ≤ 1048576) (hn : 1048600 ≤ n) {K : ByteArray → Option (ByteArray × Bool)} : ∀ (j i : Nat) (a : ByteArray), xs.length - i < j → 0 < i → a.size ≤ 4000 →
    spec_JoinStrings.l0 n K j xs sep a i = if free c (xs.drop i) ∧ (xs.drop i = [] ∨ a.size + tot (xs.drop i) + (xs.drop i).length ≤ 4000) then K (tailJ sep (xs.drop i) a) else some (ByteArray.empty, false)
  | 0, i, a, h, _, _ => by omega
  | j + 1, i, a, h, hi0, ha => by
    unfold spec_JoinStrings.l0
    by_cases q : (i : Int) < (xs.length : Int)
    · have hi : i < xs.length := by omega
      have hb : bAt sep 0 = (c.toNat : Int) := by unfold bAt; rw [toList_by, hs2]; rfl
      have hsz := hm (xs.getD i ByteArray.empty) (by simp [List.getD_eq_getElem?_getD, hi])
      rw [tdrop_get hi]
      generalize hp : xs.getD i ByteArray.empty = p at *
      rw [if_pos (by simpa using q), if_pos ⟨by omega, q⟩, if_pos ⟨by omega, by omega⟩, hb, Int.toNat_natCast, hp, l1Stands_val c (by omega) (by omega), Option.bind_some]
      by_cases e : c ∈ by_ p
      · rw [if_pos (by simpa using e), if_neg (by rw [free_cons]; exact fun h => h.1.1 e)]
      · rw [if_neg (by simpa using e), if_pos (by simpa using hi0), size_app, size_app, size_app, if_pos (by omega), if_pos ⟨by omega, q⟩, if_pos (by omega)]
        have ht : tot (p :: xs.drop (i + 1)) = p.size + tot (xs.drop (i + 1)) := rfl
        have hlc : (p :: xs.drop (i + 1)).length = (xs.drop (i + 1)).length + 1 := rfl
        by_cases f : a.size + sep.size + p.size > 4000
        · rw [if_pos (by simp only [decide_eq_true_eq]; omega), if_neg (by
            rintro ⟨_, h | h⟩
            · cases h
            · omega)]
        · rw [if_neg (by simp only [decide_eq_true_eq]; omega), w64s (by omega) (by omega), show ((i : Int) + 1) = ((i + 1 : Nat) : Int) by omega,
            specJoin_l0 hs1 hs2 hx hm hn j (i + 1) _ (by omega) (by omega) (by rw [size_app, size_app]; omega), size_app, size_app, tailJ]
          have key : (free c (xs.drop (i + 1)) ∧ (xs.drop (i + 1) = [] ∨ a.size + sep.size + p.size + tot (xs.drop (i + 1)) + (xs.drop (i + 1)).length ≤ 4000)) ↔
              (free c (p :: xs.drop (i + 1)) ∧ (p :: xs.drop (i + 1) = [] ∨ a.size + tot (p :: xs.drop (i + 1)) + (p :: xs.drop (i + 1)).length ≤ 4000)) := by
            rw [free_cons]
            constructor
            · rintro ⟨h1, h2⟩
              refine ⟨⟨e, h1⟩, .inr ?_⟩
              rcases h2 with h2 | h2
              · have h3 : tot (xs.drop (i + 1)) = 0 := by rw [h2]; rfl
                have h4 : (xs.drop (i + 1)).length = 0 := by rw [h2]; rfl
                omega
              · omega
            · rintro ⟨⟨_, h1⟩, h2 | h2⟩
              · cases h2
              · exact ⟨h1, .inr (by omega)⟩
          exact ite_iff key
    · rw [if_neg (by simpa using q), List.drop_of_length_le (by omega), if_pos ⟨fun x hx => by simp at hx, .inl rfl⟩]
      rfl
theorem implJoin_l0 (hs2 : by_ sep = [c]) (hx : xs.length ≤ 1048576) (hm : ∀ x ∈ xs, x.size ≤ 1048576) (hn : 1048600 ≤ n) {K : List ByteArray → ByteArray → Option (ByteArray × Bool)} : ∀ (j i t : Nat), xs.length - i < j → t ≤ 1048576 + 4000 →
    impl_JoinStrings.l0 n K j xs sep (t : Int) (xs.length : Int) i = if free c (xs.drop i) ∧ (xs.drop i = [] ∨ t + tot (xs.drop i) ≤ 4000) then K xs sep else some (ByteArray.empty, false)
  | 0, i, t, h, _ => by omega
  | j + 1, i, t, h, ht => by
    unfold impl_JoinStrings.l0
    by_cases q : (i : Int) < (xs.length : Int)
    · have hi : i < xs.length := by omega
      have hsz := hm (xs.getD i ByteArray.empty) (by simp [List.getD_eq_getElem?_getD, hi])
      rw [tdrop_get hi]
      generalize hp : xs.getD i ByteArray.empty = p at *
      rw [if_pos (by simpa using q), if_pos ⟨by omega, q⟩, Int.toNat_natCast, hp, contains_val hsz hs2, Option.bind_some]
      by_cases e : c ∈ by_ p
      · rw [if_pos (by simpa using e), if_neg (by rw [free_cons]; exact fun h => h.1.1 e)]
      · rw [if_neg (by simpa using e), w64s (by omega) (by omega)]
        have ht : tot (p :: xs.drop (i + 1)) = p.size + tot (xs.drop (i + 1)) := rfl
        by_cases f : t + p.size > 4000
        · rw [if_pos (by simp only [decide_eq_true_eq]; omega), if_neg (by
            rintro ⟨_, h | h⟩
            · cases h
            · omega)]
        · rw [if_neg (by simp only [decide_eq_true_eq]; omega), w64s (by omega) (by omega), show ((i : Int) + 1) = ((i + 1 : Nat) : Int) by omega, show ((t : Int) + (p.size : Int)) = ((t + p.size : Nat) : Int) by omega,
            implJoin_l0 hs2 hx hm hn j (i + 1) _ (by omega) (by omega)]
          have key : (free c (xs.drop (i + 1)) ∧ (xs.drop (i + 1) = [] ∨ t + p.size + tot (xs.drop (i + 1)) ≤ 4000)) ↔
              (free c (p :: xs.drop (i + 1)) ∧ (p :: xs.drop (i + 1) = [] ∨ t + tot (p :: xs.drop (i + 1)) ≤ 4000)) := by
            rw [free_cons]
            constructor
            · rintro ⟨h1, h2⟩
              refine ⟨⟨e, h1⟩, .inr ?_⟩
              rcases h2 with h2 | h2
              · have h3 : tot (xs.drop (i + 1)) = 0 := by rw [h2]; rfl
                omega
              · omega
            · rintro ⟨⟨_, h1⟩, h2 | h2⟩
              · cases h2
              · exact ⟨h1, .inr (by omega)⟩
          exact ite_iff key
    · rw [if_neg (by simpa using q), List.drop_of_length_le (by omega), if_pos ⟨fun x hx => by simp at hx, .inl rfl⟩]
end
/-- What is told of texts that are joined. -/
def joinF (xs : List ByteArray) (sep : ByteArray) : ByteArray × Bool :=
  match xs with
  | [] => (ByteArray.empty, false)
  | x :: l => if sep.size = 1 ∧ free ((by_ sep).getD 0 0) xs ∧ tot xs + l.length ≤ 4000 then (tailJ sep l x, true) else (ByteArray.empty, false)
theorem empty_app (p : ByteArray) : ByteArray.empty ++ p = p := by
  apply ba_ext
  rw [by_append]
  rfl
theorem specJoin_val {n : Nat} {xs : List ByteArray} {sep : ByteArray} (hx : xs.length ≤ 1048576) (hm : ∀ x ∈ xs, x.size ≤ 1048576) (hn : 1048600 ≤ n) : spec_JoinStrings.F n xs sep = some (joinF xs sep) := by
  unfold spec_JoinStrings.F joinF
  by_cases h1 : sep.size = 1
  · rw [if_neg (by simp [h1])]
    cases xs with
    | nil => rfl
    | cons p l =>
      have hc : ∃ c, by_ sep = [c] := List.length_eq_one_iff.1 (by rw [← by_size]; exact h1)
      obtain ⟨c, hc⟩ := hc
      have hb : bAt sep 0 = (c.toNat : Int) := by unfold bAt; rw [toList_by, hc]; rfl
      have hp := hm p (by simp)
      obtain ⟨m, rfl⟩ : ∃ m, n = m + 1 := ⟨n - 1, by omega⟩
      rw [if_neg (by simp; omega), spec_JoinStrings.l0, if_pos (by simp), if_pos ⟨by omega, by simp⟩, if_pos ⟨by omega, by omega⟩, hb]
      simp only [Int.toNat_zero, List.getD_cons_zero]
      rw [l1Stands_val c (by omega) (by omega), Option.bind_some, hc]
      simp only [List.getD_cons_zero]
      have hlen : (p :: l).length = l.length + 1 := rfl
      by_cases e : c ∈ by_ p
      · rw [if_pos (by simpa using e), if_neg (by rw [free_cons]; exact fun h => h.2.1.1 e)]
      · rw [if_neg (by simpa using e), if_neg (by simp), if_pos ⟨by omega, by simp⟩, empty_app]
        rw [show ByteArray.empty.size = 0 from rfl, if_pos (by omega)]
        by_cases f : p.size > 4000
        · rw [if_pos (by simp only [decide_eq_true_eq]; omega), if_neg (by
            rintro ⟨_, _, h⟩
            simp only [tot] at h
            omega)]
        · rw [if_neg (by simp only [decide_eq_true_eq]; omega), w64s (by omega) (by omega), show ((0 : Int) + 1) = ((1 : Nat) : Int) by omega,
            specJoin_l0 h1 hc hx hm hn m 1 p (by omega) (by omega) (by omega)]
          simp only [List.drop_succ_cons, List.drop_zero]
          have key : (free c l ∧ (l = [] ∨ p.size + tot l + l.length ≤ 4000)) ↔ (sep.size = 1 ∧ free c (p :: l) ∧ tot (p :: l) + l.length ≤ 4000) := by
            rw [free_cons]
            simp only [tot]
            constructor
            · rintro ⟨g1, g2⟩
              refine ⟨h1, ⟨e, g1⟩, ?_⟩
              rcases g2 with g2 | g2
              · subst g2; simp only [tot, List.length_nil]; omega
              · omega
            · rintro ⟨_, ⟨_, g1⟩, g2⟩
              exact ⟨g1, .inr (by omega)⟩
          rw [ite_iff key]
          split <;> rfl
  · rw [if_pos (by simp; omega)]
    cases xs with
    | nil => rfl
    | cons p l => dsimp only; rw [if_neg fun h => h1 h.1]
theorem tailJ_size {sep : ByteArray} (h1 : sep.size = 1) : ∀ (l : List ByteArray) (a : ByteArray), (tailJ sep l a).size = a.size + tot l + l.length
  | [], a => by simp [tailJ, tot]
  | x :: l, a => by
    rw [tailJ, tailJ_size h1 l, size_app, size_app, h1]
    simp only [tot, List.length_cons]
    omega
theorem implJoin_val {n : Nat} {xs : List ByteArray} {sep : ByteArray} (hx : xs.length ≤ 1048576) (hm : ∀ x ∈ xs, x.size ≤ 1048576) (hn : 1048600 ≤ n) : impl_JoinStrings.F n xs sep = some (joinF xs sep) := by
  unfold impl_JoinStrings.F joinF
  cases xs with
  | nil => rfl
  | cons p l =>
    dsimp only
    have hlen : (p :: l).length = l.length + 1 := rfl
    rw [if_neg (by simp only [hlen, decide_eq_true_eq]; omega)]
    by_cases h1 : sep.size = 1
    · obtain ⟨c, hc⟩ : ∃ c, by_ sep = [c] := List.length_eq_one_iff.1 (by rw [← by_size]; exact h1)
      have hw : IntKind.wrap .i64 (((p :: l).length : Int) - 1) = ((l.length : Nat) : Int) := by rw [w64s (by omega) (by omega)]; omega
      rw [if_neg (by simp [h1]), hw, show (0 : Int) = ((0 : Nat) : Int) from rfl, implJoin_l0 hc hx hm hn n 0 l.length (by omega) (by omega), List.drop_zero, hc]
      simp only [List.getD_cons_zero]
      have key : (free c (p :: l) ∧ (p :: l = [] ∨ l.length + tot (p :: l) ≤ 4000)) ↔ (sep.size = 1 ∧ free c (p :: l) ∧ tot (p :: l) + l.length ≤ 4000) := by
        constructor
        · rintro ⟨g1, g2 | g2⟩
          · cases g2
          · exact ⟨h1, g1, by omega⟩
        · rintro ⟨_, g1, g2⟩
          exact ⟨g1, .inr (by omega)⟩
      rw [ite_iff key]
      split
      · rename_i g
        have hj : Lib.join ((p :: l).map (·.data.toList)) sep.data.toList = by_ (tailJ sep l p) := by
          rw [tailJ_by]
          exact Lib.join_cons _ _ _
        have hsz := tailJ_size h1 l p
        have : (tailJ sep l p).size ≤ 4000 := by
          have := g.2.2
          simp only [tot] at this
          omega
        unfold strJoin.F
        rw [hj, if_pos ⟨by omega, by rw [← by_size]; omega⟩, Option.bind_some, mk_by]
      · rfl
    · rw [if_pos (by simp; omega), if_neg fun h => h1 h.1]
end Go.Pv
