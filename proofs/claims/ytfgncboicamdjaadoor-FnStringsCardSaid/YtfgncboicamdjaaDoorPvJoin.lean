/- Plain laws of texts: texts that are joined. -/
import Derived.Test.YtfgncboicamdjaaDoorPvStr
import Derived.Lib.Join
set_option linter.unusedVariables false
set_option linter.unusedSimpArgs false
set_option autoImplicit false
namespace Go.Pv
open Go Go.Fx Go.Pf

/-! ### Rows of texts -/
/-- How long texts are together. -/
def tot : List ByteArray → Nat
  | [] => 0
  | x :: l => x.size + tot l
theorem tot_mem : ∀ {l : List ByteArray} {x : ByteArray}, x ∈ l → x.size ≤ tot l
  | y :: l, x, h => by
    rcases List.mem_cons.1 h with rfl | h
    · simp [tot]
    · have := tot_mem h
      simp only [tot]
      omega
theorem tdrop_get {l : List ByteArray} {i : Nat} (h : i < l.length) : l.drop i = l.getD i ByteArray.empty :: l.drop (i + 1) := by
  rw [List.drop_eq_getElem_cons h]
  simp [List.getD_eq_getElem?_getD, h]
/-! ### Texts are joined -/
theorem ite_iff {p q : Prop} [Decidable p] [Decidable q] {α : Type} {a b : α} (h : p ↔ q) : (if p then a else b) = if q then a else b := by
  by_cases hp : p
  · rw [if_pos hp, if_pos (h.1 hp)]
  · rw [if_neg hp, if_neg fun hq => hp (h.2 hq)]
/-- No text has the byte. -/
def free (c : UInt8) (l : List ByteArray) : Prop := ∀ x ∈ l, c ∉ by_ x
instance (c : UInt8) (l : List ByteArray) : Decidable (free c l) := by unfold free; infer_instance
theorem free_cons {c : UInt8} {x : ByteArray} {l : List ByteArray} : free c (x :: l) ↔ c ∉ by_ x ∧ free c l := by
  unfold free
  simp
def tailJ (sep : ByteArray) : List ByteArray → ByteArray → ByteArray
  | [], a => a
  | x :: l, a => tailJ sep l (a ++ sep ++ x)
theorem tailJ_by (sep : ByteArray) : ∀ (l : List ByteArray) (a : ByteArray), by_ (tailJ sep l a) = by_ a ++ Lib.joinTail (by_ sep) (l.map by_)
  | [], a => by simp [tailJ, Lib.joinTail]
  | x :: l, a => by
    rw [tailJ, tailJ_by sep l, by_append, by_append]
    simp [Lib.joinTail]
section
variable {n : Nat} {xs : List ByteArray} {sep : ByteArray} {c : UInt8}
end
/-- What is told of texts that are joined. -/
def joinF (xs : List ByteArray) (sep : ByteArray) : ByteArray × Bool :=
  match xs with
  | [] => (ByteArray.empty, false)
  | x :: l => if sep.size = 1 ∧ free ((by_ sep).getD 0 0) xs ∧ tot xs + l.length ≤ 4000 then (tailJ sep l x, true) else (ByteArray.empty, false)
theorem empty_app (p : ByteArray) : ByteArray.empty ++ p = p := by
  apply ba_ext
  rw [by_append]
  rfl
theorem tailJ_size {sep : ByteArray} (h1 : sep.size = 1) : ∀ (l : List ByteArray) (a : ByteArray), (tailJ sep l a).size = a.size + tot l + l.length
  | [], a => by simp [tailJ, tot]
  | x :: l, a => by
    rw [tailJ, tailJ_size h1 l, size_app, size_app, h1]
    simp only [tot, List.length_cons]
    omega
end Go.Pv
