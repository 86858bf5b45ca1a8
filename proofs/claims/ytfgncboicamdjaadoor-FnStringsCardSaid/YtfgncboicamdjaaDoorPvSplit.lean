/- Plain laws of texts: texts that are cut, marked, drawn, compared. -/
import Derived.Test.YtfgncboicamdjaaDoorPvJoin
import Derived.Test.YtfgncboicamdjaaDoorPvDraw
set_option linter.unusedVariables false
set_option linter.unusedSimpArgs false
set_option autoImplicit false
namespace Go.Pv
open Go Go.Fx Go.Pf

/-! ### Marks -/
theorem strOfInts_one (x : Int) : (strOfInts ([x] : List Int)).size = 1 := rfl
/-! ### A text is cut at each byte -/
def splitF (s sep : ByteArray) : List ByteArray × Bool :=
  if s.size > 4000 ∨ ¬ sep.size = 1 then ([], false) else ((spl ((by_ sep).getD 0 0) (by_ s)).map fun l => (⟨l.toArray⟩ : ByteArray), true)
theorem splitF_length {s sep : ByteArray} (hs : s.size ≤ 1048576) : (splitF s sep).1.length ≤ 1048577 := by
  unfold splitF
  split
  · simp
  · have := spl_length ((by_ sep).getD 0 0) (by_ s)
    have hz := by_size s
    simp only [List.length_map]
    omega
/-! ### What is drawn -/
section
variable {n : Nat} {cd : List Int} {a s : Int}
theorem of_ok (hb : Bytes cd) (h0 : 0 ≤ a) (h1 : a ≤ 1152921504606846000) {l : List ByteArray} (hl : l ≠ []) : Dr cd a 2 (spec_l1Cur_of.F n cd a s l) fun v => v ∈ l := by
  unfold spec_l1Cur_of.F
  obtain ⟨a1, s1, v, e, h2, h3, h4⟩ := pick_ok (n := n) (s := s) hb h0 h1 (l.length : Int)
  rw [e, Option.bind_some]
  have hpos : 0 < l.length := List.length_pos_iff.2 hl
  have hlt : v < (l.length : Int) := by
    rcases Int.lt_or_le 1 (l.length : Int) with c | c
    · exact h4.2.1 c
    · have := h4.2.2 c
      omega
  simp only
  rw [if_pos ⟨h4.1, hlt⟩]
  refine ⟨a1, s1, _, rfl, h2, h3, ?_⟩
  have hv : v.toNat < l.length := by omega
  simp [List.getD_eq_getElem?_getD, hv]
theorem any1_ok (hb : Bytes cd) (h0 : 0 ≤ a) (h1 : a ≤ 1152921504606846000) : Dr cd a 2 (spec_l1Cur_any1.F n cd a s) fun v => v.size ≤ 10 := by
  unfold spec_l1Cur_any1.F
  obtain ⟨a1, s1, v, e, h2, h3, h4⟩ := of_ok (n := n) (s := s) hb h0 h1 (l := [ByteArray.empty, (⟨#[97]⟩ : ByteArray), (⟨#[97, 44, 98]⟩ : ByteArray), (⟨#[115, 111, 109, 101, 32, 119, 111, 114, 100, 115]⟩ : ByteArray), (⟨#[120, 35, 121]⟩ : ByteArray), (⟨#[45, 49, 50]⟩ : ByteArray), (⟨#[0, 255]⟩ : ByteArray), (⟨#[44, 44]⟩ : ByteArray), (⟨#[48]⟩ : ByteArray)]) (by simp)
  rw [e, Option.bind_some]
  refine ⟨a1, s1, v, rfl, h2, h3, ?_⟩
  have hall : ∀ x ∈ ([ByteArray.empty, (⟨#[97]⟩ : ByteArray), (⟨#[97, 44, 98]⟩ : ByteArray), (⟨#[115, 111, 109, 101, 32, 119, 111, 114, 100, 115]⟩ : ByteArray), (⟨#[120, 35, 121]⟩ : ByteArray), (⟨#[45, 49, 50]⟩ : ByteArray), (⟨#[0, 255]⟩ : ByteArray), (⟨#[44, 44]⟩ : ByteArray), (⟨#[48]⟩ : ByteArray)] : List ByteArray), x.size ≤ 10 := by
    intro x hx
    simp only [List.mem_cons, List.mem_nil_iff, or_false] at hx
    rcases hx with rfl | rfl | rfl | rfl | rfl | rfl | rfl | rfl | rfl <;> decide
  exact hall v h4
theorem strOfInts_size (l : List Int) : (strOfInts l).size = l.length := by
  show ((l.map fun n => UInt8.ofNat n.toNat).toArray).size = _
  simp
end
theorem less_asym : ∀ x y : List UInt8, Op.bytesLess x y = true → Op.bytesLess y x = false
  | [], [], h => by simp [Op.bytesLess] at h
  | [], b :: y, h => by simp [Op.bytesLess]
  | a :: x, [], h => by simp [Op.bytesLess] at h
  | a :: x, b :: y, h => by
    simp only [Op.bytesLess] at h ⊢
    by_cases e : a = b
    · subst e
      have ih := less_asym x y
      simp_all
    · have e2 : ¬ b = a := fun z => e z.symm
      have hab : a.toNat ≠ b.toNat := fun z => e (UInt8.toNat_inj.1 z)
      simp [e, e2, UInt8.lt_iff_toNat_lt] at h ⊢
      omega
end Go.Pv
