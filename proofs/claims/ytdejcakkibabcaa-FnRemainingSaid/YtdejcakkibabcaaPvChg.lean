/- Plain laws: mazes with other needs and keys; printed in part by a program of mine (pvE.py). -/
import Derived.Test.YtdejcakkibabcaaPvTidy
import Derived.Test.YtdejcakkibabcaaPvMark
set_option linter.unusedVariables false
set_option linter.unusedSimpArgs false
set_option autoImplicit false
namespace Go.Pv
open Go Go.Fx Go.Pf

/-- A door with another need. -/
def needD (g : Int → Int) (d : Door) : Door := (d.1, d.2.1, g d.2.2)

/-! ### What FreeColours makes of needs and keys -/
/-! ### What BarColours makes of needs and keys -/
/-! ### Doors that need a colour -/
section
variable {n : Nat} {N : Int} {ds : List (Int × Int × Int)} {ks : List Int}
def barP (x : Int) (d : Int × Int × Int) : Bool := !decide (bitAnd .i64 d.2.2 x = 0)
/-- One element more behind a part that is filtered. -/
theorem take_filter_step {α : Type} (p : α → Bool) (l : List α) (d : α) {j : Nat} (hj : j < l.length) : (l.take (j + 1)).filter p = (l.take j).filter p ++ (if p (l.getD j d) = true then [l.getD j d] else []) := by
  rw [List.take_succ_eq_append_getElem hj, List.filter_append]
  have : l[j] = l.getD j d := by rw [List.getD_eq_getElem?_getD, List.getElem?_eq_getElem hj]; rfl
  rw [← this, List.filter_cons, List.filter_nil]
theorem filter_all_false {α : Type} (p : α → Bool) (d : α) (l : List α) (h : ∀ m, m < l.length → p (l.getD m d) = false) : l.filter (fun a => !p a) = l := by
  rw [List.filter_eq_self]
  intro a ha
  obtain ⟨m, hm, rfl⟩ := List.getElem_of_mem ha
  have := h m hm
  rw [List.getD_eq_getElem?_getD, List.getElem?_eq_getElem hm] at this
  have e : (some l[m]).getD d = l[m] := rfl
  rw [e] at this
  rw [this]; rfl
variable {N : Int} {ds : List (Int × Int × Int)} {ks : List Int}
end

end Go.Pv
