/- Plain laws: what is reached from a node with a set of colours. -/
import Derived.Test.YtdejcakkibabcaaPvNode
import Derived.Test.YtdejcakkibabcaaPvMem
set_option linter.unusedVariables false
set_option linter.unusedSimpArgs false
set_option autoImplicit false
namespace Go.Pv
open Go Go.Fx Go.Pf

/-! ### What is reached -/
inductive Rch (ds : List (Int × Int × Int)) (s x : Int) : Int → Prop
  | refl : Rch ds s x x
  | step {y z : Int} : Rch ds s x y → openB ds y z s = true → Rch ds s x z
theorem Rch.range {N : Int} {ds : List (Int × Int × Int)} {ks : List Int} (h : VM N ds ks) {s x y : Int} (hx : 0 ≤ x ∧ x < N) (hr : Rch ds s x y) : 0 ≤ y ∧ y < N := by
  induction hr with
  | refl => exact hx
  | step _ ho _ => have := openB_range h ho; omega
open Classical in
noncomputable def reachN (ds : List (Int × Int × Int)) (s x : Int) : Nat := maskP fun y => decide (Rch ds s x (y : Int))
theorem reachN_lt (ds : List (Int × Int × Int)) (s x : Int) : reachN ds s x < 2 ^ 12 := maskP_lt _
theorem reachN_bit {N : Int} {ds : List (Int × Int × Int)} {ks : List Int} (h : VM N ds ks) {s x : Int} (hx : 0 ≤ x ∧ x < N) (y : Nat) : (reachN ds s x).testBit y = true ↔ Rch ds s x (y : Int) := by
  unfold reachN
  rw [maskP_bit]
  constructor
  · intro hh
    simp at hh
    exact hh.2
  · intro hr
    have := hr.range h hx
    have := h.n2
    simp [hr]
    omega

/-! ### The program's way -/
theorem countP_split {α : Type} (p q r : α → Bool) : ∀ (l : List α), (∀ a ∈ l, p a = (q a || r a)) → (∀ a ∈ l, q a = true → r a = false) → l.countP p = l.countP q + l.countP r
  | [], _, _ => rfl
  | a :: l, h1, h2 => by
    have ih := countP_split p q r l (fun b hb => h1 b (by simp [hb])) (fun b hb => h2 b (by simp [hb]))
    have e1 := h1 a (by simp)
    have e2 := h2 a (by simp)
    rw [List.countP_cons, List.countP_cons, List.countP_cons, ih, e1]
    cases hq : q a with
    | true => rw [e2 hq]; simp; omega
    | false => cases r a <;> simp <;> omega
theorem memL_count (S : Nat) : (memL S).length = (List.range 12).countP fun i => S.testBit i := by
  unfold memL memF
  rw [List.length_map, List.countP_eq_length_filter, List.range_eq_range']

end Go.Pv
