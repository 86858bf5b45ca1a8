/- Plain laws: least numbers of steps, told in two ways. -/
import Derived.Test.YtfgncboicamdjaaGreatDoorPvDistB
import Derived.Test.YtfgncboicamdjaaGreatDoorPvTaken
import Derived.KernelRfl
set_option linter.unusedVariables false
set_option linter.unusedSimpArgs false
set_option autoImplicit false
namespace Go.Pv
open Go Go.Fx Go.Pf

/-! ### How many colours -/
def popF : Nat → Nat → Nat
  | 0, _ => 0
  | k + 1, x => if 0 < x then x % 2 + popF k (x / 2) else 0
theorem popF_le : ∀ (k x : Nat), popF k x ≤ k
  | 0, x => Nat.le_refl _
  | k + 1, x => by
    unfold popF
    have := popF_le k (x / 2)
    split
    · omega
    · omega
/-! ### The least number of steps to a node -/
def leastF (p : Nat → Bool) (f : Nat → Int) (c : Nat) : Nat → Int → Int
  | 0, b => b
  | k + 1, b => leastF p f (c + 1) k (if p c = true ∧ 0 ≤ f c ∧ (b < 0 ∨ f c < b) then f c else b)
theorem leastF_congr {p q : Nat → Bool} {f g : Nat → Int} : ∀ (k c : Nat) (b : Int), (∀ i, c ≤ i → i < c + k → p i = q i ∧ f i = g i) → leastF p f c k b = leastF q g c k b
  | 0, c, b, _ => rfl
  | k + 1, c, b, h => by
    obtain ⟨e1, e2⟩ := h c (Nat.le_refl _) (by omega)
    unfold leastF
    rw [e1, e2]
    exact leastF_congr k (c + 1) _ fun i h1 h2 => h i (by omega) (by omega)
theorem leastF_range {p : Nat → Bool} {f : Nat → Int} {B : Int} (hf : ∀ i, f i ≤ B) : ∀ (k c : Nat) (b : Int), -1 ≤ b → b ≤ B → -1 ≤ leastF p f c k b ∧ leastF p f c k b ≤ B
  | 0, c, b, h1, h2 => ⟨h1, h2⟩
  | k + 1, c, b, h1, h2 => by
    unfold leastF
    split
    · rename_i h
      exact leastF_range hf k (c + 1) _ (by omega) (hf c)
    · exact leastF_range hf k (c + 1) _ h1 h2
section
variable {n : Nat} {N : Int} {ds : List (Int × Int × Int)} {ks : List Int}
def rowF (o : List Int) (x : Int) (s : Nat) : Int := o.getD (idI x (s : Int)).toNat 0
def wantB (st most : Int) (s : Nat) : Bool := hasB (s : Int) st && decide (((popF 6 s : Nat) : Int) ≤ most)
/-- A row of the program's table. -/
theorem row_get {o : List Int} {x : Int} (ho : (o.length : Int) = N * 64) (hx : 0 ≤ x ∧ x < N) {s : Nat} (hs : s < 64) : (((gridOf o).drop (0 + x.toNat * 64)).take 64).getD s 0 = rowF o x s := by
  rw [List.getD_eq_getElem?_getD, List.getElem?_take, if_pos hs, List.getElem?_drop, ← List.getD_eq_getElem?_getD]
  have e : 0 + x.toNat * 64 + s = (idI x (s : Int)).toNat := by unfold idI; omega
  rw [e, grid_get (by unfold idI; omega)]
  rfl
theorem row_get' {o : List Int} {x : Int} (ho : (o.length : Int) = N * 64) (hx : 0 ≤ x ∧ x < N) {s : Nat} (hs : s < 64) : (((gridOf o).drop (x.toNat * 64)).take 64).getD s 0 = rowF o x s := by
  have := row_get ho hx hs
  rw [Nat.zero_add] at this
  exact this
theorem want06 {s : Nat} (hs : s < 64) : wantB 0 6 s = true := by
  have p63 : (2 : Nat) ^ 63 = 9223372036854775808 := by decide
  have h1 : hasB (s : Int) 0 = true := by
    unfold hasB
    have := bitAnd_nat (a := s) (b := 0) (by omega) (by omega)
    rw [Nat.and_zero] at this
    rw [decide_eq_true_eq]
    exact this
  have h2 := popF_le 6 s
  simp only [wantB, h1, Bool.true_and, decide_eq_true_eq]
  omega
theorem want0 {s : Nat} (hs : s < 64) (most : Int) : wantB 0 most s = decide (((popF 6 s : Nat) : Int) ≤ most) := by
  have := want06 hs
  simp only [wantB, Bool.and_eq_true] at this
  simp only [wantB, this.1, Bool.true_and]
end
end Go.Pv
