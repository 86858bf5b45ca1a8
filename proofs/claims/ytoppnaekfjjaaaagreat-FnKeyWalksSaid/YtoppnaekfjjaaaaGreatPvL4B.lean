/- Plain laws: what both sides answer about fewest steps. -/
import Derived.Test.YtoppnaekfjjaaaaGreatPvL4
set_option linter.unusedVariables false
set_option linter.unusedSimpArgs false
set_option autoImplicit false
namespace Go.Pv
open Go Go.Fx Go.Pf
section
variable {n : Nat} {N : Int} {ds : List (Int × Int × Int)} {ks : List Int}
abbrev RB2 := Int × Bool

/-- A question about a maze. -/
theorem maze_cases {β : Type} (hn : 100 ≤ n) (d : β) (p : β → Prop) (hd : p d) (f g : Option β) (hfg : VM N ds ks → ∃ q, p q ∧ f = some q ∧ g = some q) :
    ∃ q, p q ∧ ((spec_l2Maze.F n N ds ks).bind fun r1 => if (!r1) = true then some d else f) = some q ∧ ((impl_IsMaze.F n N ds ks).bind fun r1 => if (!r1) = true then some d else g) = some q := by
  classical
  rw [l2Maze_val (by omega), IsMaze_val (by omega), Option.bind_some, Option.bind_some]
  by_cases h : VM N ds ks
  · obtain ⟨q, hp, h1, h2⟩ := hfg h
    exact ⟨q, hp, by simp [h, h1], by simp [h, h2]⟩
  · exact ⟨d, hd, by simp [h], by simp [h]⟩

/-! ### States -/
/-! ### Fewest steps -/
theorem FewestSteps_same (hn : 2000 ≤ n) : ∃ q, True ∧ spec_FewestSteps.F n N ds ks = some q ∧ impl_FewestSteps.F n N ds ks = some q := by
  unfold spec_FewestSteps.F impl_FewestSteps.F
  refine maze_cases (by omega) _ (fun _ => True) trivial _ _ fun h => ?_
  obtain ⟨o, p1, p2, p3, p4⟩ := first_same hn h
  have h1 := h.n1
  have h2 := h.n2
  have wN : IntKind.wrap .i64 (N - 1) = N - 1 := w64s (by omega) (by omega)
  rw [p3, p4, Option.bind_some, Option.bind_some, wN, l4Least_eq (by omega) 0 6 p1 h2 ⟨by omega, by omega⟩, leastAny_eq (by omega) p1 h2 ⟨by omega, by omega⟩, Option.bind_some, Option.bind_some, told_eq]
  exact ⟨_, trivial, rfl, rfl⟩
/-! ### A detour -/
theorem full_or (ks : List Int) (z : Int) (hk : ∀ k ∈ ks, 0 ≤ k ∧ k ≤ 63) : setK ks 63 z = 63 := by
  have p6 : (2 : Nat) ^ 6 = 64 := by decide
  have hb : (ks.getD z.toNat 0).toNat < 2 ^ 6 := by
    by_cases c : z.toNat < ks.length
    · have := hk _ (getD_mem (d := (0 : Int)) c)
      omega
    · have : ks.getD z.toNat 0 = 0 := by rw [List.getD_eq_getElem?_getD, List.getElem?_eq_none (by omega)]; rfl
      rw [this]; decide
  unfold setK
  apply Nat.eq_of_testBit_eq
  intro i
  rw [Nat.testBit_or]
  have h63 : Nat.testBit 63 i = decide (i < 6) := by
    have := Nat.testBit_two_pow_sub_one 6 i
    simpa using this
  rw [h63]
  by_cases c : i < 6
  · simp [c]
  · have : (ks.getD z.toNat 0).toNat.testBit i = false := Nat.testBit_lt_two_pow (Nat.lt_of_lt_of_le hb (Nat.pow_le_pow_right (by omega) (by omega)))
    rw [this, decide_eq_false c]
    rfl
theorem leastF_only {p : Nat → Bool} {f : Nat → Int} {m : Nat} (hp : p m = true) (hf : ∀ i, i ≠ m → i < 64 → f i < 0) : ∀ (k c : Nat) (b : Int), c + k = 64 → c ≤ m → m < 64 → b = -1 → -1 ≤ f m → leastF p f c k b = f m
  | 0, c, b, h, h1, h2, _, _ => by omega
  | k + 1, c, b, h, h1, h2, hb, hm => by
    have after : ∀ (k c : Nat), m < c → c + k = 64 → ∀ b, leastF p f c k b = b := by
      intro k
      induction k with
      | zero => intros; rfl
      | succ k ih =>
        intro c hc hck b
        unfold leastF
        rw [if_neg (by rintro ⟨_, h3, _⟩; have := hf c (by omega) (by omega); omega)]
        exact ih (c + 1) (by omega) (by omega) b
    unfold leastF
    by_cases e : c = m
    · subst e
      rw [after k (c + 1) (by omega) (by omega)]
      by_cases c0 : 0 ≤ f c
      · rw [if_pos ⟨hp, c0, .inl (by omega)⟩]
      · rw [if_neg (by rintro ⟨_, h3, _⟩; exact c0 h3)]
        omega
    · rw [if_neg (by rintro ⟨_, h3, _⟩; have := hf c e (by omega); omega)]
      exact leastF_only hp hf k (c + 1) b (by omega) (by omega) h2 hb hm
/-! ### The way back -/
/-! ### Fewest keys -/
noncomputable def keyLeast (N : Int) (o : List Int) (m : Nat) : Int := leastF (wantB 0 (m : Int)) (rowF o (N - 1)) 0 64 (-1)
end
end Go.Pv
