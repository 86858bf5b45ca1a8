/- Plain laws: what is taken on a walk is kept. -/
import Derived.Test.YtoppnaekfjjaaaaGreatPvTurn
import Derived.Test.YtoppnaekfjjaaaaGreatPvTaken
set_option linter.unusedVariables false
set_option linter.unusedSimpArgs false
set_option autoImplicit false
namespace Go.Pv
open Go Go.Fx Go.Pf

/-- What is held on the first nodes of a walk. -/
structure Gd (N : Int) (ks ws : List Int) (i : Nat) (l : List Int) : Prop where
  len : l.length = i
  nod : ∀ t, t < i → 0 ≤ ws.getD t 0 ∧ ws.getD t 0 < N
  nxt : ∀ t, t + 1 < i → l.getD (t + 1) 0 = bitOr .i64 (l.getD t 0) (ks.getD (ws.getD (t + 1) 0).toNat 0)
  rng : ∀ e ∈ l, 0 ≤ e ∧ e ≤ 63
section
variable {n : Nat} {N : Int} {ds : List (Int × Int × Int)} {ks ws : List Int}
theorem Gd.add (h : VM N ds ks) {i : Nat} {l : List Int} {cur : Int} (g : Gd N ks ws i l) (hc : 0 < i → cur = l.getD (i - 1) 0) (hr : 0 ≤ cur ∧ cur ≤ 63) (hw : 0 ≤ ws.getD i 0 ∧ ws.getD i 0 < N) :
    Gd N ks ws (i + 1) (l ++ [bitOr .i64 cur (ks.getD (ws.getD i 0).toNat 0)]) ∧ 0 ≤ bitOr .i64 cur (ks.getD (ws.getD i 0).toNat 0) ∧ bitOr .i64 cur (ks.getD (ws.getD i 0).toNat 0) ≤ 63 := by
  have hkl := h.kl
  have hk := h.keys _ (getD_mem (l := ks) (i := (ws.getD i 0).toNat) (d := (0 : Int)) (by omega))
  have ho := or64 hr.1 hr.2 hk.1 hk.2
  have gl := g.len
  have old : ∀ t, t < i → (l ++ [bitOr .i64 cur (ks.getD (ws.getD i 0).toNat 0)]).getD t 0 = l.getD t 0 := fun t ht => by
    rw [List.getD_eq_getElem?_getD, List.getElem?_append_left (by omega), ← List.getD_eq_getElem?_getD]
  have new : (l ++ [bitOr .i64 cur (ks.getD (ws.getD i 0).toNat 0)]).getD i 0 = bitOr .i64 cur (ks.getD (ws.getD i 0).toNat 0) := by
    rw [← gl]
    simp [List.getD_eq_getElem?_getD]
  refine ⟨⟨by simp [gl], fun t ht => ?_, fun t ht => ?_, fun e he => ?_⟩, ho⟩
  · by_cases e : t = i
    · subst e; exact hw
    · exact g.nod t (by omega)
  · by_cases e : t + 1 = i
    · subst e
      rw [new, old t (by omega), hc (by omega)]
      rfl
    · rw [old (t + 1) (by omega), old t (by omega)]
      exact g.nxt t (by omega)
  · rcases List.mem_append.1 he with he | he
    · exact g.rng e he
    · simp only [List.mem_singleton] at he
      subst he
      exact ho
theorem taken_l0 (h : VM N ds ks) (hw : ws.length ≤ 1048576) : ∀ (j i : Nat) (l : List Int) (cur : Int) (r : List Int × Bool), impl_taken.l0 n (fun y3 => some (y3, true)) j ws N ds ks l cur ws.length i = some r → i ≤ ws.length → Gd N ks ws i l → (0 < i → cur = l.getD (i - 1) 0) → (0 ≤ cur ∧ cur ≤ 63) → r.1 = [] ∨ Gd N ks ws ws.length r.1
  | 0, i, l, cur, r, hr, _, _, _, _ => by simp [impl_taken.l0] at hr
  | j + 1, i, l, cur, r, hr, hi, g, hc, hcr => by
    rw [impl_taken.l0] at hr
    have h1 := h.n1
    have h2 := h.n2
    have wN : IntKind.wrap .i64 (N - 1) = N - 1 := w64s (by omega) (by omega)
    by_cases c : (i : Int) < (ws.length : Int)
    · have ei : (i : Int).toNat = i := by omega
      have wi : IntKind.wrap .i64 ((i : Int) + 1) = ((i + 1 : Nat) : Int) := by rw [w64s (by omega) (by omega)]; omega
      rw [if_pos (by simpa using c), if_pos ⟨by omega, c⟩, ei, wN, within_eq, Option.bind_some, wi] at hr
      split at hr
      · cases hr
        exact .inl rfl
      · rename_i hin
        have hwr : 0 ≤ ws.getD i 0 ∧ ws.getD i 0 < N := by
          simp only [Bool.not_eq_true', Bool.not_eq_false, Bool.and_eq_true, decide_eq_true_eq] at hin
          omega
        obtain ⟨a1, a2⟩ := g.add h hc hcr hwr
        have hlast : (l ++ [bitOr .i64 cur (ks.getD (ws.getD i 0).toNat 0)]).getD (i + 1 - 1) 0 = bitOr .i64 cur (ks.getD (ws.getD i 0).toNat 0) := by
          rw [show i + 1 - 1 = l.length by rw [g.len]; omega]
          simp [List.getD_eq_getElem?_getD]
        split at hr
        · split at hr
          · cases hs : impl_steps.F n N ds ks (ws.getD ((IntKind.wrap .i64 ((i : Int) - 1)).toNat) 0) cur with
            | none => rw [hs] at hr; cases hr
            | some q =>
              rw [hs, Option.bind_some] at hr
              split at hr
              · cases hr
              · split at hr
                · cases hr
                  exact .inl rfl
                · split at hr
                  · split at hr
                    · exact taken_l0 h hw j (i + 1) _ _ r hr (by omega) a1 (fun _ => hlast.symm) a2
                    · cases hr
                  · cases hr
          · cases hr
        · split at hr
          · split at hr
            · exact taken_l0 h hw j (i + 1) _ _ r hr (by omega) a1 (fun _ => hlast.symm) a2
            · cases hr
          · cases hr
    · rw [if_neg (by simpa using c)] at hr
      cases hr
      have : i = ws.length := by omega
      subst this
      exact .inr g
theorem taken_good (h : VM N ds ks) (hw : ws.length ≤ 1048576) {r : List Int × Bool} (hr : impl_taken.F n N ds ks ws = some r) : r.1 = [] ∨ Gd N ks ws ws.length r.1 := by
  unfold impl_taken.F at hr
  simp only at hr
  split at hr
  · cases hr
    exact .inl rfl
  · split at hr
    · split at hr
      · cases hr
        exact .inl rfl
      · exact taken_l0 (n := n) h hw n 0 [] 0 r hr (by omega) ⟨rfl, fun t ht => by omega, fun t ht => by omega, by simp⟩ (fun h => by omega) ⟨by omega, by omega⟩
    · cases hr
theorem keep_bits {a k : Int} (ha : 0 ≤ a ∧ a ≤ 63) (hk : 0 ≤ k ∧ k ≤ 63) : bitAnd .i64 (bitOr .i64 a k) a = a ∧ bitClr .i64 (bitClr .i64 (bitOr .i64 a k) a) k = 0 := by
  have p63 : (2 : Nat) ^ 63 = 9223372036854775808 := by decide
  have hall : ((List.range 64).all fun a => (List.range 64).all fun k => (bitAnd .i64 (bitOr .i64 (a : Int) (k : Int)) (a : Int) == (a : Int)) && (bitClr .i64 (bitClr .i64 (bitOr .i64 (a : Int) (k : Int)) (a : Int)) (k : Int) == 0)) = true := by kernel_rfl
  have := List.all_eq_true.1 (List.all_eq_true.1 hall a.toNat (List.mem_range.2 (by omega))) k.toNat (List.mem_range.2 (by omega))
  simp only [Bool.and_eq_true, beq_iff_eq, show ((a.toNat : Nat) : Int) = a by omega, show ((k.toNat : Nat) : Int) = k by omega] at this
  exact this
theorem walks_l0 (h : VM N ds ks) (hw : ws.length ≤ 1048576) {l : List Int} (g : Gd N ks ws ws.length l) : ∀ (j i : Nat), ws.length - i < j → 1 ≤ i → laws_FnKeyWalks.l0 n (fun _ => some true) j N ds ks ws l i = some true
  | 0, i, hj, _ => by omega
  | j + 1, i, hj, hi => by
    rw [laws_FnKeyWalks.l0]
    have gl := g.len
    have hkl := h.kl
    by_cases c : (i : Int) < (l.length : Int)
    · obtain ⟨t, rfl⟩ : ∃ t, i = t + 1 := ⟨i - 1, by omega⟩
      have w1 : IntKind.wrap .i64 (((t + 1 : Nat) : Int) - 1) = (t : Int) := by rw [w64s (by omega) (by omega)]; omega
      have w2 : IntKind.wrap .i64 (((t + 1 : Nat) : Int) + 1) = ((t + 1 + 1 : Nat) : Int) := by rw [w64s (by omega) (by omega)]; omega
      have e1 : ((t + 1 : Nat) : Int).toNat = t + 1 := by omega
      have e2 : (t : Int).toNat = t := by omega
      have hn := g.nod (t + 1) (by omega)
      have hk := h.keys _ (getD_mem (l := ks) (i := (ws.getD (t + 1) 0).toNat) (d := (0 : Int)) (by omega))
      have ha := g.rng _ (getD_mem (l := l) (i := t) (d := (0 : Int)) (by omega))
      obtain ⟨b1, b2⟩ := keep_bits ha hk
      have i1 : 0 ≤ ((t + 1 : Nat) : Int) ∧ ((t + 1 : Nat) : Int) < (l.length : Int) := ⟨by omega, c⟩
      have i2 : 0 ≤ (t : Int) ∧ (t : Int) < (l.length : Int) := ⟨by omega, by omega⟩
      have i3 : 0 ≤ ((t + 1 : Nat) : Int) ∧ ((t + 1 : Nat) : Int) < (ws.length : Int) := ⟨by omega, by omega⟩
      have i4 : 0 ≤ ws.getD (t + 1) 0 ∧ ws.getD (t + 1) 0 < (ks.length : Int) := ⟨by omega, by omega⟩
      rw [if_pos (by simpa using c)]
      simp only [w1, w2, e1, e2, if_pos i1, if_pos i2, if_pos i3, if_pos i4, g.nxt t (by omega), b1, b2, decide_true, Bool.not_true, Bool.false_eq_true, if_false]
      exact walks_l0 h hw g j (t + 1 + 1) (by omega) (by omega)
    · rw [if_neg (by simpa using c)]
theorem walks_c50 (hn : 1048600 ≤ n) (hw : ws.length ≤ 1048576) {l : List Int} (hl : l = [] ∨ (VM N ds ks ∧ Gd N ks ws ws.length l)) : laws_FnKeyWalks.c50 n N ds ks ws l = some true := by
  unfold laws_FnKeyWalks.c50
  rcases hl with rfl | ⟨h, g⟩
  · obtain ⟨m, rfl⟩ : ∃ m, n = m + 1 := ⟨n - 1, by omega⟩
    rw [laws_FnKeyWalks.l0]
    rfl
  · have := walks_l0 (n := n) h hw g n 1 (by omega) (by omega)
    exact this
end
end Go.Pv
