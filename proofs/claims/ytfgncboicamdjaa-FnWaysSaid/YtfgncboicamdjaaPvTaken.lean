/- The plain laws of FnExactIsKeyWalk and FnExactTakenOn. -/
import Derived.Test.YtfgncboicamdjaaPvSteps
import Derived.Test.YtfgncboicamdjaaPvMark
set_option linter.unusedVariables false
set_option linter.unusedSimpArgs false
set_option autoImplicit false
namespace Go.Pv
open Go Go.Fx Go.Pf

theorem or64 {a b : Int} (h1 : 0 ≤ a) (h2 : a ≤ 63) (h3 : 0 ≤ b) (h4 : b ≤ 63) : 0 ≤ bitOr .i64 a b ∧ bitOr .i64 a b ≤ 63 := by
  have p : (2 : Nat) ^ 6 = 64 := by decide
  have p63 : (2 : Nat) ^ 63 = 9223372036854775808 := by decide
  have e1 : a = ((a.toNat : Nat) : Int) := by omega
  have e2 : b = ((b.toNat : Nat) : Int) := by omega
  rw [e1, e2, bitOr_nat (by omega) (by omega)]
  have := Nat.or_lt_two_pow (x := a.toNat) (y := b.toNat) (n := 6) (by omega) (by omega)
  omega
/-- Both loops over a walk go on or stop together. -/
theorem taken_loop {n : Nat} (hn : 40 ≤ n) {N : Int} {ds : List (Int × Int × Int)} {ks : List Int} (h : VM N ds ks) {ws : List Int} (hw : ws.length ≤ 1048576) (h0 : ws.getD 0 0 = 0) {K K' : List Int → Option (List Int × Bool)} :
    ∀ (j i : Nat) (out : List Int) (hv : Int), ws.length - i < j → out.length = i → i ≤ ws.length → (0 ≤ hv ∧ hv ≤ 63) → (∀ e ∈ out, 0 ≤ e ∧ e ≤ 63) →
      ∃ res : Option (List Int), (∀ l, res = some l → l.length = ws.length ∧ (∀ e ∈ l, 0 ≤ e ∧ e ≤ 63) ∧ ∀ m, i ≤ m → m < ws.length → 0 ≤ ws.getD m 0 ∧ ws.getD m 0 < N) ∧ spec_l2Taken.l0 n K j ws N ds ks out hv i = (match res with | some l => K l | none => some ([], false)) ∧
        impl_taken.l0 n K' j ws N ds ks out hv ws.length i = (match res with | some l => K' l | none => some ([], false))
  | 0, i, out, hv, hj, _, _, _, _ => by omega
  | j + 1, i, out, hv, hj, hout, hi, hhv, hor => by
    rw [spec_l2Taken.l0, impl_taken.l0]
    by_cases c : (i : Int) < (ws.length : Int)
    · have ci : i < ws.length := by omega
      have ei : (i : Int).toNat = i := by omega
      have k1 : decide ((i : Int) < (ws.length : Int)) = true := by simpa using c
      have k2 : 0 ≤ (i : Int) ∧ (i : Int) < (ws.length : Int) := ⟨by omega, c⟩
      have wi : IntKind.wrap .i64 ((i : Int) + 1) = ((i + 1 : Nat) : Int) := by rw [w64s (by omega) (by omega)]; omega
      have n1 := h.n1
      have n2 := h.n2
      have wN : IntKind.wrap .i64 (N - 1) = N - 1 := w64s (by omega) (by omega)
      simp only [if_pos k1, if_pos k2, l1In_eq, within_eq, Option.bind_some, wN, wi, ei]
      by_cases c1 : 0 ≤ ws.getD i 0 ∧ ws.getD i 0 ≤ N - 1
      · have b1 := nin_false c1
        have hkl := h.kl
        have k3 : 0 ≤ ws.getD i 0 ∧ ws.getD i 0 < (ks.length : Int) := ⟨c1.1, by omega⟩
        have k4 : ∀ v : Int, out.length + ([v] : List Int).length ≤ 4398046511104 := fun v => by simp; omega
        have hkm := h.keys _ (getD_mem (l := ks) (i := (ws.getD i 0).toNat) (d := (0 : Int)) (by omega))
        have hvr := or64 hhv.1 hhv.2 hkm.1 hkm.2
        have go : ∃ res : Option (List Int), (∀ l, res = some l → l.length = ws.length ∧ (∀ e ∈ l, 0 ≤ e ∧ e ≤ 63) ∧ ∀ m, i ≤ m → m < ws.length → 0 ≤ ws.getD m 0 ∧ ws.getD m 0 < N) ∧
            spec_l2Taken.l0 n K j ws N ds ks (out ++ [bitOr .i64 hv (ks.getD (ws.getD i 0).toNat 0)]) (bitOr .i64 hv (ks.getD (ws.getD i 0).toNat 0)) ((i + 1 : Nat) : Int) = (match res with | some l => K l | none => some ([], false)) ∧
            impl_taken.l0 n K' j ws N ds ks (out ++ [bitOr .i64 hv (ks.getD (ws.getD i 0).toNat 0)]) (bitOr .i64 hv (ks.getD (ws.getD i 0).toNat 0)) ws.length ((i + 1 : Nat) : Int) = (match res with | some l => K' l | none => some ([], false)) := by
          obtain ⟨res, a1, a2, a3⟩ := taken_loop hn h hw h0 (K := K) (K' := K') j (i + 1) (out ++ [bitOr .i64 hv (ks.getD (ws.getD i 0).toNat 0)]) (bitOr .i64 hv (ks.getD (ws.getD i 0).toNat 0)) (by omega) (by simp [hout]) (by omega) hvr (fun e he => by
            rcases List.mem_append.1 he with he | he
            · exact hor e he
            · rw [List.mem_singleton] at he; rw [he]; exact hvr)
          refine ⟨res, fun l hl => ?_, a2, a3⟩
          obtain ⟨b1, b2, b3⟩ := a1 l hl
          refine ⟨b1, b2, fun m hm hm2 => ?_⟩
          by_cases e : m = i
          · subst e; exact ⟨c1.1, by omega⟩
          · exact b3 m (by omega) hm2
        have hneg : ¬ ws.getD i 0 < 0 := by omega
        simp only [b1, Bool.false_eq_true, if_false, if_pos k3, if_pos (k4 _), if_neg hneg]
        by_cases c2 : i = 0
        · subst c2
          have g0 : decide (((0 : Nat) : Int) = 0) = true := by simp
          have g1 : ¬ decide (((0 : Nat) : Int) > 0) = true := by simp
          have g2 : (!decide (ws.getD 0 0 = 0)) = false := by rw [h0]; rfl
          have g3 : (0 : Int) ≤ 0 ∧ (0 : Int) < (ws.length : Int) := ⟨by omega, by omega⟩
          simp only [g0, if_true, if_neg g1, if_pos g3, g2, Bool.false_eq_true, if_false]
          exact go
        · have g0 : ¬ decide ((i : Int) = 0) = true := by simpa using c2
          have g1 : decide ((i : Int) > 0) = true := by simp; omega
          have g4 : IntKind.wrap .i64 ((i : Int) - 1) = (i : Int) - 1 := w64s (by omega) (by omega)
          have g5 : 0 ≤ (i : Int) - 1 ∧ (i : Int) - 1 < (ws.length : Int) := ⟨by omega, by omega⟩
          simp only [if_neg g0, if_pos g1, g4, if_pos g5]
          rw [l2Open_eq (by have := h.dl; omega) (by have := h.dl; omega), steps_eq hn h, Option.bind_some, Option.bind_some, steps_bit0 h _ _ _ c1.1 (by omega)]
          cases openB ds (ws.getD ((i : Int) - 1).toNat 0) (ws.getD i 0) hv with
          | true =>
            simp only [Bool.not_true, Bool.false_eq_true, if_false]
            exact go
          | false =>
            simp only [Bool.not_false, if_true]
            exact ⟨none, by simp, rfl, rfl⟩
      · have b1 := nin_true c1
        simp only [b1, if_true]
        exact ⟨none, by simp, rfl, rfl⟩
    · have k1 : ¬ decide ((i : Int) < (ws.length : Int)) = true := by simpa using c
      simp only [if_neg k1]
      exact ⟨some out, by intro l hl; cases hl; exact ⟨by omega, hor, fun m hm hm2 => by omega⟩, rfl, rfl⟩

theorem taken_same {n : Nat} (hn : 40 ≤ n) {N : Int} {ds : List (Int × Int × Int)} {ks : List Int} (h : VM N ds ks) {ws : List Int} (hw : ws.length ≤ 1048576) (hwn : ws.length < n) :
    ∃ r : List Int × Bool, r.1.length ≤ 1048576 ∧ (r.2 = true → 0 < ws.length ∧ r.1.length = ws.length ∧ (∀ e ∈ r.1, 0 ≤ e ∧ e ≤ 63) ∧ ∀ m, m < ws.length → 0 ≤ ws.getD m 0 ∧ ws.getD m 0 < N) ∧ spec_l2Taken.F n N ds ks ws = some r ∧ impl_taken.F n N ds ks ws = some r := by
  unfold spec_l2Taken.F impl_taken.F
  by_cases c : ws.length = 0
  · have : ws = [] := List.length_eq_zero_iff.1 c
    subst this
    obtain ⟨m, rfl⟩ : ∃ m, n = m + 1 := ⟨n - 1, by omega⟩
    refine ⟨([], false), by simp, by simp, ?_, ?_⟩
    · rw [spec_l2Taken.l0]
      simp
    · simp
  · have c' : ¬ decide ((ws.length : Int) = 0) = true := by rw [decide_eq_true_eq]; omega
    have c2 : (0 : Int) ≤ 0 ∧ (0 : Int) < (ws.length : Int) := ⟨by omega, by omega⟩
    simp only [if_neg c', if_pos c2]
    by_cases h0 : ws.getD 0 0 = 0
    · have g : (!decide (ws.getD 0 0 = 0)) = false := by rw [h0]; rfl
      simp only [g, Bool.false_eq_true, if_false]
      obtain ⟨res, hlen, h1, h2⟩ := taken_loop hn h hw h0 (K := fun y => some (y, decide ((y.length : Int) > 0))) (K' := fun y3 => some (y3, true)) n 0 [] 0 (by omega) rfl (by omega) ⟨by omega, by omega⟩ (by simp)
      simp only [Int.natCast_zero] at h1 h2
      cases res with
      | none => exact ⟨_, by simp, by simp, h1, h2⟩
      | some l =>
        obtain ⟨hl, hl2, hl3⟩ := hlen l rfl
        have : decide ((l.length : Int) > 0) = true := by simp; omega
        refine ⟨(l, true), by simp only; omega, fun _ => ⟨by omega, hl, hl2, fun m hm => hl3 m (by omega) hm⟩, ?_, h2⟩
        rw [h1]
        simp only [this]
    · have g : (!decide (ws.getD 0 0 = 0)) = true := by rw [decide_eq_false h0]; rfl
      simp only [g, if_true]
      refine ⟨([], false), by simp, by simp, ?_, rfl⟩
      obtain ⟨m, rfl⟩ : ∃ m, n = m + 1 := ⟨n - 1, by omega⟩
      rw [spec_l2Taken.l0]
      have k1 : decide ((0 : Int) < (ws.length : Int)) = true := by simp; omega
      have z : (0 : Int).toNat = 0 := rfl
      simp only [if_pos k1, if_pos c2, l1In_eq, Option.bind_some, z]
      split
      · rfl
      · simp only [decide_true, if_true, g]
end Go.Pv
