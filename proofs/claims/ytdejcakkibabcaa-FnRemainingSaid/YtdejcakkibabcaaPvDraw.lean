/- Plain laws: what is drawn from bytes. -/
import Derived.Test.YtdejcakkibabcaaPvBits
set_option linter.unusedVariables false
set_option linter.unusedSimpArgs false
set_option autoImplicit false
namespace Go.Pv
open Go Go.Fx Go.Pf

def Bytes (cd : List Int) : Prop := ∀ x ∈ cd, 0 ≤ x ∧ x ≤ 255
/-- A draw that goes on by at most C bytes, and whose value is told by P. -/
def Dr {β : Type} (cd : List Int) (a C : Int) (f : Option (List Int × Int × Int × β)) (P : β → Prop) : Prop :=
  ∃ a' s' v, f = some (cd, a', s', v) ∧ a ≤ a' ∧ a' ≤ a + C ∧ P v
theorem Dr.bind {β γ : Type} {cd : List Int} {a C D : Int} {f : Option (List Int × Int × Int × β)} {P : β → Prop} {g : List Int × Int × Int × β → Option (List Int × Int × Int × γ)} {Q : γ → Prop}
    (h : Dr cd a C f P) (k : ∀ a' s' v, a ≤ a' → a' ≤ a + C → P v → Dr cd a' D (g (cd, a', s', v)) Q) : Dr cd a (C + D) (f.bind g) Q := by
  obtain ⟨a1, s1, v1, rfl, h1, h2, h3⟩ := h
  obtain ⟨a2, s2, v2, h4, h5, h6, h7⟩ := k a1 s1 v1 h1 h2 h3
  exact ⟨a2, s2, v2, h4, by omega, by omega, h7⟩
theorem Dr.ret {β : Type} {cd : List Int} {a C s : Int} {v : β} {P : β → Prop} (hC : 0 ≤ C) (h : P v) : Dr cd a C (some (cd, a, s, v)) P :=
  ⟨a, s, v, rfl, Int.le_refl a, by omega, h⟩
theorem Dr.mono {β : Type} {cd : List Int} {a C D : Int} {f : Option (List Int × Int × Int × β)} {P Q : β → Prop} (h : Dr cd a C f P) (hC : C ≤ D) (hPQ : ∀ v, P v → Q v) : Dr cd a D f Q := by
  obtain ⟨a1, s1, v1, h0, h1, h2, h3⟩ := h
  exact ⟨a1, s1, v1, h0, h1, by omega, hPQ _ h3⟩

theorem u64_small {x : Int} (h1 : 0 ≤ x) (h2 : x ≤ 255) : IntKind.wrap .u64 x = x := by
  have : IntKind.wrap .u64 x = x % 18446744073709551616 := by simp [IntKind.wrap, IntKind.bits, IntKind.signed]
  rw [this]
  omega
theorem and255 (x : Int) : 0 ≤ bitAnd .u64 x 255 ∧ bitAnd .u64 x 255 ≤ 255 := by
  unfold bitAnd
  have h : ((BitVec.ofInt (IntKind.bits .u64) x &&& BitVec.ofInt (IntKind.bits .u64) 255).toNat) ≤ 255 := by
    rw [BitVec.toNat_and]
    exact Nat.and_le_right
  rw [u64_small (by omega) (by omega)]
  omega

section
variable {n : Nat} {cd : List Int} {a s : Int}
theorem next_ok (hb : Bytes cd) (h0 : 0 ≤ a) (h1 : a ≤ 1152921504606846976) : Dr cd a 1 (spec_l1Cur_next.F n cd a s) fun v => 0 ≤ v ∧ v ≤ 255 := by
  unfold spec_l1Cur_next.F
  have wa : IntKind.wrap .i64 (a + 1) = a + 1 := w64s (by omega) (by omega)
  simp only [wa]
  by_cases c : a < (cd.length : Int)
  · have k1 : decide (a < (cd.length : Int)) = true := by simpa using c
    have k2 : 0 ≤ a ∧ a < (cd.length : Int) := ⟨h0, c⟩
    have k3 : decide (a + 1 ≤ (cd.length : Int)) = true := by simp; omega
    have hm := hb _ (getD_mem (l := cd) (i := a.toNat) (d := (0 : Int)) (by omega))
    rw [if_pos k1, if_pos k2, if_pos k3, w64s (x := cd.getD a.toNat 0) hm.1 (by omega)]
    exact ⟨a + 1, _, _, rfl, by omega, by omega, hm⟩
  · have k1 : ¬ decide (a < (cd.length : Int)) = true := by simpa using c
    have k3 : ¬ decide (a + 1 ≤ (cd.length : Int)) = true := by simp; omega
    rw [if_neg k1, if_neg k3]
    have h := and255 (shR .u64 (IntKind.wrap .u64 (IntKind.wrap .u64 (IntKind.wrap .u64 (s * 6364136223846793005) + IntKind.wrap .u64 0) + 462197)) 40)
    rw [w64s h.1 (by omega)]
    exact ⟨a + 1, _, _, rfl, by omega, by omega, h⟩
theorem pick_ok (hb : Bytes cd) (h0 : 0 ≤ a) (h1 : a ≤ 1152921504606846000) (m : Int) : Dr cd a 2 (spec_l1Cur_pick.F n cd a s m) fun v => 0 ≤ v ∧ (1 < m → v < m) ∧ (m ≤ 1 → v = 0) := by
  unfold spec_l1Cur_pick.F
  by_cases c : m ≤ 1
  · rw [if_pos (by simpa using c)]
    exact .ret (by omega) ⟨by omega, by omega, by omega⟩
  · rw [if_neg (by simpa using c)]
    refine Dr.bind (C := 1) (D := 1) (next_ok hb h0 (by omega)) fun a1 s1 v1 h2 h3 hv => ?_
    have hm : ¬ m = 0 := by omega
    simp only [if_neg hm]
    by_cases c2 : m > 200
    · rw [if_pos (by simpa using c2)]
      refine Dr.bind (C := 1) (D := 0) (next_ok hb (by omega) (by omega)) fun a2 s2 v2 h4 h5 hv2 => ?_
      simp only
      rw [w64s (x := v1 * 256) (by omega) (by omega), w64s (by omega) (by omega)]
      have hp : 0 ≤ v1 * 256 + v2 := by omega
      refine .ret (by omega) ⟨Int.tmod_nonneg _ hp, fun _ => Int.tmod_lt_of_pos _ (by omega), by omega⟩
    · rw [if_neg (by simpa using c2)]
      refine .ret (by omega) ⟨Int.tmod_nonneg _ hv.1, fun _ => Int.tmod_lt_of_pos _ (by omega), by omega⟩
theorem one_ok (hb : Bytes cd) (h0 : 0 ≤ a) (h1 : a ≤ 1152921504606846000) (m : Int) : Dr cd a 2 (spec_l1Cur_one.F n cd a s m) fun _ => True := by
  unfold spec_l1Cur_one.F
  refine Dr.bind (C := 2) (D := 0) (pick_ok hb h0 h1 m) fun a1 s1 v1 h2 h3 hv => ?_
  exact Dr.ret (Int.le_refl 0) trivial
theorem among_ok (hb : Bytes cd) (h0 : 0 ≤ a) (h1 : a ≤ 1152921504606846000) {l : List Int} (hl : l ≠ []) : Dr cd a 2 (spec_l1Cur_among.F n cd a s l) fun v => v ∈ l := by
  unfold spec_l1Cur_among.F
  have hlen : 0 < l.length := List.length_pos_iff.2 hl
  refine (Dr.bind (C := 2) (D := 0) (pick_ok hb h0 h1 _) fun a1 s1 v1 h2 h3 hv => ?_).mono (by omega) fun _ h => h
  have k : 0 ≤ v1 ∧ v1 < (l.length : Int) := by
    obtain ⟨p1, p2, p3⟩ := hv
    refine ⟨p1, ?_⟩
    by_cases c : (l.length : Int) ≤ 1
    · rw [p3 c]; omega
    · exact p2 (by omega)
  simp only [if_pos k]
  exact .ret (by omega) (getD_mem (by omega))

/-! ### Sets of few colours -/
theorem few_l0 (hb : Bytes cd) {m : Int} {K : List Int → Int → Int → Int → Option (List Int × Int × Int × Int)} {C : Int} {P : Int → Prop}
    (hK : ∀ a s v, 0 ≤ a → Dr cd a C (K cd a s v) P) : ∀ (j : Nat) (a s v k : Int), 0 ≤ a → a + 2 * k.toNat ≤ 1152921504606800000 → k.toNat < j → k ≤ 10 → Dr cd a (C + 2 * k.toNat) (spec_l1Cur_few.l0 n K j cd a s m v k) P
  | 0, a, s, v, k, _, _, hj, _ => by omega
  | j + 1, a, s, v, k, h0, h1, hj, hk => by
    rw [spec_l1Cur_few.l0]
    by_cases c : k > 0
    · rw [if_pos (by simpa using c)]
      have e : C + 2 * (k.toNat : Int) = 2 + (C + 2 * ((k - 1).toNat : Int)) := by omega
      rw [e]
      refine Dr.bind (pick_ok hb h0 (by omega) m) fun a1 s1 v1 h2 h3 hv => ?_
      simp only [if_neg (show ¬ v1 < 0 by omega)]
      rw [w64 (x := k - 1) (by omega) (by omega)]
      exact few_l0 hb hK j a1 s1 _ (k - 1) (by omega) (by omega) (by omega) (by omega)
    · rw [if_neg (by simpa using c)]
      exact (hK a s v h0).mono (by omega) fun _ h => h
theorem few_ok (hn : 20 ≤ n) (hb : Bytes cd) (h0 : 0 ≤ a) (h1 : a ≤ 1152921504606790000) (m : Int) : Dr cd a 6 (spec_l1Cur_few.F n cd a s m) fun _ => True := by
  unfold spec_l1Cur_few.F
  refine Dr.bind (C := 2) (D := 4) (among_ok hb h0 (by omega) (by simp)) fun a1 s1 v1 h2 h3 hv => ?_
  have hv2 : v1 ≤ 2 := by
    simp at hv
    omega
  exact (few_l0 (C := 0) hb (fun a s v _ => .ret (by omega) trivial) n a1 s1 0 v1 (by omega) (by omega) (by omega) (by omega)).mono (by omega) fun _ h => h

/-! ### A door is put to its place -/
theorem before_some (a b c d e f : Int) : ∃ r, spec_l2Before.F n a b c d e f = some r := by
  unfold spec_l2Before.F
  repeat' split
  all_goals exact ⟨_, rfl⟩
theorem putAny_l0 {K : List (Int × Int × Int) → Int → Int → Int → Int → Option (List (Int × Int × Int))} {l : List (Int × Int × Int)} {x y z : Int} (hl : l.length ≤ 1000000) : ∀ (j k : Nat), l.length - k < j → k ≤ l.length →
    ∃ k', k' ≤ l.length ∧ spec_l2Put.l0 n K j l x y z (k : Int) = K l x y z (k' : Int)
  | 0, k, hj, _ => by omega
  | j + 1, k, hj, hk => by
    rw [spec_l2Put.l0]
    by_cases c : (k : Int) < (l.length : Int)
    · rw [if_pos (by simpa using c), if_pos ⟨by omega, c⟩]
      obtain ⟨r, hr⟩ := before_some (n := n) ((l.getD (k : Int).toNat ((0 : Int), (0 : Int), (0 : Int))).1) ((l.getD (k : Int).toNat ((0 : Int), (0 : Int), (0 : Int))).2.1) ((l.getD (k : Int).toNat ((0 : Int), (0 : Int), (0 : Int))).2.2) x y z
      rw [hr, Option.bind_some]
      cases r with
      | false => exact ⟨k, hk, by simp⟩
      | true =>
        have wi : IntKind.wrap .i64 ((k : Int) + 1) = ((k + 1 : Nat) : Int) := by rw [w64s (by omega) (by omega)]; omega
        simp only [if_true, wi]
        exact putAny_l0 hl j (k + 1) (by omega) (by omega)
    · rw [if_neg (by simpa using c)]
      exact ⟨k, hk, rfl⟩
theorem putAny {l : List (Int × Int × Int)} (hl : l.length ≤ 1000000) (hn : l.length < n) (x y z : Int) : ∃ r, spec_l2Put.F n l x y z = some r ∧ r.length ≤ l.length + 1 := by
  unfold spec_l2Put.F
  obtain ⟨p, hp⟩ : ∃ p, spec_l1Least.F n x y = some p := by unfold spec_l1Least.F; split <;> exact ⟨_, rfl⟩
  obtain ⟨q, hq⟩ : ∃ q, spec_l1Most.F n x y = some q := by unfold spec_l1Most.F; split <;> exact ⟨_, rfl⟩
  rw [hp, hq, Option.bind_some, Option.bind_some]
  obtain ⟨k, hk, he⟩ := putAny_l0 (n := n) (l := l) (x := p) (y := q) (z := z) (K := fun y4 y5 y6 y7 y8 =>
    if (decide (y8 < (y4.length : Int))) = true then
      if 0 ≤ y8 ∧ y8 < (y4.length : Int) then (if (decide (((y4.getD y8.toNat ((0 : Int), (0 : Int), (0 : Int))).1) = y5) && (decide (((y4.getD y8.toNat ((0 : Int), (0 : Int), (0 : Int))).2.1) = y6) && (decide (((y4.getD y8.toNat ((0 : Int), (0 : Int), (0 : Int))).2.2) = y7) && true))) = true then
        some y4
      else
        if 0 ≤ y8 ∧ y8 ≤ (y4.length : Int) then (if ([] : List (Int × Int × Int)).length + (y4.take y8.toNat).length ≤ 4398046511104 then (if (([] : List (Int × Int × Int)) ++ (y4.take y8.toNat)).length + ([(y5, y6, y7)] : List (Int × Int × Int)).length ≤ 4398046511104 then (if 0 ≤ y8 ∧ y8 ≤ (y4.length : Int) then (if ((([] : List (Int × Int × Int)) ++ (y4.take y8.toNat)) ++ ([(y5, y6, y7)] : List (Int × Int × Int))).length + (y4.drop y8.toNat).length ≤ 4398046511104 then (some (((([] : List (Int × Int × Int)) ++ (y4.take y8.toNat)) ++ ([(y5, y6, y7)] : List (Int × Int × Int))) ++ (y4.drop y8.toNat))) else none) else none) else none) else none) else none) else none
    else
      if 0 ≤ y8 ∧ y8 ≤ (y4.length : Int) then (if ([] : List (Int × Int × Int)).length + (y4.take y8.toNat).length ≤ 4398046511104 then (if (([] : List (Int × Int × Int)) ++ (y4.take y8.toNat)).length + ([(y5, y6, y7)] : List (Int × Int × Int)).length ≤ 4398046511104 then (if 0 ≤ y8 ∧ y8 ≤ (y4.length : Int) then (if ((([] : List (Int × Int × Int)) ++ (y4.take y8.toNat)) ++ ([(y5, y6, y7)] : List (Int × Int × Int))).length + (y4.drop y8.toNat).length ≤ 4398046511104 then (some (((([] : List (Int × Int × Int)) ++ (y4.take y8.toNat)) ++ ([(y5, y6, y7)] : List (Int × Int × Int))) ++ (y4.drop y8.toNat))) else none) else none) else none) else none) else none) hl n 0 (by omega) (by omega)
  simp only [Int.natCast_zero] at he
  rw [he]
  have et : (k : Int).toNat = k := by omega
  have g0 : 0 ≤ (k : Int) ∧ (k : Int) ≤ (l.length : Int) := by omega
  have g1 : ([] : List (Int × Int × Int)).length + (l.take k).length ≤ 4398046511104 := by simp; omega
  have g2 : (([] : List (Int × Int × Int)) ++ l.take k).length + ([(p, q, z)] : List (Int × Int × Int)).length ≤ 4398046511104 := by simp; omega
  have g3 : ((([] : List (Int × Int × Int)) ++ l.take k) ++ ([(p, q, z)] : List (Int × Int × Int))).length + (l.drop k).length ≤ 4398046511104 := by simp; omega
  have hlen : (((([] : List (Int × Int × Int)) ++ l.take k) ++ ([(p, q, z)] : List (Int × Int × Int))) ++ l.drop k).length ≤ l.length + 1 := by simp; omega
  simp only [et, if_pos g0, if_pos g1, if_pos g2, if_pos g3]
  by_cases c : (k : Int) < (l.length : Int)
  · rw [if_pos (by simpa using c), if_pos ⟨by omega, c⟩]
    split
    · exact ⟨l, rfl, by omega⟩
    · exact ⟨_, rfl, hlen⟩
  · rw [if_neg (by simpa using c)]
    exact ⟨_, rfl, hlen⟩
end
end Go.Pv
