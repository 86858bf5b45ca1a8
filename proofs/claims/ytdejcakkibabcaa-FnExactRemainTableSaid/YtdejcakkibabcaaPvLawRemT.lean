/- The plain law of the table of what remains. -/
import Derived.Test.YtdejcakkibabcaaPvRemT
import Derived.Test.YtdejcakkibabcaaPvMark
set_option linter.unusedVariables false
set_option linter.unusedSimpArgs false
set_option autoImplicit false
namespace Go.Pv
open Go Go.Fx Go.Pf

/-- The marks in a table's rows. -/
def markR : Int → Nat → List (List Int)
  | _, 0 => []
  | a, k + 1 => markL a 64 :: markR (a + 64) k
theorem markR_length : ∀ (a : Int) (k : Nat), (markR a k).length = k
  | _, 0 => rfl
  | a, k + 1 => by simp [markR, markR_length]
section
variable {n : Nat}
theorem markT_val (hn : 1048576 < n) : ∀ (T : List (List Int)) (a : Int), (∀ r ∈ T, r.length = 64) → 0 ≤ a → a + 64 * (T.length : Int) ≤ 8388608 → markT (laws_markIntS.F n) T a = some (a + 64 * (T.length : Int), markR a T.length)
  | [], a, _, _, _ => by
    unfold markT
    rw [List.length_nil]
    simp [markR]
  | l :: T, a, h, ha, hb => by
    have hl := h l (List.mem_cons_self ..)
    rw [List.length_cons] at hb
    unfold markT
    rw [markIntS_eq (by omega) ha (by omega) hn, Option.bind_some, hl, markT_val hn T (a + ((64 : Nat) : Int)) (fun r hr => h r (List.mem_cons_of_mem _ hr)) (by omega) (by omega), Option.bind_some, List.length_cons]
    simp only [markR]
    congr 2
    omega
theorem markIntSS_eq (hn : 1048576 < n) {T : List (List Int)} (hT : T.length ≤ 100) (hr : ∀ r ∈ T, r.length = 64) : laws_markIntSS.F n T 1 = some (1 + 64 * (T.length : Int), markR 1 T.length) := by
  unfold laws_markIntSS.F
  rw [if_pos (by omega), markT_val hn T 1 hr (by omega) (by omega)]
theorem heldIntSS_l0 (hn : 1048576 < n) {K : Int → Option Int} {Z : List (List Int)} (hZ : Z.length ≤ 100) : ∀ (j i : Nat) (a : Int), Z.length - i < j → i ≤ Z.length → 0 ≤ a → a + 64 * ((Z.length - i : Nat) : Int) ≤ 8388608 → Z.drop i = markR a (Z.length - i) →
    laws_heldIntSS.l0 n K j Z a (i : Int) = K (a + 64 * ((Z.length - i : Nat) : Int))
  | 0, i, a, hj, _, _, _, _ => by omega
  | j + 1, i, a, hj, hi, ha, hb, hd => by
    rw [laws_heldIntSS.l0]
    by_cases c : i < Z.length
    · have k1 : decide ((i : Int) < (Z.length : Int)) = true := by rw [decide_eq_true_eq]; omega
      have k2 : 0 ≤ (i : Int) ∧ (i : Int) < (Z.length : Int) := ⟨by omega, by omega⟩
      have wi : IntKind.wrap .i64 ((i : Int) + 1) = ((i + 1 : Nat) : Int) := by rw [w64s (by omega) (by omega)]; omega
      have e : Z.length - i = (Z.length - (i + 1)) + 1 := by omega
      rw [List.drop_eq_getElem_cons c, e, markR] at hd
      simp only [List.cons.injEq] at hd
      have hg : Z.getD i [] = markL a 64 := by rw [List.getD_eq_getElem?_getD, List.getElem?_eq_getElem c]; exact hd.1
      have hh := heldIntS_eq (n := n) (a := a) (k := 64) (by omega) ha (by omega) hn
      rw [if_pos k1, if_pos k2, Int.toNat_natCast, if_pos c, hg, hh, Option.bind_some, if_neg (by rw [decide_eq_true_eq]; omega), wi, heldIntSS_l0 hn hZ j (i + 1) (a + ((64 : Nat) : Int)) (by omega) (by omega) (by omega) (by omega) hd.2]
      congr 1
      omega
    · have k1 : ¬ decide ((i : Int) < (Z.length : Int)) = true := by rw [decide_eq_true_eq]; omega
      have e : Z.length - i = 0 := by omega
      rw [if_neg k1, e]
      congr 1
      omega
theorem heldIntSS_eq (hn : 1048576 < n) {k : Nat} (hk : k ≤ 100) : laws_heldIntSS.F n (markR 1 k) 1 = some (1 + 64 * (k : Int)) := by
  unfold laws_heldIntSS.F
  have hl := markR_length 1 k
  have := heldIntSS_l0 (n := n) hn (K := fun y2 => some y2) (Z := markR 1 k) (by omega) n 0 1 (by omega) (by omega) (by omega) (by omega) (by rw [List.drop_zero, Nat.sub_zero, hl])
  rw [Nat.sub_zero, hl] at this
  exact this
theorem eqIntSS_l0 (hn : 1048578 ≤ n) {T : List (List Int)} (hT : T.length ≤ 1000) (hl : ∀ r ∈ T, r.length = 64) {K : Unit → Option Bool} : ∀ (j i : Nat), T.length - i < j → i ≤ T.length → laws_eqIntSS.l0 n K j T T (i : Int) = K ()
  | 0, i, hj, hi => by omega
  | j + 1, i, hj, hi => by
    rw [laws_eqIntSS.l0]
    by_cases c : i < T.length
    · have k1 : decide ((i : Int) < (T.length : Int)) = true := by rw [decide_eq_true_eq]; omega
      have k2 : 0 ≤ (i : Int) ∧ (i : Int) < (T.length : Int) := ⟨by omega, by omega⟩
      have wi : IntKind.wrap .i64 ((i : Int) + 1) = ((i + 1 : Nat) : Int) := by rw [w64s (by omega) (by omega)]; omega
      have hm := hl (T.getD i []) (getD_mem c)
      rw [if_pos k1, if_pos k2, Int.toNat_natCast, if_pos c, if_pos k2, if_pos c, eqIntS_self (by omega) (by omega), Option.bind_some, if_neg (by simp), wi]
      exact eqIntSS_l0 hn hT hl j (i + 1) (by omega) (by omega)
    · have k1 : ¬ decide ((i : Int) < (T.length : Int)) = true := by rw [decide_eq_true_eq]; omega
      rw [if_neg k1]
theorem eqIntSS_self (hn : 1048578 ≤ n) {T : List (List Int)} (hT : T.length ≤ 1000) (hl : ∀ r ∈ T, r.length = 64) : laws_eqIntSS.F n T T = some true := by
  unfold laws_eqIntSS.F
  rw [if_neg (by simp)]
  exact eqIntSS_l0 hn hT hl n 0 (by omega) (Nat.zero_le _)
end
theorem lawRemainTable (N : Int) (ds : List (Int × Int × Int)) (ks : List Int) (hd : ds.length ≤ maxLen) (hk : ks.length ≤ maxLen) : ∃ n, laws_FnExactRemainTable.F n N ds ks = some true := by
  refine ⟨2000000, ?_⟩
  unfold laws_FnExactRemainTable.F
  obtain ⟨r, hr, hrr⟩ := szMaze_some 2000000 N ds ks hd hk
  rw [hr, Option.bind_some]
  by_cases c : r < 0
  · rw [if_pos (by simpa using c)]
  rw [if_neg (by simpa using c)]
  have hl : ds.length + ks.length ≤ 1048576 := hrr.resolve_left c
  have d1 : ds.length ≤ 1048576 := by omega
  have d2 : ks.length ≤ 1048576 := by omega
  obtain ⟨q, hq, hq2, h1, h2, _, _⟩ := RemainTable_q (n := 2000000) (N := N) (ds := ds) (ks := ks) (by omega)
  have m1 := markMaze_eq (n := 2000000) (N := N) (a := 1) d1 d2 (by omega) (by omega) (by omega)
  have z1 := ndec_neg (a := 1 + 3 * (ds.length : Int) + (ks.length : Int)) (by omega)
  have m2 := eqIntSS_self (n := 2000000) (by omega) (T := q.1) (by omega) hq2
  have m3 := markIntSS_eq (n := 2000000) (by omega) (T := q.1) (by omega) hq2
  have m4 := heldIntSS_eq (n := 2000000) (by omega) (k := q.1.length) (by omega)
  have z2 := ndec_neg (a := 1 + 64 * (q.1.length : Int)) (by omega)
  simp only [toMaze_L d1 d2, Option.bind_some, h1, h2, eqMaze_L d1 d2, m1, z1, m2, m3, m4, z2, beqB_self, neqI_self, decide_true, Bool.not_true, Bool.false_eq_true, if_false]
end Go.Pv
