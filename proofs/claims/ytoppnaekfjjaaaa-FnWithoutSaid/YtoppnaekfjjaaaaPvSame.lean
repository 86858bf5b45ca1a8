/- Plain laws: a maze is held against itself; numbers are looked for; bytes of an argument. -/
import Derived.Test.YtoppnaekfjjaaaaPvDrawM
import Derived.Test.YtoppnaekfjjaaaaPvMark
set_option linter.unusedVariables false
set_option linter.unusedSimpArgs false
set_option autoImplicit false
namespace Go.Pv
open Go Go.Fx Go.Pf

section
variable {n : Nat}
theorem vInts_l0 {K : Unit → Option Bool} {xs : List Int} (hx : xs.length ≤ 1048576) : ∀ (j i : Nat), xs.length - i < j → laws_vInts.l0 n K j xs xs (i : Int) = K ()
  | 0, i, h => by omega
  | j + 1, i, h => by
    rw [laws_vInts.l0]
    by_cases c : (i : Int) < (xs.length : Int)
    · have wi : IntKind.wrap .i64 ((i : Int) + 1) = ((i + 1 : Nat) : Int) := by rw [w64s (by omega) (by omega)]; omega
      rw [if_pos (by simpa using c), if_pos ⟨by omega, c⟩, if_pos ⟨by omega, c⟩, wi, neqI_self, if_neg (by simp)]
      exact vInts_l0 hx j (i + 1) (by omega)
    · rw [if_neg (by simpa using c)]
theorem vInts_self (hn : 1048578 ≤ n) {xs : List Int} (hx : xs.length ≤ 1048576) : laws_vInts.F n xs xs = some true := by
  unfold laws_vInts.F
  have := vInts_l0 (n := n) (K := fun _ => some true) hx n 0 (by omega)
  simp only [Int.natCast_zero] at this
  rw [neqI_self, if_neg (by simp), this]
theorem vMaze_l0 {K : Unit → Option Bool} {N : Int} {ds : List (Int × Int × Int)} {ks : List Int} (hx : ds.length ≤ 1048576) : ∀ (j i : Nat), ds.length - i < j → laws_vMaze.l0 n K j N ds ks N ds ks (i : Int) = K ()
  | 0, i, h => by omega
  | j + 1, i, h => by
    rw [laws_vMaze.l0]
    by_cases c : (i : Int) < (ds.length : Int)
    · have wi : IntKind.wrap .i64 ((i : Int) + 1) = ((i + 1 : Nat) : Int) := by rw [w64s (by omega) (by omega)]; omega
      rw [if_pos (by simpa using c), if_pos ⟨by omega, c⟩, if_pos ⟨by omega, c⟩, wi, if_neg (by simp)]
      exact vMaze_l0 hx j (i + 1) (by omega)
    · rw [if_neg (by simpa using c)]
theorem vMaze_self (hn : 1048578 ≤ n) {N : Int} {ds : List (Int × Int × Int)} {ks : List Int} (hx : ds.length ≤ 1048576) (hk : ks.length ≤ 1048576) : laws_vMaze.F n N ds ks N ds ks = some true := by
  unfold laws_vMaze.F
  have := vMaze_l0 (n := n) (K := fun _ => some true) (N := N) (ks := ks) hx n 0 (by omega)
  simp only [Int.natCast_zero] at this
  simp [vInts_self hn hk, this]
theorem vHas_l0 {K : Unit → Option Bool} {xs : List Int} {y : Int} (hx : xs.length ≤ 1048576) (hy : y ∈ xs) : ∀ (j i : Nat), xs.length - i < j → y ∈ xs.drop i → laws_vHas.l0 n K j xs y (i : Int) = some true
  | 0, i, h, _ => by omega
  | j + 1, i, h, hm => by
    rw [laws_vHas.l0]
    by_cases c : (i : Int) < (xs.length : Int)
    · have wi : IntKind.wrap .i64 ((i : Int) + 1) = ((i + 1 : Nat) : Int) := by rw [w64s (by omega) (by omega)]; omega
      have ei : (i : Int).toNat = i := by omega
      rw [if_pos (by simpa using c), if_pos ⟨by omega, c⟩, wi, ei]
      by_cases e : xs.getD i 0 = y
      · rw [if_pos (by simpa using e)]
      · rw [if_neg (by simpa using e)]
        refine vHas_l0 hx hy j (i + 1) (by omega) ?_
        rw [getD_drop (d := (0 : Int)) (by omega), List.mem_cons] at hm
        exact hm.resolve_left fun q => e q.symm
    · rw [List.drop_eq_nil_of_le (by omega)] at hm
      simp at hm
theorem vHas_true (hn : 1048578 ≤ n) {xs : List Int} {y : Int} (hx : xs.length ≤ 1048576) (hy : y ∈ xs) : laws_vHas.F n xs y = some true := by
  unfold laws_vHas.F
  exact vHas_l0 hx hy n 0 (by omega) (by simpa using hy)
theorem vWithin_l0 (hn : 1048578 ≤ n) {K : Unit → Option Bool} {xs ys : List Int} (hx : xs.length ≤ 1048576) (hy : ys.length ≤ 1048576) (hm : ∀ x ∈ xs, x ∈ ys) : ∀ (j i : Nat), xs.length - i < j → laws_vWithin.l0 n K j xs ys (i : Int) = K ()
  | 0, i, h => by omega
  | j + 1, i, h => by
    rw [laws_vWithin.l0]
    by_cases c : (i : Int) < (xs.length : Int)
    · have wi : IntKind.wrap .i64 ((i : Int) + 1) = ((i + 1 : Nat) : Int) := by rw [w64s (by omega) (by omega)]; omega
      have ei : (i : Int).toNat = i := by omega
      rw [if_pos (by simpa using c), if_pos ⟨by omega, c⟩, wi, ei, vHas_true hn hy (hm _ (getD_mem (by omega))), Option.bind_some, if_neg (by simp)]
      exact vWithin_l0 hn hx hy hm j (i + 1) (by omega)
    · rw [if_neg (by simpa using c)]
theorem vWithin_true (hn : 1048578 ≤ n) {xs ys : List Int} (hx : xs.length ≤ 1048576) (hy : ys.length ≤ 1048576) (hm : ∀ x ∈ xs, x ∈ ys) : laws_vWithin.F n xs ys = some true := by
  unfold laws_vWithin.F
  exact vWithin_l0 hn hx hy hm n 0 (by omega)

theorem u8_wrap (x : Int) : 0 ≤ IntKind.wrap .u8 x ∧ IntKind.wrap .u8 x ≤ 255 := by
  have : IntKind.wrap .u8 x = x % 256 := by simp [IntKind.wrap, IntKind.bits, IntKind.signed]
  rw [this]
  omega
theorem bytes_of {cd : List Int} (h : ∀ x ∈ cd, (Lit.int .u8 x).wf = true) : Bytes cd := fun x hx => by
  have := h x hx
  simp only [Lit.wf, Bool.and_eq_true, decide_eq_true_eq] at this
  have h1 : IntKind.min .u8 = 0 := by decide
  have h2 : IntKind.max .u8 = 255 := by decide
  omega
theorem vCut_ok {cd : List Int} (hb : Bytes cd) (hc : cd.length ≤ 65536) {x : Int} (hx : 0 ≤ x) : ∃ r, laws_vCut.F n cd x = some r ∧ Bytes r := by
  unfold laws_vCut.F
  have g : ∀ (k : Nat) (v : Int), Bytes (([] : List Int) ++ cd.drop k ++ ([IntKind.wrap .u8 v] : List Int)) := fun k v y hy => by
    simp only [List.nil_append, List.mem_append, List.mem_singleton] at hy
    rcases hy with hy | rfl
    · exact hb y (List.mem_of_mem_drop hy)
    · exact u8_wrap v
  by_cases c : x > (cd.length : Int)
  · rw [if_pos (by simpa using c), if_pos (by omega), if_pos (by simp; try omega), if_pos (by simp; try omega)]
    exact ⟨_, rfl, g _ _⟩
  · rw [if_neg (by simpa using c), if_pos (by omega), if_pos (by simp; try omega), if_pos (by simp; try omega)]
    exact ⟨_, rfl, g _ _⟩
end
end Go.Pv
