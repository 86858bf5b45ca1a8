/- Plain laws: orders, colours and walks that are drawn; mazes that are held against themselves. -/
import Derived.Test.YtdejcakkibabcaaPvDrawM
import Derived.Test.YtdejcakkibabcaaPvMark
import Derived.Test.YtdejcakkibabcaaPvSteps
set_option linter.unusedVariables false
set_option linter.unusedSimpArgs false
set_option autoImplicit false
namespace Go.Pv
open Go Go.Fx Go.Pf

section
variable {n : Nat}
theorem rInts_l0 {K : Unit → Option Bool} {xs : List Int} (hx : xs.length ≤ 1048576) : ∀ (j i : Nat), xs.length - i < j → laws_rInts.l0 n K j xs xs (i : Int) = K ()
  | 0, i, h => by omega
  | j + 1, i, h => by
    rw [laws_rInts.l0]
    by_cases c : (i : Int) < (xs.length : Int)
    · have wi : IntKind.wrap .i64 ((i : Int) + 1) = ((i + 1 : Nat) : Int) := by rw [w64s (by omega) (by omega)]; omega
      rw [if_pos (by simpa using c), if_pos ⟨by omega, c⟩, if_pos ⟨by omega, c⟩, wi, neqI_self, if_neg (by simp)]
      exact rInts_l0 hx j (i + 1) (by omega)
    · rw [if_neg (by simpa using c)]
theorem rInts_self (hn : 1048578 ≤ n) {xs : List Int} (hx : xs.length ≤ 1048576) : laws_rInts.F n xs xs = some true := by
  unfold laws_rInts.F
  have := rInts_l0 (n := n) (K := fun _ => some true) hx n 0 (by omega)
  simp only [Int.natCast_zero] at this
  rw [neqI_self, if_neg (by simp), this]
variable {cd : List Int} {a s : Int}
theorem colours_l0 (hb : Bytes cd) {K : List Int → Int → Int → Int → Option (List Int × Int × Int × Int)} {C : Int} {P : Int → Prop}
    (hK : ∀ a s v, 0 ≤ a → Dr cd a C (K cd a s v) P) : ∀ (j : Nat) (a s v k : Int), 0 ≤ a → a + 2 * k.toNat ≤ 1152921504606800000 → k.toNat < j → k ≤ 10 → Dr cd a (C + 2 * k.toNat) (spec_l1Cur_colours.l0 n K j cd a s v k) P
  | 0, a, s, v, k, _, _, hj, _ => by omega
  | j + 1, a, s, v, k, h0, h1, hj, hk => by
    rw [spec_l1Cur_colours.l0]
    by_cases c : k > 0
    · rw [if_pos (by simpa using c)]
      have e : C + 2 * (k.toNat : Int) = 2 + (C + 2 * ((k - 1).toNat : Int)) := by omega
      rw [e]
      refine Dr.bind (pick_ok hb h0 (by omega) 6) fun a1 s1 v1 h2 h3 hv => ?_
      simp only [if_neg (show ¬ v1 < 0 by omega)]
      rw [w64 (x := k - 1) (by omega) (by omega)]
      exact colours_l0 hb hK j a1 s1 _ (k - 1) (by omega) (by omega) (by omega) (by omega)
    · rw [if_neg (by simpa using c)]
      exact (hK a s v h0).mono (by omega) fun _ h => h
theorem colours_ok (hn : 20 ≤ n) (hb : Bytes cd) (h0 : 0 ≤ a) (h1 : a ≤ 1152921504606790000) : Dr cd a 20 (spec_l1Cur_colours.F n cd a s) fun _ => True := by
  unfold spec_l1Cur_colours.F
  refine Dr.bind (C := 2) (D := 18) (one_ok hb h0 (by omega) 30) fun a1 s1 v1 h2 h3 _ => ?_
  simp only
  split
  · refine Dr.mono (C := 2 + 0) (Dr.bind (C := 2) (D := 0) (among_ok hb (by omega) (by omega) (by simp)) fun a2 s2 v2 h4 h5 _ => Dr.ret (Int.le_refl 0) trivial) (by omega) fun _ h => h
  · refine Dr.mono (C := 2 + 6) (Dr.bind (C := 2) (D := 6) (pick_ok hb (by omega) (by omega) 4) fun a2 s2 v2 h4 h5 hv => ?_) (by omega) fun _ h => h
    have := hv.2.1 (by omega)
    exact (colours_l0 (C := 0) hb (fun a s v _ => .ret (by omega) trivial) n a2 s2 0 v2 (by omega) (by omega) (by omega) (by omega)).mono (by omega) fun _ h => h
theorem open_some {N : Int} {ds : List (Int × Int × Int)} {ks : List Int} (hn : 40 ≤ n) (hd : ds.length ≤ 30) (x y u : Int) : ∃ b, spec_l2Open.F n N ds ks x y u = some b :=
  ⟨_, l2Open_eq (by omega) (by omega)⟩
end
end Go.Pv
