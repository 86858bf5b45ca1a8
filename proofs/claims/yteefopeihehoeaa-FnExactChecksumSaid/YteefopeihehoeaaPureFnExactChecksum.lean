/- The pure form of the law FnExactChecksum returns true for all byte strings that a machine can hold. -/
import Derived.Test.YteefopeihehoeaaPFnExactChecksumx1
namespace Go.Proofs.Yteefopeihehoeaa.Pure
open Go.RowKit Go.Proofs.Yteefopeihehoeaa.PFnExactChecksum Go.Proofs.YteefopeihehoeaaW.PrintWords Go.Proofs.YteefopeihehoeaaW.PrintLast

theorem wrap_small (x : Int) (h0 : 0 ≤ x) (h1 : x ≤ 4611686018427387904) : wrap64 x = x := by
  unfold wrap64
  omega
/-- Both sums, from the same place with the same value so far, tell the same. -/
theorem sums (s : ByteArray) (hs : (s.size : Int) ≤ 1048576) : ∀ (k : Nat) (i : Int), 0 ≤ i ∧ i ≤ s.size ∧ (s.size : Int) - i + 1 ≤ k → ∀ v : Int,
    ∃ r, spec_l1Sum.l0 k s v i = some r ∧ impl_checksum.l0 k s v s.size i = some r
  | 0, i, h, v => by omega
  | k + 1, i, ⟨h0, h1, h2⟩, v => by
    unfold spec_l1Sum.l0 impl_checksum.l0
    by_cases c : i < (s.size : Int)
    · rw [if_pos c, if_pos c, if_pos h0, if_pos h0, if_pos c, wrap_small (i + 1) (by omega) (by omega)]
      exact sums s hs k (i + 1) ⟨by omega, by omega, by omega⟩ _
    · rw [if_neg c, if_neg c]
      exact ⟨v, rfl, rfl⟩
/-- YOURS: ∀ (a0 : ByteArray), a0.size ≤ 140737488351232 → ∃ k, laws_FnExactChecksum.f k a0 = some true
What it reaches (each with k first where it has rounds; `.mono`: more rounds tell the same; `.l0`, ..: its loops, with `.mono_l`): spec_l1Sum.f, spec_Checksum.f, impl_checksum.f, impl_Checksum.f, laws_FnExactChecksum.f -/
theorem FnExactChecksum : laws_FnExactChecksum.Pure := by
  intro a0 _
  refine ⟨a0.size + 1, ?_⟩
  unfold laws_FnExactChecksum.f
  split
  · rfl
  · unfold spec_Checksum.f impl_Checksum.f
    split
    · rfl
    · rename_i h
      obtain ⟨r, hr, hi⟩ := sums a0 (by omega) (a0.size + 1) 0 (by omega) 7
      have hs : spec_l1Sum.f (a0.size + 1) a0 = some r := hr
      have hp : impl_checksum.f (a0.size + 1) a0 = some r := hi
      simp [hs, hp]

end Go.Proofs.Yteefopeihehoeaa.Pure
