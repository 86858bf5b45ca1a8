/- The law FnExactJoinStrings of the given program is true for all its inputs: from its pure form to the row; printed by a program of mine (law.py). -/
import Derived.Test.YteenokkklgnhhaaRows
import Derived.Test.YteenokkklgnhhaaMach
import Derived.Test.YteenokkklgnhhaaGwE
import Derived.WalkKit
import Derived.ProofKit
import Derived.OpenShut
import Derived.ShutString
import Derived.ChangeOld
import Derived.Below
import Derived.SizedLaws
import Derived.HandedShaped
import Derived.Deep.DeepHandedRow
import Derived.Deep.DeepWitnessRowRef
import Derived.Lib.LaidTab
import Derived.Lay
import Derived.LaidSub
import Derived.SevenTiedAt
set_option linter.unusedVariables false
namespace Go.Proofs.Yteenokkklgnhhaa.fnExactJoinStrings
open Go.ChangeShapes Go.WideShapes Go.ChangeAt Go.RowKit Go.Fx Go.Pf
def Pure : Prop := ∀ x : laws_FnExactJoinStrings.shp.den, WfL laws_FnExactJoinStrings.shp.ks x → ∃ n, laws_FnExactJoinStrings.F n x.1 x.2.1 = some true
theorem own : ownKnob Try.prog.godebug = none := by kernel_rfl
theorem laidOut : laidOutB Try.prog = true := by kernel_rfl
set_option maxRecDepth 100000 in
theorem lifted (hP : Pure) (os : Os) (started : os.Started) (H : Type) (enc : TypeId × Value → H) :
    ReturnsInHanded {} Try.checked os 3 .any (Rows.fnExactJoinStringsSpec.pre6 enc Try.prog Try.f3 Rows.fnExactJoinStringsRow.domain false) (Rows.fnExactJoinStringsSpec.post enc Try.prog Try.f3 false true false false) := by
  refine returnsInHanded_of_change_shaped (C := Try.checked) own started (by kernel_rfl) Try.func3
    (ChangeSpec.witness6 (enc := enc) (C := Try.checked) false ⟨#[], #[.slice none 0 0, .string ByteArray.empty], []⟩ 8 (by kernel_rfl) (by kernel_rfl) (by kernel_rfl) (by kernel_rfl)) ?_
  intro W base args ds gs before hval0 hW _ _ hSh _
  have hval : ∀ (j : Nat) t v, Try.f3.params[j]? = some t → args[j]? = some v → Value.okWide Try.prog W .any base t v := hval0
  have hW' := hW
  obtain ⟨p, q, hA0, hV, rfl, hfz, hnd⟩ := hW
  have hA : DataW.TrodAll enc Try.prog W 0 (fun _ => true) true Try.f3.params.toList args.toList ds p := hA0
  rw [Try.params3] at hA hval
  have hA1 := hA
  obtain ⟨v0, vs0, d0, ds0, p0, q0, hargs, rfl, rfl, h0, r0⟩ := trodAll_cons hA
  obtain ⟨v1, vs1, d1, ds1, p1, q1, rfl, rfl, rfl, h1, r1⟩ := trodAll_cons r0
  obtain ⟨rfl, rfl, rfl⟩ := trodAll_nil r1
  obtain rfl : args = #[v0, v1] := by cases args; simp_all
  obtain ⟨rfl, rfl⟩ := trodVars_none hV
  obtain ⟨x, hr, hw⟩ := read_L (ts := [22, 9]) (ks := laws_FnExactJoinStrings.shp.ks) (b0 := base) (r := .any) hT (by kernel_rfl) (fun j t v ht hv => hval j t v (by simpa using ht) (by simpa using hv)) hA1
  obtain ⟨n, hn⟩ := hP x hw
  have hGl : Gl Try.prog W := hSh
  have hc := law_calls (P := Try.prog) (fn := Try.f3) (code := laws_FnExactJoinStrings.code) Try.func3 (by kernel_rfl) (C := laws_FnExactJoinStrings.cfg) (Φ := pick (laws_FnExactJoinStrings.cal n)) (Λ := laws_FnExactJoinStrings.lam n) (shp := laws_FnExactJoinStrings.shp) hT (laws_FnExactJoinStrings.cal_ok n) (by kernel_rfl) rfl (by decide)
    (laws_FnExactJoinStrings.loops n) ((laws_FnExactJoinStrings.F_eq n x.1 x.2.1).symm.trans hn) hr (fun w hs hk => hGl.kept hs fun b hb => hk b hb fun h => h rfl)
  refine hc.mono fun e W' ⟨he, bel⟩ => ?_
  subst he
  exact ⟨_, rfl, _, _, _, [], _, [], hW', trodAll_mk1 (shut_bool Try.underlying4 _), trodAll_below laidOut bel (by kernel_rfl) hA1, rfl, bel.frame _, fun h => by cases h⟩
theorem over (hP : Pure) : Rows.fnExactJoinStringsRow.holds Try.pinned (OpenSpec.ofChange Rows.fnExactJoinStringsSpec) :=
  OpenClaim.holds_of_wide 3 Try.f3 rfl rfl rfl rfl rfl rfl rfl ⟨rfl, rfl, rfl, rfl, rfl⟩ rfl rfl rfl rfl rfl (by kernel_rfl) Try.func3 (by kernel_rfl)
    (of_decide_eq_true (by kernel_rfl)) (by unfold Func.isWrapper; first | (rw [if_pos (by decide +kernel)]; kernel_rfl) | (rw [if_neg (by decide +kernel)]; exact ⟨rfl, rfl⟩))
    (fun os started H enc _ => lifted hP os started H enc)
end Go.Proofs.Yteenokkklgnhhaa.fnExactJoinStrings
