/- The law FnExactRemainTable of the given program is true for all its inputs: from its pure form to the row; printed by a program of mine (law.py). -/
import Derived.Test.YtdejcakkibabcaaRows
import Derived.Test.YtdejcakkibabcaaMach
import Derived.Test.YtdejcakkibabcaaGwE
import Derived.WalkKit
import Derived.ProofKit
import Derived.OpenShut
import Derived.ShutString
import Derived.ChangeOld
import Derived.Below
import Derived.SizedLaws
set_option linter.unusedVariables false
namespace Go.Proofs.Ytdejcakkibabcaa.fnExactRemainTable
open Go.ChangeShapes Go.WideShapes Go.ChangeAt Go.RowKit Go.Fx Go.Pf
def Pure : Prop := ∀ x : laws_FnExactRemainTable.shp.den, WfL laws_FnExactRemainTable.shp.ks x → ∃ n, laws_FnExactRemainTable.F n x.1.1 x.1.2.1 x.1.2.2.1 = some true
theorem own : ownKnob Try.prog.godebug = none := by kernel_rfl
theorem laidOut : laidOutB Try.prog = true := by kernel_rfl
set_option maxRecDepth 100000 in
theorem lifted (hP : Pure) (os : Os) (started : os.Started) (H : Type) (enc : TypeId × Value → H) :
    ReturnsInHanded {} Try.checked os 3 .any (Rows.fnExactRemainTableSpec.pre6 enc Try.prog Try.f3 Rows.fnExactRemainTableRow.domain false) (Rows.fnExactRemainTableSpec.post enc Try.prog Try.f3 false true false false) := by
  refine returnsInHanded_of_change_sized (C := Try.checked) own started (by kernel_rfl) Try.func3
    (ChangeSpec.witness6 (enc := enc) (C := Try.checked) false ⟨#[], #[.agg #[.int .i64 0, .slice none 0 0, .slice none 0 0]], []⟩ 8 (by kernel_rfl) (by kernel_rfl) (by kernel_rfl) (by kernel_rfl)) ?_
  intro W base args ds gs before hval0 hW hcnd hsz0 _
  have hval : ∀ (j : Nat) t v, Try.f3.params[j]? = some t → args[j]? = some v → Value.okWide Try.prog W .any base t v := hval0
  have hW' := hW
  obtain ⟨p, q, hA0, hV, rfl, hfz, hnd⟩ := hW
  have hA : DataW.TrodAll enc Try.prog W 0 (fun _ => true) true Try.f3.params.toList args.toList ds p := hA0
  rw [Try.params3] at hA hval
  have hA1 := hA
  obtain ⟨v0, vs0, d0, ds0, p0, q0, hargs, rfl, rfl, h0, r0⟩ := trodAll_cons hA
  obtain ⟨rfl, rfl, rfl⟩ := trodAll_nil r0
  obtain rfl : args = #[v0] := by cases args; simp_all
  obtain ⟨rfl, rfl⟩ := trodVars_none hV
  obtain ⟨x, hr, hw⟩ := read_L (ts := [25]) (ks := laws_FnExactRemainTable.shp.ks) (b0 := base) (r := .any) hT (by kernel_rfl) (fun j t v ht hv => hval j t v (by simpa using ht) (by simpa using hv)) hA1
  obtain ⟨n, hn⟩ := hP x hw
  have hc := law_calls (P := Try.prog) (fn := Try.f3) (code := laws_FnExactRemainTable.code) Try.func3 (by kernel_rfl) (C := laws_FnExactRemainTable.cfg) (Φ := pick (laws_FnExactRemainTable.cal n)) (Λ := laws_FnExactRemainTable.lam n) (shp := laws_FnExactRemainTable.shp) hT (laws_FnExactRemainTable.cal_ok n) (by kernel_rfl) rfl (by decide)
    (laws_FnExactRemainTable.loops n) ((laws_FnExactRemainTable.F_eq n x.1.1 x.1.2.1 x.1.2.2.1).symm.trans hn) hr
  refine hc.mono fun e W' ⟨he, bel⟩ => ?_
  subst he
  exact ⟨_, rfl, _, _, _, [], _, [], hW', trodAll_mk1 (shut_bool Try.underlying4 _), trodAll_below laidOut bel (by kernel_rfl) hA1, rfl, bel.frame _, fun h => by cases h⟩
theorem over (hP : Pure) : Rows.fnExactRemainTableRow.holds Try.pinned (OpenSpec.ofChange Rows.fnExactRemainTableSpec) :=
  OpenClaim.holds_of_wide 3 Try.f3 rfl rfl rfl rfl rfl rfl rfl ⟨rfl, rfl, rfl, rfl, rfl⟩ rfl rfl rfl rfl rfl (by kernel_rfl) Try.func3 (by kernel_rfl)
    (of_decide_eq_true (by kernel_rfl)) (by unfold Func.isWrapper; first | (rw [if_pos (by decide +kernel)]; kernel_rfl) | (rw [if_neg (by decide +kernel)]; exact ⟨rfl, rfl⟩))
    (fun os started H enc _ => lifted hP os started H enc)
end Go.Proofs.Ytdejcakkibabcaa.fnExactRemainTable
