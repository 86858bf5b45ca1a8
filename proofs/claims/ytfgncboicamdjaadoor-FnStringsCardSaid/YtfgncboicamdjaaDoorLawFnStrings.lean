/- The law FnStrings of the given program is true for all its inputs, from its pure form to the row and its card, under the row's own condition that the listed package-level variables hold what the program lays there; printed by a program of mine (law.py). -/
import Derived.Test.YtfgncboicamdjaaDoorCards
import Derived.Test.YtfgncboicamdjaaDoorTie

import Derived.Test.YtfgncboicamdjaaDoorMach
import Derived.Test.YtfgncboicamdjaaDoorGwE
import Derived.WalkKit
import Derived.ProofKit
import Derived.OpenShut
import Derived.ShutString
import Derived.ChangeOld
import Derived.Below
import Derived.SizedLaws
import Derived.HandedShaped
import Derived.Deep.DeepHandedRow
import Derived.Deep.DeepWitnessRowRef
import Derived.Lib.LaidTab
import Derived.Lay
import Derived.LaidSub
import Derived.SevenTiedAt
set_option linter.unusedVariables false
namespace Go.Proofs.YtfgncboicamdjaaDoor.fnStrings
open Go.ChangeShapes Go.WideShapes Go.ChangeAt Go.RowKit Go.Fx Go.Pf
def Pure : Prop := ∀ x : laws_FnStrings.shp.den, WfL laws_FnStrings.shp.ks x → ∃ n, laws_FnStrings.F n x.1 = some true
theorem own : ownKnob Tryd.prog.godebug = none := by kernel_rfl
theorem laidOut : laidOutB Tryd.prog = true := by kernel_rfl
theorem gTab : Tryd.prog.globalNamed "internal/strconv.uint64pow10" = some 3 := by kernel_rfl
theorem gTabType : (Tryd.prog.globals[3]?).map (·.type) = some 123 := by kernel_rfl
theorem cellsT : Tryd.prog.cellsOf 123 = 20 := by kernel_rfl
theorem cellsE : Tryd.prog.cellsOf 58 = 1 := by kernel_rfl
/-- What the row's list gives: the table's cells hold its numbers. -/
theorem table {W : World} (h : laidMetH Tryd.prog Rows.fnStringsRow.laid W) : Lib.TabIs Tryd.prog W "internal/strconv.uint64pow10" .u64 Lib.pow10Tab := by
  have h2 := h.filter fun x => x.1 == "internal/strconv.uint64pow10"
  have e : (Rows.fnStringsRow.laid.filter fun x => x.1 == "internal/strconv.uint64pow10") = [("internal/strconv.uint64pow10", Lib.tabData .u64 Lib.pow10Tab)] := by kernel_rfl
  rw [e] at h2
  exact Lib.tabIs_of_head (rest := []) gTab gTabType Tryd.underlying123 Tryd.underlying58 cellsE cellsT h2
theorem g_errS : Tryd.prog.globalNamed "strconv.ErrSyntax" = some 0 := by kernel_rfl
theorem t_errS : (Tryd.prog.globals[0]?).map (·.type) = some 68 := by kernel_rfl
/-- What the row's list gives: the error is one. -/
theorem errS {W : World} (h : laidMetH Tryd.prog Rows.fnStringsRow.laid W) : ∃ u v, W.var? Tryd.prog "strconv.ErrSyntax" = some #[.iface u v] := by
  have h2 := h.filter fun x => x.1 == "strconv.ErrSyntax"
  have e : (Rows.fnStringsRow.laid.filter fun x => x.1 == "strconv.ErrSyntax") = [("strconv.ErrSyntax", Rows.laid_strconv_ErrSyntax)] := by kernel_rfl
  rw [e, MakeChecks.laidMetH_plain _ _ _ (by kernel_rfl)] at h2
  exact iface_var g_errS t_errS Tryd.underlying68 (d := Rows.laid_strconv_ErrSyntax) ⟨_, _, rfl⟩ h2
theorem g_errR : Tryd.prog.globalNamed "strconv.ErrRange" = some 1 := by kernel_rfl
theorem t_errR : (Tryd.prog.globals[1]?).map (·.type) = some 68 := by kernel_rfl
/-- What the row's list gives: the error is one. -/
theorem errR {W : World} (h : laidMetH Tryd.prog Rows.fnStringsRow.laid W) : ∃ u v, W.var? Tryd.prog "strconv.ErrRange" = some #[.iface u v] := by
  have h2 := h.filter fun x => x.1 == "strconv.ErrRange"
  have e : (Rows.fnStringsRow.laid.filter fun x => x.1 == "strconv.ErrRange") = [("strconv.ErrRange", Rows.laid_strconv_ErrRange)] := by kernel_rfl
  rw [e, MakeChecks.laidMetH_plain _ _ _ (by kernel_rfl)] at h2
  exact iface_var g_errR t_errR Tryd.underlying68 (d := Rows.laid_strconv_ErrRange) ⟨_, _, rfl⟩ h2
theorem laid_met (os : Os) : laidMetH Tryd.prog Rows.fnStringsRow.laid ((World.laidAll Tryd.prog os Rows.fnStringsRow.laid).forCall (fun _ _ => 0) ⟨#[], #[.slice none 0 0], []⟩).memory := by
  rw [MakeChecks.laidMetH_plain _ _ _ (by kernel_rfl)]
  exact laidMet_laidAll _ (by kernel_rfl) (by kernel_rfl)
theorem reads (os : Os) {H : Type} (enc : TypeId × Value → H) : ∃ pl, DataW.whole enc Tryd.prog ((World.laidAll Tryd.prog os Rows.fnStringsRow.laid).forCall (fun _ _ => 0) ⟨#[], #[.slice none 0 0], []⟩).memory Tryd.f4.params.toList Rows.fnStringsSpec.vars false (#[.slice none 0 0] : Array Value).toList 8 = some ([.nil], [], pl) :=
  ⟨[], by kernel_rfl⟩
set_option maxRecDepth 100000 in
theorem lifted (hP : Pure) (os : Os) (started : os.Started) (H : Type) (enc : TypeId × Value → H) (F : Stop.Interp) :
    ReturnsInHanded {} Tryd.checked os 4 .any ((OpenSpec.ofChange Rows.fnStringsSpec).preRow enc Tryd.prog Tryd.f4 Rows.fnStringsRow.domain false Rows.fnStringsRow.laid) (((OpenSpec.ofChange Rows.fnStringsSpec).at F).post enc Tryd.prog Tryd.f4 false true false false) := by
  obtain ⟨xx, hx⟩ := reads os enc
  refine returnsInHanded_of_row (C := Tryd.checked) (s := OpenSpec.ofChange Rows.fnStringsSpec) own started (by kernel_rfl) Tryd.func4
    (witness_row_atRef (enc := enc) (C := Tryd.checked) false (World.laidAll Tryd.prog os Rows.fnStringsRow.laid) #[.slice none 0 0] (World.laidAll_os _ _ _) (by kernel_rfl) (by kernel_rfl) (by kernel_rfl)
      (OpenSpec.preRow_of_cond 8 hx rfl (fun k hk => by cases hk) (by kernel_rfl) (laid_met os))) ?_
  intro W base args ds gs before hval0 hW _ _ _ hL hSh _
  have hval : ∀ (j : Nat) t v, Tryd.f4.params[j]? = some t → args[j]? = some v → Value.okWide Tryd.prog W .any base t v := hval0
  have hW' := hW
  obtain ⟨p, q, hA0, hV, rfl, hfz, hnd⟩ := hW
  have hA : DataW.TrodAll enc Tryd.prog W 0 (fun _ => true) true Tryd.f4.params.toList args.toList ds p := hA0
  rw [Tryd.params4] at hA hval
  have hA1 := hA
  obtain ⟨v0, vs0, d0, ds0, p0, q0, hargs, rfl, rfl, h0, r0⟩ := trodAll_cons hA
  obtain ⟨rfl, rfl, rfl⟩ := trodAll_nil r0
  obtain rfl : args = #[v0] := by cases args; simp_all
  obtain ⟨rfl, rfl⟩ := trodVars_none hV
  obtain ⟨x, hr, hw⟩ := read_L (ts := [33]) (ks := laws_FnStrings.shp.ks) (b0 := base) (r := .any) hT (by kernel_rfl) (fun j t v ht hv => hval j t v (by simpa using ht) (by simpa using hv)) hA1
  obtain ⟨n, hn⟩ := hP x hw
  have hGl : Gl Tryd.prog W := ⟨hSh, table hL, errS hL, errR hL⟩
  have hc := law_calls (P := Tryd.prog) (fn := Tryd.f4) (code := laws_FnStrings.code) Tryd.func4 (by kernel_rfl) (C := laws_FnStrings.cfg) (Φ := pick (laws_FnStrings.cal n)) (Λ := laws_FnStrings.lam n) (shp := laws_FnStrings.shp) hT (laws_FnStrings.cal_ok n) (by kernel_rfl) rfl (by decide)
    (laws_FnStrings.loops n) ((laws_FnStrings.F_eq n x.1).symm.trans hn) hr (fun w hs hk => hGl.kept hs fun b hb => hk b hb fun h => h rfl)
  refine hc.mono fun e W' ⟨he, bel⟩ => ?_
  subst he
  exact ⟨_, rfl, _, _, _, [], _, [], hW', trodAll_mk1 (shut_bool Tryd.underlying4 _), trodAll_below laidOut bel (by kernel_rfl) hA1, rfl, bel.frame _, fun h => by cases h⟩
theorem said (hP : Pure) : Rows.FnStringsSaid :=
  OpenClaim.holds_of_cond 4 Tryd.f4 rfl rfl rfl rfl rfl rfl rfl ⟨rfl, rfl, rfl, rfl, rfl⟩ rfl rfl rfl rfl rfl (by kernel_rfl) Tryd.func4 (by kernel_rfl)
    (of_decide_eq_true (by kernel_rfl)) (by unfold Func.isWrapper; first | (rw [if_pos (by decide +kernel)]; kernel_rfl) | (rw [if_neg (by decide +kernel)]; exact ⟨rfl, rfl⟩))
    (fun os started H enc _ F => by rw [OpenClaim.pre_eq_preRow]; exact lifted hP os started H enc F)
theorem plain (f : FuncId) (fn : Func) (hf : Tryd.pinned.checked.prog.funcNamed "loop.example/g01158/laws.FnStrings" = some f) (hfn : Tryd.pinned.checked.prog.funcs[f]? = some fn) :
    true = Tryd.pinned.checked.prog.looks [] ∧ ∀ (j : Nat) t, fn.params[j]? = some t → Tryd.pinned.checked.prog.wantsStandIn t = false := by
  obtain rfl : f = 4 := Option.some.inj ((show Tryd.prog.funcNamed "loop.example/g01158/laws.FnStrings" = some 4 by kernel_rfl).symm.trans hf) |>.symm
  obtain rfl : fn = Tryd.f4 := (Option.some.inj (Tryd.func4.symm.trans hfn)).symm
  refine ⟨by kernel_rfl, fun j t ht => ?_⟩
  rw [Tryd.params4] at ht
  have hm : t ∈ [33] := by simpa using Array.mem_of_getElem? ht
  have hall : ∀ t ∈ [33], Tryd.prog.wantsStandIn t = false := by
    intro t ht
    simp only [List.mem_cons, List.mem_nil_iff, or_false] at ht
    subst ht; kernel_rfl
  exact hall t hm
theorem over (hP : Pure) : Rows.FnStringsCardSaid :=
  Claim7.holds_tied_plain_at .later [] _ _ _ _ (said hP) (fun _ h => by cases h) (by kernel_rfl) (fun _ h => by cases h) fnStrings_row_tie rfl ⟨rfl, rfl⟩ (by kernel_rfl) rfl plain (by kernel_rfl)
end Go.Proofs.YtfgncboicamdjaaDoor.fnStrings
