/- The law FnOpenDoors of the given program is true for all its inputs, from its pure form to the row and its card, under the row's own condition that the listed package-level variables hold what the program lays there; printed by a program of mine (law.py). -/
import Derived.Test.YtfgncboicamdjaaGreatDoorCards
import Derived.Test.YtfgncboicamdjaaGreatDoorTie

import Derived.Test.YtfgncboicamdjaaGreatDoorMach
import Derived.Test.YtfgncboicamdjaaGreatDoorGwE
import Derived.WalkKit
import Derived.ProofKit
import Derived.OpenShut
import Derived.ShutString
import Derived.ChangeOld
import Derived.Below
import Derived.SizedLaws
import Derived.HandedShaped
import Derived.Deep.DeepHandedRow
import Derived.Deep.DeepWitnessRowRef
import Derived.Lib.LaidTab
import Derived.Lay
import Derived.LaidSub
import Derived.SevenTiedAt
set_option linter.unusedVariables false
namespace Go.Proofs.YtfgncboicamdjaaGreatDoor.fnOpenDoors
open Go.ChangeShapes Go.WideShapes Go.ChangeAt Go.RowKit Go.Fx Go.Pf
def Pure : Prop := ∀ x : laws_FnOpenDoors.shp.den, WfL laws_FnOpenDoors.shp.ks x → ∃ n, laws_FnOpenDoors.F n x.1 = some true
theorem own : ownKnob Tryz.prog.godebug = none := by kernel_rfl
theorem laidOut : laidOutB Tryz.prog = true := by kernel_rfl
theorem gTab : Tryz.prog.globalNamed "internal/strconv.uint64pow10" = some 0 := by kernel_rfl
theorem gTabType : (Tryz.prog.globals[0]?).map (·.type) = some 127 := by kernel_rfl
theorem cellsT : Tryz.prog.cellsOf 127 = 20 := by kernel_rfl
theorem cellsE : Tryz.prog.cellsOf 54 = 1 := by kernel_rfl
/-- What the row's list gives: the table's cells hold its numbers. -/
theorem table {W : World} (h : laidMetH Tryz.prog Rows.fnOpenDoorsRow.laid W) : Lib.TabIs Tryz.prog W "internal/strconv.uint64pow10" .u64 Lib.pow10Tab := by
  have h2 := h.filter fun x => x.1 == "internal/strconv.uint64pow10"
  have e : (Rows.fnOpenDoorsRow.laid.filter fun x => x.1 == "internal/strconv.uint64pow10") = [("internal/strconv.uint64pow10", Lib.tabData .u64 Lib.pow10Tab)] := by kernel_rfl
  rw [e] at h2
  exact Lib.tabIs_of_head (rest := []) gTab gTabType Tryz.underlying127 Tryz.underlying54 cellsE cellsT h2
theorem g_errS : Tryz.prog.globalNamed "strconv.ErrSyntax" = some 2 := by kernel_rfl
theorem t_errS : (Tryz.prog.globals[2]?).map (·.type) = some 97 := by kernel_rfl
/-- What the row's list gives: the error is one. -/
theorem errS {W : World} (h : laidMetH Tryz.prog Rows.fnOpenDoorsRow.laid W) : ∃ u v, W.var? Tryz.prog "strconv.ErrSyntax" = some #[.iface u v] := by
  have h2 := h.filter fun x => x.1 == "strconv.ErrSyntax"
  have e : (Rows.fnOpenDoorsRow.laid.filter fun x => x.1 == "strconv.ErrSyntax") = [("strconv.ErrSyntax", Rows.laid_strconv_ErrSyntax)] := by kernel_rfl
  rw [e, MakeChecks.laidMetH_plain _ _ _ (by kernel_rfl)] at h2
  exact iface_var g_errS t_errS Tryz.underlying97 (d := Rows.laid_strconv_ErrSyntax) ⟨_, _, rfl⟩ h2
theorem g_errR : Tryz.prog.globalNamed "strconv.ErrRange" = some 3 := by kernel_rfl
theorem t_errR : (Tryz.prog.globals[3]?).map (·.type) = some 97 := by kernel_rfl
/-- What the row's list gives: the error is one. -/
theorem errR {W : World} (h : laidMetH Tryz.prog Rows.fnOpenDoorsRow.laid W) : ∃ u v, W.var? Tryz.prog "strconv.ErrRange" = some #[.iface u v] := by
  have h2 := h.filter fun x => x.1 == "strconv.ErrRange"
  have e : (Rows.fnOpenDoorsRow.laid.filter fun x => x.1 == "strconv.ErrRange") = [("strconv.ErrRange", Rows.laid_strconv_ErrRange)] := by kernel_rfl
  rw [e, MakeChecks.laidMetH_plain _ _ _ (by kernel_rfl)] at h2
  exact iface_var g_errR t_errR Tryz.underlying97 (d := Rows.laid_strconv_ErrRange) ⟨_, _, rfl⟩ h2
theorem laid_met (os : Os) : laidMetH Tryz.prog Rows.fnOpenDoorsRow.laid ((World.laidAll Tryz.prog os Rows.fnOpenDoorsRow.laid).forCall (fun _ _ => 0) ⟨#[], #[.slice none 0 0], []⟩).memory := by
  rw [MakeChecks.laidMetH_plain _ _ _ (by kernel_rfl)]
  exact laidMet_laidAll _ (by kernel_rfl) (by kernel_rfl)
theorem reads (os : Os) {H : Type} (enc : TypeId × Value → H) : ∃ pl, DataW.whole enc Tryz.prog ((World.laidAll Tryz.prog os Rows.fnOpenDoorsRow.laid).forCall (fun _ _ => 0) ⟨#[], #[.slice none 0 0], []⟩).memory Tryz.f3.params.toList Rows.fnOpenDoorsSpec.vars false (#[.slice none 0 0] : Array Value).toList 8 = some ([.nil], [], pl) :=
  ⟨[], by kernel_rfl⟩
set_option maxRecDepth 100000 in
theorem lifted (hP : Pure) (os : Os) (started : os.Started) (H : Type) (enc : TypeId × Value → H) (F : Stop.Interp) :
    ReturnsInHanded {} Tryz.checked os 3 .any ((OpenSpec.ofChange Rows.fnOpenDoorsSpec).preRow enc Tryz.prog Tryz.f3 Rows.fnOpenDoorsRow.domain false Rows.fnOpenDoorsRow.laid) (((OpenSpec.ofChange Rows.fnOpenDoorsSpec).at F).post enc Tryz.prog Tryz.f3 false true false false) := by
  obtain ⟨xx, hx⟩ := reads os enc
  refine returnsInHanded_of_row (C := Tryz.checked) (s := OpenSpec.ofChange Rows.fnOpenDoorsSpec) own started (by kernel_rfl) Tryz.func3
    (witness_row_atRef (enc := enc) (C := Tryz.checked) false (World.laidAll Tryz.prog os Rows.fnOpenDoorsRow.laid) #[.slice none 0 0] (World.laidAll_os _ _ _) (by kernel_rfl) (by kernel_rfl) (by kernel_rfl)
      (OpenSpec.preRow_of_cond 8 hx rfl (fun k hk => by cases hk) (by kernel_rfl) (laid_met os))) ?_
  intro W base args ds gs before hval0 hW _ _ _ hL hSh _
  have hval : ∀ (j : Nat) t v, Tryz.f3.params[j]? = some t → args[j]? = some v → Value.okWide Tryz.prog W .any base t v := hval0
  have hW' := hW
  obtain ⟨p, q, hA0, hV, rfl, hfz, hnd⟩ := hW
  have hA : DataW.TrodAll enc Tryz.prog W 0 (fun _ => true) true Tryz.f3.params.toList args.toList ds p := hA0
  rw [Tryz.params3] at hA hval
  have hA1 := hA
  obtain ⟨v0, vs0, d0, ds0, p0, q0, hargs, rfl, rfl, h0, r0⟩ := trodAll_cons hA
  obtain ⟨rfl, rfl, rfl⟩ := trodAll_nil r0
  obtain rfl : args = #[v0] := by cases args; simp_all
  obtain ⟨rfl, rfl⟩ := trodVars_none hV
  obtain ⟨x, hr, hw⟩ := read_L (ts := [22]) (ks := laws_FnOpenDoors.shp.ks) (b0 := base) (r := .any) hT (by kernel_rfl) (fun j t v ht hv => hval j t v (by simpa using ht) (by simpa using hv)) hA1
  obtain ⟨n, hn⟩ := hP x hw
  have hGl : Gl Tryz.prog W := ⟨hSh, table hL, errS hL, errR hL⟩
  have hc := law_calls (P := Tryz.prog) (fn := Tryz.f3) (code := laws_FnOpenDoors.code) Tryz.func3 (by kernel_rfl) (C := laws_FnOpenDoors.cfg) (Φ := pick (laws_FnOpenDoors.cal n)) (Λ := laws_FnOpenDoors.lam n) (shp := laws_FnOpenDoors.shp) hT (laws_FnOpenDoors.cal_ok n) (by kernel_rfl) rfl (by decide)
    (laws_FnOpenDoors.loops n) ((laws_FnOpenDoors.F_eq n x.1).symm.trans hn) hr (fun w hs hk => hGl.kept hs fun b hb => hk b hb fun h => h rfl)
  refine hc.mono fun e W' ⟨he, bel⟩ => ?_
  subst he
  exact ⟨_, rfl, _, _, _, [], _, [], hW', trodAll_mk1 (shut_bool Tryz.underlying4 _), trodAll_below laidOut bel (by kernel_rfl) hA1, rfl, bel.frame _, fun h => by cases h⟩
theorem said (hP : Pure) : Rows.FnOpenDoorsSaid :=
  OpenClaim.holds_of_cond 3 Tryz.f3 rfl rfl rfl rfl rfl rfl rfl ⟨rfl, rfl, rfl, rfl, rfl⟩ rfl rfl rfl rfl rfl (by kernel_rfl) Tryz.func3 (by kernel_rfl)
    (of_decide_eq_true (by kernel_rfl)) (by unfold Func.isWrapper; first | (rw [if_pos (by decide +kernel)]; kernel_rfl) | (rw [if_neg (by decide +kernel)]; exact ⟨rfl, rfl⟩))
    (fun os started H enc _ F => by rw [OpenClaim.pre_eq_preRow]; exact lifted hP os started H enc F)
theorem plain (f : FuncId) (fn : Func) (hf : Tryz.pinned.checked.prog.funcNamed "loop.example/g01158/laws.FnOpenDoors" = some f) (hfn : Tryz.pinned.checked.prog.funcs[f]? = some fn) :
    true = Tryz.pinned.checked.prog.looks [] ∧ ∀ (j : Nat) t, fn.params[j]? = some t → Tryz.pinned.checked.prog.wantsStandIn t = false := by
  obtain rfl : f = 3 := Option.some.inj ((show Tryz.prog.funcNamed "loop.example/g01158/laws.FnOpenDoors" = some 3 by kernel_rfl).symm.trans hf) |>.symm
  obtain rfl : fn = Tryz.f3 := (Option.some.inj (Tryz.func3.symm.trans hfn)).symm
  refine ⟨by kernel_rfl, fun j t ht => ?_⟩
  rw [Tryz.params3] at ht
  have hm : t ∈ [22] := by simpa using Array.mem_of_getElem? ht
  have hall : ∀ t ∈ [22], Tryz.prog.wantsStandIn t = false := by
    intro t ht
    simp only [List.mem_cons, List.mem_nil_iff, or_false] at ht
    subst ht; kernel_rfl
  exact hall t hm
theorem over (hP : Pure) : Rows.FnOpenDoorsCardSaid :=
  Claim7.holds_tied_plain_at .later [] _ _ _ _ (said hP) (fun _ h => by cases h) (by kernel_rfl) (fun _ h => by cases h) fnOpenDoors_row_tie rfl ⟨rfl, rfl⟩ (by kernel_rfl) rfl plain (by kernel_rfl)
end Go.Proofs.YtfgncboicamdjaaGreatDoor.fnOpenDoors
