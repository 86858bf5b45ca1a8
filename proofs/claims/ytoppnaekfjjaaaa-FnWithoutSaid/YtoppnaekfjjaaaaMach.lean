/- The Go functions of this seat do what their pure functions tell; printed by a program of mine (mach.py). -/
import Derived.Test.YtoppnaekfjjaaaaMach1
set_option linter.unusedVariables false
set_option autoImplicit false
set_option maxRecDepth 100000
set_option maxHeartbeats 4000000
namespace Go.Pf
open Go Go.Fx

/-! ### loop.example/g01158/laws.vHas -/
section
namespace laws_vHas
noncomputable def code : Code := (Go.Proofs.Try.f178.body).getD .skip
abbrev shp : Shape := [(0, .one (.row (.int .i64) false)), (1, .one (.int .i64))]
abbrev outs : List KD := [.one (.bool)]
abbrev R : Type := Bool
def out : R → denL outs := fun r => (r, ())
def into : denL outs → R := fun y => y.1
def cfg : Cfg := ⟨ty, 18, [], fun i => match Nat.beq i 0 with | true => .loop | false => .plain, fun _ => none⟩
def cal (n : Nat) : List (Nat × PFn) := []
theorem cal_ok (n : Nat) : ∀ g, (pick (cal n) g).Ok Go.Proofs.Try.prog g := pick_ok (by
  intro p hp
  cases hp)
def fin : St → Option R := finOf ty [.tmp 4] outs into
abbrev sin0 : Shape := [(0, .one (.row (.int .i64) false)), (1, .one (.int .i64)), (5, .one (.int .i64))]
abbrev sout0 : Shape := []
def lam (n : Nat) : Nat → (St → Option R) → St → Option R := fun i => match Nat.beq i 0 with | true => (fun K st => match absSt sin0 st with | some (x, _) => laws_vHas.l0 n (fun _ => K (mkSt sout0 ())) n x.1 x.2.1 x.2.2.1 | none => none) | false => fun _ _ => none
noncomputable def lps : List (Nat × Code) := loopsOf cfg.blk code
noncomputable def b0 : Code := bodyOf lps 0
theorem l0_eq (n : Nat) (K : St → Option R) : ∀ (j : Nat) (x0 : List (Int)) (x1 : Int) (x2 : Int), laws_vHas.l0 n (fun _ => K (mkSt sout0 ())) j x0 x1 x2 = iter (roundK cfg (pick (cal n)) (lam n) fin 0 b0 sin0 sout0 K) j (mkSt sin0 (x0, x1, x2, ()))
  | 0, _, _, _ => rfl
  | j + 1, x0, x1, x2 => by
    have ih : laws_vHas.l0 n (fun _ => K (mkSt sout0 ())) j = fun x0 x1 x2 => iter (roundK cfg (pick (cal n)) (lam n) fin 0 b0 sin0 sout0 K) j (mkSt sin0 (x0, x1, x2, ())) := funext fun x0 => funext fun x1 => funext fun x2 => l0_eq n K j x0 x1 x2
    rw [laws_vHas.l0, ih]
    show _ = roundK cfg (pick (cal n)) (lam n) fin 0 b0 sin0 sout0 K (iter (roundK cfg (pick (cal n)) (lam n) fin 0 b0 sin0 sout0 K) j) (mkSt sin0 (x0, x1, x2, ()))
    kernel_rfl
theorem loops (n : Nat) : LoopsOk cfg (pick (cal n)) (lam n) fin (loopsOf cfg.blk code) := by
  have h : loopsOf cfg.blk code = [(0, b0)] := by kernel_rfl
  rw [h]
  intro p hp K st r hr
  simp only [List.mem_cons, List.not_mem_nil, or_false] at hp
  rcases hp with rfl
  · have hr' : (match absSt sin0 st with | some (x, _) => laws_vHas.l0 n (fun _ => K (mkSt sout0 ())) n x.1 x.2.1 x.2.2.1 | none => none) = some r := hr
    split at hr'
    · rename_i x es hx
      rw [l0_eq] at hr'
      exact ⟨sin0, sout0, n, x, es, hx, hr'⟩
    · cases hr'
theorem F_eq (n : Nat) (x0 : List (Int)) (x1 : Int) : laws_vHas.F n x0 x1 = exK cfg (pick (cal n)) (lam n) fin code (fun _ _ => none) (mkSt shp (x0, x1, ())) fin := by
  kernel_rfl
def pfn (n : Nat) : PFn := mkFn shp outs (fun x => laws_vHas.F n x.1 x.2.1) out
theorem ok (n : Nat) : (pfn n).Ok Go.Proofs.Try.prog 178 :=
  mkFn_ok (fn := Go.Proofs.Try.f178) (code := code) Go.Proofs.Try.func178 (by kernel_rfl) (by decide) (C := cfg) (Φ := pick (cal n)) (Λ := lam n) (into := into) hT (cal_ok n) (by kernel_rfl) rfl (by decide) rfl (fun _ => rfl) (loops n)
    (fun x r h => by
      have e := F_eq n x.1 x.2.1
      exact e.symm.trans h)
end laws_vHas
end
/-! ### loop.example/g01158/laws.vWithin -/
section
namespace laws_vWithin
noncomputable def code : Code := (Go.Proofs.Try.f90.body).getD .skip
abbrev shp : Shape := [(0, .one (.row (.int .i64) false)), (1, .one (.row (.int .i64) false))]
abbrev outs : List KD := [.one (.bool)]
abbrev R : Type := Bool
def out : R → denL outs := fun r => (r, ())
def into : denL outs → R := fun y => y.1
def cfg : Cfg := ⟨ty, 19, [], fun i => match Nat.beq i 0 with | true => .loop | false => .plain, fun _ => none⟩
def cal (n : Nat) : List (Nat × PFn) := [(178, laws_vHas.pfn n)]
theorem cal_ok (n : Nat) : ∀ g, (pick (cal n) g).Ok Go.Proofs.Try.prog g := pick_ok (by
  intro p hp
  simp only [cal, List.mem_cons, List.not_mem_nil, or_false] at hp
  rcases hp with rfl
  · exact laws_vHas.ok n)
def fin : St → Option R := finOf ty [.tmp 4] outs into
abbrev sin0 : Shape := [(0, .one (.row (.int .i64) false)), (1, .one (.row (.int .i64) false)), (5, .one (.int .i64))]
abbrev sout0 : Shape := []
def lam (n : Nat) : Nat → (St → Option R) → St → Option R := fun i => match Nat.beq i 0 with | true => (fun K st => match absSt sin0 st with | some (x, _) => laws_vWithin.l0 n (fun _ => K (mkSt sout0 ())) n x.1 x.2.1 x.2.2.1 | none => none) | false => fun _ _ => none
noncomputable def lps : List (Nat × Code) := loopsOf cfg.blk code
noncomputable def b0 : Code := bodyOf lps 0
theorem l0_eq (n : Nat) (K : St → Option R) : ∀ (j : Nat) (x0 : List (Int)) (x1 : List (Int)) (x2 : Int), laws_vWithin.l0 n (fun _ => K (mkSt sout0 ())) j x0 x1 x2 = iter (roundK cfg (pick (cal n)) (lam n) fin 0 b0 sin0 sout0 K) j (mkSt sin0 (x0, x1, x2, ()))
  | 0, _, _, _ => rfl
  | j + 1, x0, x1, x2 => by
    have ih : laws_vWithin.l0 n (fun _ => K (mkSt sout0 ())) j = fun x0 x1 x2 => iter (roundK cfg (pick (cal n)) (lam n) fin 0 b0 sin0 sout0 K) j (mkSt sin0 (x0, x1, x2, ())) := funext fun x0 => funext fun x1 => funext fun x2 => l0_eq n K j x0 x1 x2
    rw [laws_vWithin.l0, ih]
    show _ = roundK cfg (pick (cal n)) (lam n) fin 0 b0 sin0 sout0 K (iter (roundK cfg (pick (cal n)) (lam n) fin 0 b0 sin0 sout0 K) j) (mkSt sin0 (x0, x1, x2, ()))
    kernel_rfl
theorem loops (n : Nat) : LoopsOk cfg (pick (cal n)) (lam n) fin (loopsOf cfg.blk code) := by
  have h : loopsOf cfg.blk code = [(0, b0)] := by kernel_rfl
  rw [h]
  intro p hp K st r hr
  simp only [List.mem_cons, List.not_mem_nil, or_false] at hp
  rcases hp with rfl
  · have hr' : (match absSt sin0 st with | some (x, _) => laws_vWithin.l0 n (fun _ => K (mkSt sout0 ())) n x.1 x.2.1 x.2.2.1 | none => none) = some r := hr
    split at hr'
    · rename_i x es hx
      rw [l0_eq] at hr'
      exact ⟨sin0, sout0, n, x, es, hx, hr'⟩
    · cases hr'
theorem F_eq (n : Nat) (x0 : List (Int)) (x1 : List (Int)) : laws_vWithin.F n x0 x1 = exK cfg (pick (cal n)) (lam n) fin code (fun _ _ => none) (mkSt shp (x0, x1, ())) fin := by
  kernel_rfl
def pfn (n : Nat) : PFn := mkFn shp outs (fun x => laws_vWithin.F n x.1 x.2.1) out
theorem ok (n : Nat) : (pfn n).Ok Go.Proofs.Try.prog 90 :=
  mkFn_ok (fn := Go.Proofs.Try.f90) (code := code) Go.Proofs.Try.func90 (by kernel_rfl) (by decide) (C := cfg) (Φ := pick (cal n)) (Λ := lam n) (into := into) hT (cal_ok n) (by kernel_rfl) rfl (by decide) rfl (fun _ => rfl) (loops n)
    (fun x r h => by
      have e := F_eq n x.1 x.2.1
      exact e.symm.trans h)
end laws_vWithin
end
/-! ### loop.example/g01158/impl.DoorsAt -/
section
namespace impl_DoorsAt
noncomputable def code : Code := (Go.Proofs.Try.f91.body).getD .skip
abbrev shp : Shape := [(0, .agg [.int .i64, .row (.t3) false, .row (.int .i64) false]), (1, .one (.int .i64))]
abbrev outs : List KD := [.one (.row (.int .i64) true), .one (.bool)]
abbrev R : Type := (List (Int)) × Bool
def out : R → denL outs := fun r => (r.1, r.2, ())
def into : denL outs → R := fun y => (y.1, y.2.1)
def cfg : Cfg := ⟨ty, 39, [], fun i => match Nat.beq i 0 with | true => .loop | false => .plain, fun _ => none⟩
def cal (n : Nat) : List (Nat × PFn) := [(118, impl_isNode.pfn n)]
theorem cal_ok (n : Nat) : ∀ g, (pick (cal n) g).Ok Go.Proofs.Try.prog g := pick_ok (by
  intro p hp
  simp only [cal, List.mem_cons, List.not_mem_nil, or_false] at hp
  rcases hp with rfl
  · exact impl_isNode.ok n)
def fin : St → Option R := finOf ty [.tmp 4, .tmp 5] outs into
abbrev sin0 : Shape := [(1, .one (.int .i64)), (6, .one (.row (.int .i64) true)), (16, .one (.row (.t3) false)), (17, .one (.int .i64)), (18, .one (.int .i64))]
abbrev sout0 : Shape := [(6, .one (.row (.int .i64) true))]
def lam (n : Nat) : Nat → (St → Option R) → St → Option R := fun i => match Nat.beq i 0 with | true => (fun K st => match absSt sin0 st with | some (x, _) => impl_DoorsAt.l0 n (fun y0 => K (mkSt sout0 (y0, ()))) n x.1 x.2.1 x.2.2.1 x.2.2.2.1 x.2.2.2.2.1 | none => none) | false => fun _ _ => none
noncomputable def lps : List (Nat × Code) := loopsOf cfg.blk code
noncomputable def b0 : Code := bodyOf lps 0
theorem l0_eq (n : Nat) (K : St → Option R) : ∀ (j : Nat) (x0 : Int) (x1 : List (Int)) (x2 : List (Int × Int × Int)) (x3 : Int) (x4 : Int), impl_DoorsAt.l0 n (fun y0 => K (mkSt sout0 (y0, ()))) j x0 x1 x2 x3 x4 = iter (roundK cfg (pick (cal n)) (lam n) fin 0 b0 sin0 sout0 K) j (mkSt sin0 (x0, x1, x2, x3, x4, ()))
  | 0, _, _, _, _, _ => rfl
  | j + 1, x0, x1, x2, x3, x4 => by
    have ih : impl_DoorsAt.l0 n (fun y0 => K (mkSt sout0 (y0, ()))) j = fun x0 x1 x2 x3 x4 => iter (roundK cfg (pick (cal n)) (lam n) fin 0 b0 sin0 sout0 K) j (mkSt sin0 (x0, x1, x2, x3, x4, ())) := funext fun x0 => funext fun x1 => funext fun x2 => funext fun x3 => funext fun x4 => l0_eq n K j x0 x1 x2 x3 x4
    rw [impl_DoorsAt.l0, ih]
    show _ = roundK cfg (pick (cal n)) (lam n) fin 0 b0 sin0 sout0 K (iter (roundK cfg (pick (cal n)) (lam n) fin 0 b0 sin0 sout0 K) j) (mkSt sin0 (x0, x1, x2, x3, x4, ()))
    kernel_rfl
theorem loops (n : Nat) : LoopsOk cfg (pick (cal n)) (lam n) fin (loopsOf cfg.blk code) := by
  have h : loopsOf cfg.blk code = [(0, b0)] := by kernel_rfl
  rw [h]
  intro p hp K st r hr
  simp only [List.mem_cons, List.not_mem_nil, or_false] at hp
  rcases hp with rfl
  · have hr' : (match absSt sin0 st with | some (x, _) => impl_DoorsAt.l0 n (fun y0 => K (mkSt sout0 (y0, ()))) n x.1 x.2.1 x.2.2.1 x.2.2.2.1 x.2.2.2.2.1 | none => none) = some r := hr
    split at hr'
    · rename_i x es hx
      rw [l0_eq] at hr'
      exact ⟨sin0, sout0, n, x, es, hx, hr'⟩
    · cases hr'
theorem F_eq (n : Nat) (x0 : Int) (x1 : List (Int × Int × Int)) (x2 : List (Int)) (x3 : Int) : impl_DoorsAt.F n x0 x1 x2 x3 = exK cfg (pick (cal n)) (lam n) fin code (fun _ _ => none) (mkSt shp ((x0, x1, x2, ()), x3, ())) fin := by
  kernel_rfl
def pfn (n : Nat) : PFn := mkFn shp outs (fun x => impl_DoorsAt.F n x.1.1 x.1.2.1 x.1.2.2.1 x.2.1) out
theorem ok (n : Nat) : (pfn n).Ok Go.Proofs.Try.prog 91 :=
  mkFn_ok (fn := Go.Proofs.Try.f91) (code := code) Go.Proofs.Try.func91 (by kernel_rfl) (by decide) (C := cfg) (Φ := pick (cal n)) (Λ := lam n) (into := into) hT (cal_ok n) (by kernel_rfl) rfl (by decide) rfl (fun _ => rfl) (loops n)
    (fun x r h => by
      have e := F_eq n x.1.1 x.1.2.1 x.1.2.2.1 x.2.1
      exact e.symm.trans h)
end impl_DoorsAt
end
/-! ### loop.example/g01158/laws.FnWithout -/
section
namespace laws_FnWithout
noncomputable def code : Code := (Go.Proofs.Try.f12.body).getD .skip
abbrev shp : Shape := [(0, .one (.row (.int .u8) false))]
abbrev outs : List KD := [.one (.bool)]
abbrev R : Type := Bool
def out : R → denL outs := fun r => (r, ())
def into : denL outs → R := fun y => y.1
def cfg : Cfg := ⟨ty, 238, [], fun _ => .plain, fun i => match Nat.beq i 6 with | true => some [(0, .one (.row (.int .u8) false)), (3, .box true [.int .i64, .row (.t3) true, .row (.int .i64) true]), (4, .one (.int .i64)), (5, .box true [.int .i64, .row (.t3) true, .row (.int .i64) true]), (6, .one (.bool)), (7, .box true [.int .i64, .row (.t3) true, .row (.int .i64) true]), (8, .one (.bool))] | false => match Nat.beq i 10 with | true => some [(3, .box true [.int .i64, .row (.t3) true, .row (.int .i64) true]), (4, .one (.int .i64)), (5, .box true [.int .i64, .row (.t3) true, .row (.int .i64) true]), (6, .one (.bool)), (7, .box true [.int .i64, .row (.t3) true, .row (.int .i64) true]), (8, .one (.bool)), (9, .box true [.int .i64, .row (.t3) true, .row (.int .i64) true]), (10, .one (.bool)), (11, .box true [.int .i64, .row (.t3) true, .row (.int .i64) true]), (12, .one (.bool)), (13, .box true [.int .i64, .row (.t3) true, .row (.int .i64) true]), (14, .one (.int .i64)), (15, .box true [.int .i64, .row (.t3) true, .row (.int .i64) true]), (16, .one (.bool))] | false => match Nat.beq i 13 with | true => some [(3, .box true [.int .i64, .row (.t3) true, .row (.int .i64) true]), (4, .one (.int .i64)), (5, .box true [.int .i64, .row (.t3) true, .row (.int .i64) true]), (6, .one (.bool)), (9, .box true [.int .i64, .row (.t3) true, .row (.int .i64) true]), (13, .box true [.int .i64, .row (.t3) true, .row (.int .i64) true]), (14, .one (.int .i64)), (15, .box true [.int .i64, .row (.t3) true, .row (.int .i64) true]), (16, .one (.bool))] | false => match Nat.beq i 18 with | true => some [(3, .box true [.int .i64, .row (.t3) true, .row (.int .i64) true]), (4, .one (.int .i64)), (5, .box true [.int .i64, .row (.t3) true, .row (.int .i64) true]), (6, .one (.bool)), (9, .box true [.int .i64, .row (.t3) true, .row (.int .i64) true])] | false => match Nat.beq i 23 with | true => some [(4, .one (.int .i64)), (5, .box true [.int .i64, .row (.t3) true, .row (.int .i64) true]), (9, .box true [.int .i64, .row (.t3) true, .row (.int .i64) true]), (25, .one (.int .i64)), (26, .one (.row (.int .i64) true)), (27, .one (.bool)), (28, .one (.int .i64)), (29, .one (.row (.int .i64) true)), (30, .one (.bool)), (31, .one (.int .i64)), (32, .one (.row (.int .i64) true)), (33, .one (.bool))] | false => none⟩
def cal (n : Nat) : List (Nat × PFn) := [(52, impl_IsMaze.pfn n), (78, laws_vBig.pfn n), (79, spec_DrawWithoutNode.pfn n), (80, impl_WithoutNode.pfn n), (81, spec_WithoutNode.pfn n), (82, impl_WithoutKeys.pfn n), (83, spec_WithoutKeys.pfn n), (84, spec_DrawWithoutColour.pfn n), (85, laws_vCut.pfn n), (86, impl_WithoutColour.pfn n), (87, spec_WithoutColour.pfn n), (88, laws_vMaze.pfn n), (89, impl_GainAtLast.pfn n), (90, laws_vWithin.pfn n), (91, impl_DoorsAt.pfn n)]
theorem cal_ok (n : Nat) : ∀ g, (pick (cal n) g).Ok Go.Proofs.Try.prog g := pick_ok (by
  intro p hp
  simp only [cal, List.mem_cons, List.not_mem_nil, or_false] at hp
  rcases hp with rfl | rfl | rfl | rfl | rfl | rfl | rfl | rfl | rfl | rfl | rfl | rfl | rfl | rfl | rfl
  · exact impl_IsMaze.ok n
  · exact laws_vBig.ok n
  · exact spec_DrawWithoutNode.ok n
  · exact impl_WithoutNode.ok n
  · exact spec_WithoutNode.ok n
  · exact impl_WithoutKeys.ok n
  · exact spec_WithoutKeys.ok n
  · exact spec_DrawWithoutColour.ok n
  · exact laws_vCut.ok n
  · exact impl_WithoutColour.ok n
  · exact spec_WithoutColour.ok n
  · exact laws_vMaze.ok n
  · exact impl_GainAtLast.ok n
  · exact laws_vWithin.ok n
  · exact impl_DoorsAt.ok n)
def fin : St → Option R := finOf ty [.tmp 2] outs into
def lam (n : Nat) : Nat → (St → Option R) → St → Option R := fun _ => fun _ _ => none
theorem loops (n : Nat) : LoopsOk cfg (pick (cal n)) (lam n) fin (loopsOf cfg.blk code) := by
  have h : loopsOf cfg.blk code = [] := by kernel_rfl
  rw [h]
  intro p hp
  cases hp
noncomputable def code6 : Code := spineAt 5 code
abbrev cut6 : Shape := [(0, .one (.row (.int .u8) false)), (3, .box true [.int .i64, .row (.t3) true, .row (.int .i64) true]), (4, .one (.int .i64)), (5, .box true [.int .i64, .row (.t3) true, .row (.int .i64) true]), (6, .one (.bool)), (7, .box true [.int .i64, .row (.t3) true, .row (.int .i64) true]), (8, .one (.bool))]
noncomputable def code10 : Code := spineAt 4 code6
abbrev cut10 : Shape := [(3, .box true [.int .i64, .row (.t3) true, .row (.int .i64) true]), (4, .one (.int .i64)), (5, .box true [.int .i64, .row (.t3) true, .row (.int .i64) true]), (6, .one (.bool)), (7, .box true [.int .i64, .row (.t3) true, .row (.int .i64) true]), (8, .one (.bool)), (9, .box true [.int .i64, .row (.t3) true, .row (.int .i64) true]), (10, .one (.bool)), (11, .box true [.int .i64, .row (.t3) true, .row (.int .i64) true]), (12, .one (.bool)), (13, .box true [.int .i64, .row (.t3) true, .row (.int .i64) true]), (14, .one (.int .i64)), (15, .box true [.int .i64, .row (.t3) true, .row (.int .i64) true]), (16, .one (.bool))]
noncomputable def code13 : Code := spineAt 2 code10
abbrev cut13 : Shape := [(3, .box true [.int .i64, .row (.t3) true, .row (.int .i64) true]), (4, .one (.int .i64)), (5, .box true [.int .i64, .row (.t3) true, .row (.int .i64) true]), (6, .one (.bool)), (9, .box true [.int .i64, .row (.t3) true, .row (.int .i64) true]), (13, .box true [.int .i64, .row (.t3) true, .row (.int .i64) true]), (14, .one (.int .i64)), (15, .box true [.int .i64, .row (.t3) true, .row (.int .i64) true]), (16, .one (.bool))]
noncomputable def code18 : Code := spineAt 1 code13
abbrev cut18 : Shape := [(3, .box true [.int .i64, .row (.t3) true, .row (.int .i64) true]), (4, .one (.int .i64)), (5, .box true [.int .i64, .row (.t3) true, .row (.int .i64) true]), (6, .one (.bool)), (9, .box true [.int .i64, .row (.t3) true, .row (.int .i64) true])]
noncomputable def code23 : Code := spineAt 4 code18
abbrev cut23 : Shape := [(4, .one (.int .i64)), (5, .box true [.int .i64, .row (.t3) true, .row (.int .i64) true]), (9, .box true [.int .i64, .row (.t3) true, .row (.int .i64) true]), (25, .one (.int .i64)), (26, .one (.row (.int .i64) true)), (27, .one (.bool)), (28, .one (.int .i64)), (29, .one (.row (.int .i64) true)), (30, .one (.bool)), (31, .one (.int .i64)), (32, .one (.row (.int .i64) true)), (33, .one (.bool))]
theorem c23_eq (n : Nat) (x0 : Int) (x1 : Int) (x2 : List (Int × Int × Int)) (x3 : List (Int)) (x4 : Int) (x5 : List (Int × Int × Int)) (x6 : List (Int)) (x7 : Int) (x8 : List (Int)) (x9 : Bool) (x10 : Int) (x11 : List (Int)) (x12 : Bool) (x13 : Int) (x14 : List (Int)) (x15 : Bool) : laws_FnWithout.c23 n x0 x1 x2 x3 x4 x5 x6 x7 x8 x9 x10 x11 x12 x13 x14 x15 = exK cfg (pick (cal n)) (lam n) fin code23 (fun _ _ => none) (mkSt cut23 (x0, (x1, x2, x3, ()), (x4, x5, x6, ()), x7, x8, x9, x10, x11, x12, x13, x14, x15, ())) fin := by
  cases x9 <;> cases x12 <;> cases x15 <;> kernel_rfl
theorem c18_seg (n : Nat) (x0 : Int) (x1 : List (Int × Int × Int)) (x2 : List (Int)) (x3 : Int) (x4 : Int) (x5 : List (Int × Int × Int)) (x6 : List (Int)) (x7 : Bool) (x8 : Int) (x9 : List (Int × Int × Int)) (x10 : List (Int)) : laws_FnWithout.c18 n x0 x1 x2 x3 x4 x5 x6 x7 x8 x9 x10 = exSeg cfg (pick (cal n)) (lam n) fin (fun _ _ => none) cut23 (fun x => laws_FnWithout.c23 n x.1 x.2.1.1 x.2.1.2.1 x.2.1.2.2.1 x.2.2.1.1 x.2.2.1.2.1 x.2.2.1.2.2.1 x.2.2.2.1 x.2.2.2.2.1 x.2.2.2.2.2.1 x.2.2.2.2.2.2.1 x.2.2.2.2.2.2.2.1 x.2.2.2.2.2.2.2.2.1 x.2.2.2.2.2.2.2.2.2.1 x.2.2.2.2.2.2.2.2.2.2.1 x.2.2.2.2.2.2.2.2.2.2.2.1) 3 code18 (mkSt cut18 ((x0, x1, x2, ()), x3, (x4, x5, x6, ()), x7, (x8, x9, x10, ()), ())) := by
  kernel_rfl
theorem c18_eq (n : Nat) (x0 : Int) (x1 : List (Int × Int × Int)) (x2 : List (Int)) (x3 : Int) (x4 : Int) (x5 : List (Int × Int × Int)) (x6 : List (Int)) (x7 : Bool) (x8 : Int) (x9 : List (Int × Int × Int)) (x10 : List (Int)) : laws_FnWithout.c18 n x0 x1 x2 x3 x4 x5 x6 x7 x8 x9 x10 = exK cfg (pick (cal n)) (lam n) fin code18 (fun _ _ => none) (mkSt cut18 ((x0, x1, x2, ()), x3, (x4, x5, x6, ()), x7, (x8, x9, x10, ()), ())) fin := 
  (c18_seg n x0 x1 x2 x3 x4 x5 x6 x7 x8 x9 x10).trans (seg_eq 3 (by kernel_rfl) rfl (by kernel_rfl) (fun x => c23_eq n x.1 x.2.1.1 x.2.1.2.1 x.2.1.2.2.1 x.2.2.1.1 x.2.2.1.2.1 x.2.2.1.2.2.1 x.2.2.2.1 x.2.2.2.2.1 x.2.2.2.2.2.1 x.2.2.2.2.2.2.1 x.2.2.2.2.2.2.2.1 x.2.2.2.2.2.2.2.2.1 x.2.2.2.2.2.2.2.2.2.1 x.2.2.2.2.2.2.2.2.2.2.1 x.2.2.2.2.2.2.2.2.2.2.2.1))
theorem c13_seg (n : Nat) (x0 : Int) (x1 : List (Int × Int × Int)) (x2 : List (Int)) (x3 : Int) (x4 : Int) (x5 : List (Int × Int × Int)) (x6 : List (Int)) (x7 : Bool) (x8 : Int) (x9 : List (Int × Int × Int)) (x10 : List (Int)) (x11 : Int) (x12 : List (Int × Int × Int)) (x13 : List (Int)) (x14 : Int) (x15 : Int) (x16 : List (Int × Int × Int)) (x17 : List (Int)) (x18 : Bool) : laws_FnWithout.c13 n x0 x1 x2 x3 x4 x5 x6 x7 x8 x9 x10 x11 x12 x13 x14 x15 x16 x17 x18 = exSeg cfg (pick (cal n)) (lam n) fin (fun _ _ => none) cut18 (fun x => laws_FnWithout.c18 n x.1.1 x.1.2.1 x.1.2.2.1 x.2.1 x.2.2.1.1 x.2.2.1.2.1 x.2.2.1.2.2.1 x.2.2.2.1 x.2.2.2.2.1.1 x.2.2.2.2.1.2.1 x.2.2.2.2.1.2.2.1) 0 code13 (mkSt cut13 ((x0, x1, x2, ()), x3, (x4, x5, x6, ()), x7, (x8, x9, x10, ()), (x11, x12, x13, ()), x14, (x15, x16, x17, ()), x18, ())) := by
  kernel_rfl
theorem c13_eq (n : Nat) (x0 : Int) (x1 : List (Int × Int × Int)) (x2 : List (Int)) (x3 : Int) (x4 : Int) (x5 : List (Int × Int × Int)) (x6 : List (Int)) (x7 : Bool) (x8 : Int) (x9 : List (Int × Int × Int)) (x10 : List (Int)) (x11 : Int) (x12 : List (Int × Int × Int)) (x13 : List (Int)) (x14 : Int) (x15 : Int) (x16 : List (Int × Int × Int)) (x17 : List (Int)) (x18 : Bool) : laws_FnWithout.c13 n x0 x1 x2 x3 x4 x5 x6 x7 x8 x9 x10 x11 x12 x13 x14 x15 x16 x17 x18 = exK cfg (pick (cal n)) (lam n) fin code13 (fun _ _ => none) (mkSt cut13 ((x0, x1, x2, ()), x3, (x4, x5, x6, ()), x7, (x8, x9, x10, ()), (x11, x12, x13, ()), x14, (x15, x16, x17, ()), x18, ())) fin := 
  (c13_seg n x0 x1 x2 x3 x4 x5 x6 x7 x8 x9 x10 x11 x12 x13 x14 x15 x16 x17 x18).trans (seg_eq 0 (by kernel_rfl) rfl (by kernel_rfl) (fun x => c18_eq n x.1.1 x.1.2.1 x.1.2.2.1 x.2.1 x.2.2.1.1 x.2.2.1.2.1 x.2.2.1.2.2.1 x.2.2.2.1 x.2.2.2.2.1.1 x.2.2.2.2.1.2.1 x.2.2.2.2.1.2.2.1))
theorem c10_seg (n : Nat) (x0 : Int) (x1 : List (Int × Int × Int)) (x2 : List (Int)) (x3 : Int) (x4 : Int) (x5 : List (Int × Int × Int)) (x6 : List (Int)) (x7 : Bool) (x8 : Int) (x9 : List (Int × Int × Int)) (x10 : List (Int)) (x11 : Bool) (x12 : Int) (x13 : List (Int × Int × Int)) (x14 : List (Int)) (x15 : Bool) (x16 : Int) (x17 : List (Int × Int × Int)) (x18 : List (Int)) (x19 : Bool) (x20 : Int) (x21 : List (Int × Int × Int)) (x22 : List (Int)) (x23 : Int) (x24 : Int) (x25 : List (Int × Int × Int)) (x26 : List (Int)) (x27 : Bool) : laws_FnWithout.c10 n x0 x1 x2 x3 x4 x5 x6 x7 x8 x9 x10 x11 x12 x13 x14 x15 x16 x17 x18 x19 x20 x21 x22 x23 x24 x25 x26 x27 = exSeg cfg (pick (cal n)) (lam n) fin (fun _ _ => none) cut13 (fun x => laws_FnWithout.c13 n x.1.1 x.1.2.1 x.1.2.2.1 x.2.1 x.2.2.1.1 x.2.2.1.2.1 x.2.2.1.2.2.1 x.2.2.2.1 x.2.2.2.2.1.1 x.2.2.2.2.1.2.1 x.2.2.2.2.1.2.2.1 x.2.2.2.2.2.1.1 x.2.2.2.2.2.1.2.1 x.2.2.2.2.2.1.2.2.1 x.2.2.2.2.2.2.1 x.2.2.2.2.2.2.2.1.1 x.2.2.2.2.2.2.2.1.2.1 x.2.2.2.2.2.2.2.1.2.2.1 x.2.2.2.2.2.2.2.2.1) 1 code10 (mkSt cut10 ((x0, x1, x2, ()), x3, (x4, x5, x6, ()), x7, (x8, x9, x10, ()), x11, (x12, x13, x14, ()), x15, (x16, x17, x18, ()), x19, (x20, x21, x22, ()), x23, (x24, x25, x26, ()), x27, ())) := by
  cases x7 <;> cases x11 <;> cases x15 <;> cases x19 <;> kernel_rfl
theorem c10_eq (n : Nat) (x0 : Int) (x1 : List (Int × Int × Int)) (x2 : List (Int)) (x3 : Int) (x4 : Int) (x5 : List (Int × Int × Int)) (x6 : List (Int)) (x7 : Bool) (x8 : Int) (x9 : List (Int × Int × Int)) (x10 : List (Int)) (x11 : Bool) (x12 : Int) (x13 : List (Int × Int × Int)) (x14 : List (Int)) (x15 : Bool) (x16 : Int) (x17 : List (Int × Int × Int)) (x18 : List (Int)) (x19 : Bool) (x20 : Int) (x21 : List (Int × Int × Int)) (x22 : List (Int)) (x23 : Int) (x24 : Int) (x25 : List (Int × Int × Int)) (x26 : List (Int)) (x27 : Bool) : laws_FnWithout.c10 n x0 x1 x2 x3 x4 x5 x6 x7 x8 x9 x10 x11 x12 x13 x14 x15 x16 x17 x18 x19 x20 x21 x22 x23 x24 x25 x26 x27 = exK cfg (pick (cal n)) (lam n) fin code10 (fun _ _ => none) (mkSt cut10 ((x0, x1, x2, ()), x3, (x4, x5, x6, ()), x7, (x8, x9, x10, ()), x11, (x12, x13, x14, ()), x15, (x16, x17, x18, ()), x19, (x20, x21, x22, ()), x23, (x24, x25, x26, ()), x27, ())) fin := 
  (c10_seg n x0 x1 x2 x3 x4 x5 x6 x7 x8 x9 x10 x11 x12 x13 x14 x15 x16 x17 x18 x19 x20 x21 x22 x23 x24 x25 x26 x27).trans (seg_eq 1 (by kernel_rfl) rfl (by kernel_rfl) (fun x => c13_eq n x.1.1 x.1.2.1 x.1.2.2.1 x.2.1 x.2.2.1.1 x.2.2.1.2.1 x.2.2.1.2.2.1 x.2.2.2.1 x.2.2.2.2.1.1 x.2.2.2.2.1.2.1 x.2.2.2.2.1.2.2.1 x.2.2.2.2.2.1.1 x.2.2.2.2.2.1.2.1 x.2.2.2.2.2.1.2.2.1 x.2.2.2.2.2.2.1 x.2.2.2.2.2.2.2.1.1 x.2.2.2.2.2.2.2.1.2.1 x.2.2.2.2.2.2.2.1.2.2.1 x.2.2.2.2.2.2.2.2.1))
theorem c6_seg (n : Nat) (x0 : List (Int)) (x1 : Int) (x2 : List (Int × Int × Int)) (x3 : List (Int)) (x4 : Int) (x5 : Int) (x6 : List (Int × Int × Int)) (x7 : List (Int)) (x8 : Bool) (x9 : Int) (x10 : List (Int × Int × Int)) (x11 : List (Int)) (x12 : Bool) : laws_FnWithout.c6 n x0 x1 x2 x3 x4 x5 x6 x7 x8 x9 x10 x11 x12 = exSeg cfg (pick (cal n)) (lam n) fin (fun _ _ => none) cut10 (fun x => laws_FnWithout.c10 n x.1.1 x.1.2.1 x.1.2.2.1 x.2.1 x.2.2.1.1 x.2.2.1.2.1 x.2.2.1.2.2.1 x.2.2.2.1 x.2.2.2.2.1.1 x.2.2.2.2.1.2.1 x.2.2.2.2.1.2.2.1 x.2.2.2.2.2.1 x.2.2.2.2.2.2.1.1 x.2.2.2.2.2.2.1.2.1 x.2.2.2.2.2.2.1.2.2.1 x.2.2.2.2.2.2.2.1 x.2.2.2.2.2.2.2.2.1.1 x.2.2.2.2.2.2.2.2.1.2.1 x.2.2.2.2.2.2.2.2.1.2.2.1 x.2.2.2.2.2.2.2.2.2.1 x.2.2.2.2.2.2.2.2.2.2.1.1 x.2.2.2.2.2.2.2.2.2.2.1.2.1 x.2.2.2.2.2.2.2.2.2.2.1.2.2.1 x.2.2.2.2.2.2.2.2.2.2.2.1 x.2.2.2.2.2.2.2.2.2.2.2.2.1.1 x.2.2.2.2.2.2.2.2.2.2.2.2.1.2.1 x.2.2.2.2.2.2.2.2.2.2.2.2.1.2.2.1 x.2.2.2.2.2.2.2.2.2.2.2.2.2.1) 3 code6 (mkSt cut6 (x0, (x1, x2, x3, ()), x4, (x5, x6, x7, ()), x8, (x9, x10, x11, ()), x12, ())) := by
  kernel_rfl
theorem c6_eq (n : Nat) (x0 : List (Int)) (x1 : Int) (x2 : List (Int × Int × Int)) (x3 : List (Int)) (x4 : Int) (x5 : Int) (x6 : List (Int × Int × Int)) (x7 : List (Int)) (x8 : Bool) (x9 : Int) (x10 : List (Int × Int × Int)) (x11 : List (Int)) (x12 : Bool) : laws_FnWithout.c6 n x0 x1 x2 x3 x4 x5 x6 x7 x8 x9 x10 x11 x12 = exK cfg (pick (cal n)) (lam n) fin code6 (fun _ _ => none) (mkSt cut6 (x0, (x1, x2, x3, ()), x4, (x5, x6, x7, ()), x8, (x9, x10, x11, ()), x12, ())) fin := 
  (c6_seg n x0 x1 x2 x3 x4 x5 x6 x7 x8 x9 x10 x11 x12).trans (seg_eq 3 (by kernel_rfl) rfl (by kernel_rfl) (fun x => c10_eq n x.1.1 x.1.2.1 x.1.2.2.1 x.2.1 x.2.2.1.1 x.2.2.1.2.1 x.2.2.1.2.2.1 x.2.2.2.1 x.2.2.2.2.1.1 x.2.2.2.2.1.2.1 x.2.2.2.2.1.2.2.1 x.2.2.2.2.2.1 x.2.2.2.2.2.2.1.1 x.2.2.2.2.2.2.1.2.1 x.2.2.2.2.2.2.1.2.2.1 x.2.2.2.2.2.2.2.1 x.2.2.2.2.2.2.2.2.1.1 x.2.2.2.2.2.2.2.2.1.2.1 x.2.2.2.2.2.2.2.2.1.2.2.1 x.2.2.2.2.2.2.2.2.2.1 x.2.2.2.2.2.2.2.2.2.2.1.1 x.2.2.2.2.2.2.2.2.2.2.1.2.1 x.2.2.2.2.2.2.2.2.2.2.1.2.2.1 x.2.2.2.2.2.2.2.2.2.2.2.1 x.2.2.2.2.2.2.2.2.2.2.2.2.1.1 x.2.2.2.2.2.2.2.2.2.2.2.2.1.2.1 x.2.2.2.2.2.2.2.2.2.2.2.2.1.2.2.1 x.2.2.2.2.2.2.2.2.2.2.2.2.2.1))
theorem F_seg (n : Nat) (x0 : List (Int)) : laws_FnWithout.F n x0 = exSeg cfg (pick (cal n)) (lam n) fin (fun _ _ => none) cut6 (fun x => laws_FnWithout.c6 n x.1 x.2.1.1 x.2.1.2.1 x.2.1.2.2.1 x.2.2.1 x.2.2.2.1.1 x.2.2.2.1.2.1 x.2.2.2.1.2.2.1 x.2.2.2.2.1 x.2.2.2.2.2.1.1 x.2.2.2.2.2.1.2.1 x.2.2.2.2.2.1.2.2.1 x.2.2.2.2.2.2.1) 4 code (mkSt shp (x0, ())) := by
  kernel_rfl
theorem F_eq (n : Nat) (x0 : List (Int)) : laws_FnWithout.F n x0 = exK cfg (pick (cal n)) (lam n) fin code (fun _ _ => none) (mkSt shp (x0, ())) fin :=
  (F_seg n x0).trans (seg_eq 4 (by kernel_rfl) rfl (by kernel_rfl) (fun x => c6_eq n x.1 x.2.1.1 x.2.1.2.1 x.2.1.2.2.1 x.2.2.1 x.2.2.2.1.1 x.2.2.2.1.2.1 x.2.2.2.1.2.2.1 x.2.2.2.2.1 x.2.2.2.2.2.1.1 x.2.2.2.2.2.1.2.1 x.2.2.2.2.2.1.2.2.1 x.2.2.2.2.2.2.1))
def pfn (n : Nat) : PFn := mkFn shp outs (fun x => laws_FnWithout.F n x.1) out
theorem ok (n : Nat) : (pfn n).Ok Go.Proofs.Try.prog 12 :=
  mkFn_ok (fn := Go.Proofs.Try.f12) (code := code) Go.Proofs.Try.func12 (by kernel_rfl) (by decide) (C := cfg) (Φ := pick (cal n)) (Λ := lam n) (into := into) hT (cal_ok n) (by kernel_rfl) rfl (by decide) rfl (fun _ => rfl) (loops n)
    (fun x r h => by
      have e := F_eq n x.1
      exact e.symm.trans h)
end laws_FnWithout
end
end Go.Pf
