/- The Go functions of this seat do what their pure functions tell; printed by a program of mine (mach.py). -/
import Derived.Test.YtfgncboicamdjaaGreatDoorMach1
set_option linter.unusedVariables false
set_option autoImplicit false
set_option maxRecDepth 100000
set_option maxHeartbeats 4000000
namespace Go.Pf
open Go Go.Fx
noncomputable section

/-! ### loop.example/g01158/impl.DoorsAt -/
section
namespace impl_DoorsAt
noncomputable def code : Code := (Go.Proofs.Tryz.f16.body).getD .skip
abbrev shp : Shape := [(0, .agg [.int .i64, .row (.t3) false, .row (.int .i64) false]), (1, .one (.int .i64))]
abbrev outs : List KD := [.one (.row (.int .i64) true), .one (.bool)]
abbrev R : Type := (List (Int)) × Bool
def out : R → denL outs := fun r => (r.1, r.2, ())
def into : denL outs → R := fun y => (y.1, y.2.1)
def cfg : Cfg := ⟨ty, 39, [], fun i => match Nat.beq i 0 with | true => .loop | false => .plain, fun _ => none⟩
def cal (n : Nat) : List (Nat × PFn) := [(39, impl_isNode.pfn n)]
theorem cal_ok (n : Nat) : ∀ g, (pick (cal n) g).Ok Go.Proofs.Tryz.prog g := pick_ok (by
  intro p hp
  simp only [cal, List.mem_cons, List.not_mem_nil, or_false] at hp
  rcases hp with rfl
  · exact impl_isNode.ok n)
def fin : St → Option R := finOf ty [.tmp 4, .tmp 5] outs into
abbrev sin0 : Shape := [(1, .one (.int .i64)), (6, .one (.row (.int .i64) true)), (16, .one (.row (.t3) false)), (17, .one (.int .i64)), (18, .one (.int .i64))]
abbrev sout0 : Shape := [(6, .one (.row (.int .i64) true))]
def lam (n : Nat) : Nat → (St → Option R) → St → Option R := fun i => match Nat.beq i 0 with | true => (fun K st => match absSt sin0 st with | some (x, _) => impl_DoorsAt.l0 n (fun y0 => K (mkSt sout0 (y0, ()))) n x.1 x.2.1 x.2.2.1 x.2.2.2.1 x.2.2.2.2.1 | none => none) | false => fun _ _ => none
noncomputable def lps : List (Nat × Code) := loopsOf cfg.blk code
noncomputable def b0 : Code := bodyOf lps 0
theorem l0_eq (n : Nat) (K : St → Option R) : ∀ (j : Nat) (x0 : Int) (x1 : List (Int)) (x2 : List (Int × Int × Int)) (x3 : Int) (x4 : Int), impl_DoorsAt.l0 n (fun y0 => K (mkSt sout0 (y0, ()))) j x0 x1 x2 x3 x4 = iter (roundK cfg (pick (cal n)) (lam n) fin 0 b0 sin0 sout0 K) j (mkSt sin0 (x0, x1, x2, x3, x4, ()))
  | 0, _, _, _, _, _ => rfl
  | j + 1, x0, x1, x2, x3, x4 => by
    have ih : impl_DoorsAt.l0 n (fun y0 => K (mkSt sout0 (y0, ()))) j = fun x0 x1 x2 x3 x4 => iter (roundK cfg (pick (cal n)) (lam n) fin 0 b0 sin0 sout0 K) j (mkSt sin0 (x0, x1, x2, x3, x4, ())) := funext fun x0 => funext fun x1 => funext fun x2 => funext fun x3 => funext fun x4 => l0_eq n K j x0 x1 x2 x3 x4
    rw [impl_DoorsAt.l0, ih]
    show _ = roundK cfg (pick (cal n)) (lam n) fin 0 b0 sin0 sout0 K (iter (roundK cfg (pick (cal n)) (lam n) fin 0 b0 sin0 sout0 K) j) (mkSt sin0 (x0, x1, x2, x3, x4, ()))
    kernel_rfl
theorem loops (n : Nat) : LoopsOk cfg (pick (cal n)) (lam n) fin (loopsOf cfg.blk code) := by
  have h : loopsOf cfg.blk code = [(0, b0)] := by kernel_rfl
  rw [h]
  intro p hp K st r hr
  simp only [List.mem_cons, List.not_mem_nil, or_false] at hp
  rcases hp with rfl
  · have hr' : (match absSt sin0 st with | some (x, _) => impl_DoorsAt.l0 n (fun y0 => K (mkSt sout0 (y0, ()))) n x.1 x.2.1 x.2.2.1 x.2.2.2.1 x.2.2.2.2.1 | none => none) = some r := hr
    split at hr'
    · rename_i x es hx
      rw [l0_eq] at hr'
      exact ⟨sin0, sout0, n, x, es, hx, hr'⟩
    · cases hr'
theorem F_eq (n : Nat) (x0 : Int) (x1 : List (Int × Int × Int)) (x2 : List (Int)) (x3 : Int) : impl_DoorsAt.F n x0 x1 x2 x3 = exK cfg (pick (cal n)) (lam n) fin code (fun _ _ => none) (mkSt shp ((x0, x1, x2, ()), x3, ())) fin := by
  kernel_rfl
def pfn (n : Nat) : PFn := mkFn shp outs (fun x => impl_DoorsAt.F n x.1.1 x.1.2.1 x.1.2.2.1 x.2.1) out
theorem ok (n : Nat) : (pfn n).Ok Go.Proofs.Tryz.prog 16 :=
  mkFn_ok (fn := Go.Proofs.Tryz.f16) (code := code) Go.Proofs.Tryz.func16 (by kernel_rfl) (by decide) (C := cfg) (Φ := pick (cal n)) (Λ := lam n) (into := into) hT (cal_ok n) (by kernel_rfl) rfl (by decide) rfl (fun _ => rfl) (loops n)
    (fun x r h => by
      have e := F_eq n x.1.1 x.1.2.1 x.1.2.2.1 x.2.1
      exact e.symm.trans h)
end impl_DoorsAt
end
/-! ### loop.example/g01158/spec.DoorsAt -/
section
namespace spec_DoorsAt
noncomputable def code : Code := (Go.Proofs.Tryz.f17.body).getD .skip
abbrev shp : Shape := [(0, .agg [.int .i64, .row (.t3) false, .row (.int .i64) false]), (1, .one (.int .i64))]
abbrev outs : List KD := [.one (.row (.int .i64) true), .one (.bool)]
abbrev R : Type := (List (Int)) × Bool
def out : R → denL outs := fun r => (r.1, r.2, ())
def into : denL outs → R := fun y => (y.1, y.2.1)
def cfg : Cfg := ⟨ty, 44, [], fun i => match Nat.beq i 0 with | true => .loop | false => .plain, fun _ => none⟩
def cal (n : Nat) : List (Nat × PFn) := [(42, spec_l2Node.pfn n)]
theorem cal_ok (n : Nat) : ∀ g, (pick (cal n) g).Ok Go.Proofs.Tryz.prog g := pick_ok (by
  intro p hp
  simp only [cal, List.mem_cons, List.not_mem_nil, or_false] at hp
  rcases hp with rfl
  · exact spec_l2Node.ok n)
def fin : St → Option R := finOf ty [.tmp 4, .tmp 5] outs into
abbrev sin0 : Shape := [(1, .one (.int .i64)), (2, .box true [.int .i64, .row (.t3) false, .row (.int .i64) false]), (6, .one (.row (.int .i64) true)), (7, .one (.int .i64))]
abbrev sout0 : Shape := [(6, .one (.row (.int .i64) true))]
def lam (n : Nat) : Nat → (St → Option R) → St → Option R := fun i => match Nat.beq i 0 with | true => (fun K st => match absSt sin0 st with | some (x, _) => spec_DoorsAt.l0 n (fun y0 => K (mkSt sout0 (y0, ()))) n x.1 x.2.1.1 x.2.1.2.1 x.2.1.2.2.1 x.2.2.1 x.2.2.2.1 | none => none) | false => fun _ _ => none
noncomputable def lps : List (Nat × Code) := loopsOf cfg.blk code
noncomputable def b0 : Code := bodyOf lps 0
theorem l0_eq (n : Nat) (K : St → Option R) : ∀ (j : Nat) (x0 : Int) (x1 : Int) (x2 : List (Int × Int × Int)) (x3 : List (Int)) (x4 : List (Int)) (x5 : Int), spec_DoorsAt.l0 n (fun y0 => K (mkSt sout0 (y0, ()))) j x0 x1 x2 x3 x4 x5 = iter (roundK cfg (pick (cal n)) (lam n) fin 0 b0 sin0 sout0 K) j (mkSt sin0 (x0, (x1, x2, x3, ()), x4, x5, ()))
  | 0, _, _, _, _, _, _ => rfl
  | j + 1, x0, x1, x2, x3, x4, x5 => by
    have ih : spec_DoorsAt.l0 n (fun y0 => K (mkSt sout0 (y0, ()))) j = fun x0 x1 x2 x3 x4 x5 => iter (roundK cfg (pick (cal n)) (lam n) fin 0 b0 sin0 sout0 K) j (mkSt sin0 (x0, (x1, x2, x3, ()), x4, x5, ())) := funext fun x0 => funext fun x1 => funext fun x2 => funext fun x3 => funext fun x4 => funext fun x5 => l0_eq n K j x0 x1 x2 x3 x4 x5
    rw [spec_DoorsAt.l0, ih]
    show _ = roundK cfg (pick (cal n)) (lam n) fin 0 b0 sin0 sout0 K (iter (roundK cfg (pick (cal n)) (lam n) fin 0 b0 sin0 sout0 K) j) (mkSt sin0 (x0, (x1, x2, x3, ()), x4, x5, ()))
    kernel_rfl
theorem loops (n : Nat) : LoopsOk cfg (pick (cal n)) (lam n) fin (loopsOf cfg.blk code) := by
  have h : loopsOf cfg.blk code = [(0, b0)] := by kernel_rfl
  rw [h]
  intro p hp K st r hr
  simp only [List.mem_cons, List.not_mem_nil, or_false] at hp
  rcases hp with rfl
  · have hr' : (match absSt sin0 st with | some (x, _) => spec_DoorsAt.l0 n (fun y0 => K (mkSt sout0 (y0, ()))) n x.1 x.2.1.1 x.2.1.2.1 x.2.1.2.2.1 x.2.2.1 x.2.2.2.1 | none => none) = some r := hr
    split at hr'
    · rename_i x es hx
      rw [l0_eq] at hr'
      exact ⟨sin0, sout0, n, x, es, hx, hr'⟩
    · cases hr'
theorem F_eq (n : Nat) (x0 : Int) (x1 : List (Int × Int × Int)) (x2 : List (Int)) (x3 : Int) : spec_DoorsAt.F n x0 x1 x2 x3 = exK cfg (pick (cal n)) (lam n) fin code (fun _ _ => none) (mkSt shp ((x0, x1, x2, ()), x3, ())) fin := by
  kernel_rfl
def pfn (n : Nat) : PFn := mkFn shp outs (fun x => spec_DoorsAt.F n x.1.1 x.1.2.1 x.1.2.2.1 x.2.1) out
theorem ok (n : Nat) : (pfn n).Ok Go.Proofs.Tryz.prog 17 :=
  mkFn_ok (fn := Go.Proofs.Tryz.f17) (code := code) Go.Proofs.Tryz.func17 (by kernel_rfl) (by decide) (C := cfg) (Φ := pick (cal n)) (Λ := lam n) (into := into) hT (cal_ok n) (by kernel_rfl) rfl (by decide) rfl (fun _ => rfl) (loops n)
    (fun x r h => by
      have e := F_eq n x.1.1 x.1.2.1 x.1.2.2.1 x.2.1
      exact e.symm.trans h)
end spec_DoorsAt
end
/-! ### loop.example/g01158/spec.IsMaze -/
section
namespace spec_IsMaze
noncomputable def code : Code := (Go.Proofs.Tryz.f19.body).getD .skip
abbrev shp : Shape := [(0, .agg [.int .i64, .row (.t3) false, .row (.int .i64) false])]
abbrev outs : List KD := [.one (.bool)]
abbrev R : Type := Bool
def out : R → denL outs := fun r => (r, ())
def into : denL outs → R := fun y => y.1
def cfg : Cfg := ⟨ty, 5, [], fun _ => .plain, fun _ => none⟩
def cal (n : Nat) : List (Nat × PFn) := [(35, spec_l2Maze.pfn n)]
theorem cal_ok (n : Nat) : ∀ g, (pick (cal n) g).Ok Go.Proofs.Tryz.prog g := pick_ok (by
  intro p hp
  simp only [cal, List.mem_cons, List.not_mem_nil, or_false] at hp
  rcases hp with rfl
  · exact spec_l2Maze.ok n)
def fin : St → Option R := finOf ty [.tmp 2] outs into
def lam (n : Nat) : Nat → (St → Option R) → St → Option R := fun _ => fun _ _ => none
theorem loops (n : Nat) : LoopsOk cfg (pick (cal n)) (lam n) fin (loopsOf cfg.blk code) := by
  have h : loopsOf cfg.blk code = [] := by kernel_rfl
  rw [h]
  intro p hp
  cases hp
theorem F_eq (n : Nat) (x0 : Int) (x1 : List (Int × Int × Int)) (x2 : List (Int)) : spec_IsMaze.F n x0 x1 x2 = exK cfg (pick (cal n)) (lam n) fin code (fun _ _ => none) (mkSt shp ((x0, x1, x2, ()), ())) fin := by
  kernel_rfl
def pfn (n : Nat) : PFn := mkFn shp outs (fun x => spec_IsMaze.F n x.1.1 x.1.2.1 x.1.2.2.1) out
theorem ok (n : Nat) : (pfn n).Ok Go.Proofs.Tryz.prog 19 :=
  mkFn_ok (fn := Go.Proofs.Tryz.f19) (code := code) Go.Proofs.Tryz.func19 (by kernel_rfl) (by decide) (C := cfg) (Φ := pick (cal n)) (Λ := lam n) (into := into) hT (cal_ok n) (by kernel_rfl) rfl (by decide) rfl (fun _ => rfl) (loops n)
    (fun x r h => by
      have e := F_eq n x.1.1 x.1.2.1 x.1.2.2.1
      exact e.symm.trans h)
end spec_IsMaze
end
/-! ### loop.example/g01158/spec.DrawSetOf -/
section
namespace spec_DrawSetOf
noncomputable def code : Code := (Go.Proofs.Tryz.f20.body).getD .skip
abbrev shp : Shape := [(0, .one (.row (.int .u8) false))]
abbrev outs : List KD := [.one (.row (.int .i64) true)]
abbrev R : Type := (List (Int))
def out : R → denL outs := fun r => (r, ())
def into : denL outs → R := fun y => y.1
def cfg : Cfg := ⟨ty, 30, [], fun i => match Nat.beq i 0 with | true => .loop | false => .plain, fun _ => none⟩
def cal (n : Nat) : List (Nat × PFn) := [(36, spec_l1Cur_one.pfn n), (37, spec_l1Cur_pick.pfn n), (61, spec_l1Cur_among.pfn n)]
theorem cal_ok (n : Nat) : ∀ g, (pick (cal n) g).Ok Go.Proofs.Tryz.prog g := pick_ok (by
  intro p hp
  simp only [cal, List.mem_cons, List.not_mem_nil, or_false] at hp
  rcases hp with rfl | rfl | rfl
  · exact spec_l1Cur_one.ok n
  · exact spec_l1Cur_pick.ok n
  · exact spec_l1Cur_among.ok n)
def fin : St → Option R := finOf ty [.tmp 2] outs into
abbrev sin0 : Shape := [(3, .box true [.row (.int .u8) false, .int .i64, .int .u64]), (4, .one (.row (.int .i64) true)), (5, .one (.int .i64))]
abbrev sout0 : Shape := [(3, .box true [.row (.int .u8) false, .int .i64, .int .u64]), (4, .one (.row (.int .i64) true))]
def lam (n : Nat) : Nat → (St → Option R) → St → Option R := fun i => match Nat.beq i 0 with | true => (fun K st => match absSt sin0 st with | some (x, _) => spec_DrawSetOf.l0 n (fun y0 y1 y2 y3 => K (mkSt sout0 ((y0, y1, y2, ()), y3, ()))) n x.1.1 x.1.2.1 x.1.2.2.1 x.2.1 x.2.2.1 | none => none) | false => fun _ _ => none
noncomputable def lps : List (Nat × Code) := loopsOf cfg.blk code
noncomputable def b0 : Code := bodyOf lps 0
theorem l0_eq (n : Nat) (K : St → Option R) : ∀ (j : Nat) (x0 : List (Int)) (x1 : Int) (x2 : Int) (x3 : List (Int)) (x4 : Int), spec_DrawSetOf.l0 n (fun y0 y1 y2 y3 => K (mkSt sout0 ((y0, y1, y2, ()), y3, ()))) j x0 x1 x2 x3 x4 = iter (roundK cfg (pick (cal n)) (lam n) fin 0 b0 sin0 sout0 K) j (mkSt sin0 ((x0, x1, x2, ()), x3, x4, ()))
  | 0, _, _, _, _, _ => rfl
  | j + 1, x0, x1, x2, x3, x4 => by
    have ih : spec_DrawSetOf.l0 n (fun y0 y1 y2 y3 => K (mkSt sout0 ((y0, y1, y2, ()), y3, ()))) j = fun x0 x1 x2 x3 x4 => iter (roundK cfg (pick (cal n)) (lam n) fin 0 b0 sin0 sout0 K) j (mkSt sin0 ((x0, x1, x2, ()), x3, x4, ())) := funext fun x0 => funext fun x1 => funext fun x2 => funext fun x3 => funext fun x4 => l0_eq n K j x0 x1 x2 x3 x4
    rw [spec_DrawSetOf.l0, ih]
    show _ = roundK cfg (pick (cal n)) (lam n) fin 0 b0 sin0 sout0 K (iter (roundK cfg (pick (cal n)) (lam n) fin 0 b0 sin0 sout0 K) j) (mkSt sin0 ((x0, x1, x2, ()), x3, x4, ()))
    kernel_rfl
theorem loops (n : Nat) : LoopsOk cfg (pick (cal n)) (lam n) fin (loopsOf cfg.blk code) := by
  have h : loopsOf cfg.blk code = [(0, b0)] := by kernel_rfl
  rw [h]
  intro p hp K st r hr
  simp only [List.mem_cons, List.not_mem_nil, or_false] at hp
  rcases hp with rfl
  · have hr' : (match absSt sin0 st with | some (x, _) => spec_DrawSetOf.l0 n (fun y0 y1 y2 y3 => K (mkSt sout0 ((y0, y1, y2, ()), y3, ()))) n x.1.1 x.1.2.1 x.1.2.2.1 x.2.1 x.2.2.1 | none => none) = some r := hr
    split at hr'
    · rename_i x es hx
      rw [l0_eq] at hr'
      exact ⟨sin0, sout0, n, x, es, hx, hr'⟩
    · cases hr'
theorem F_eq (n : Nat) (x0 : List (Int)) : spec_DrawSetOf.F n x0 = exK cfg (pick (cal n)) (lam n) fin code (fun _ _ => none) (mkSt shp (x0, ())) fin := by
  kernel_rfl
def pfn (n : Nat) : PFn := mkFn shp outs (fun x => spec_DrawSetOf.F n x.1) out
theorem ok (n : Nat) : (pfn n).Ok Go.Proofs.Tryz.prog 20 :=
  mkFn_ok (fn := Go.Proofs.Tryz.f20) (code := code) Go.Proofs.Tryz.func20 (by kernel_rfl) (by decide) (C := cfg) (Φ := pick (cal n)) (Λ := lam n) (into := into) hT (cal_ok n) (by kernel_rfl) rfl (by decide) rfl (fun _ => rfl) (loops n)
    (fun x r h => by
      have e := F_eq n x.1
      exact e.symm.trans h)
end spec_DrawSetOf
end
/-! ### loop.example/g01158/impl.SetOf -/
section
namespace impl_SetOf
noncomputable def code : Code := (Go.Proofs.Tryz.f21.body).getD .skip
abbrev shp : Shape := [(0, .one (.row (.int .i64) false))]
abbrev outs : List KD := [.one (.int .i64), .one (.bool)]
abbrev R : Type := Int × Bool
def out : R → denL outs := fun r => (r.1, r.2, ())
def into : denL outs → R := fun y => (y.1, y.2.1)
def cfg : Cfg := ⟨ty, 22, [], fun i => match Nat.beq i 0 with | true => .loop | false => .plain, fun _ => none⟩
def cal (n : Nat) : List (Nat × PFn) := [(58, impl_within.pfn n)]
theorem cal_ok (n : Nat) : ∀ g, (pick (cal n) g).Ok Go.Proofs.Tryz.prog g := pick_ok (by
  intro p hp
  simp only [cal, List.mem_cons, List.not_mem_nil, or_false] at hp
  rcases hp with rfl
  · exact impl_within.ok n)
def fin : St → Option R := finOf ty [.tmp 2, .tmp 3] outs into
abbrev sin0 : Shape := [(4, .one (.int .i64)), (7, .one (.row (.int .i64) false)), (8, .one (.int .i64)), (9, .one (.int .i64))]
abbrev sout0 : Shape := [(4, .one (.int .i64))]
def lam (n : Nat) : Nat → (St → Option R) → St → Option R := fun i => match Nat.beq i 0 with | true => (fun K st => match absSt sin0 st with | some (x, _) => impl_SetOf.l0 n (fun y0 => K (mkSt sout0 (y0, ()))) n x.1 x.2.1 x.2.2.1 x.2.2.2.1 | none => none) | false => fun _ _ => none
noncomputable def lps : List (Nat × Code) := loopsOf cfg.blk code
noncomputable def b0 : Code := bodyOf lps 0
theorem l0_eq (n : Nat) (K : St → Option R) : ∀ (j : Nat) (x0 : Int) (x1 : List (Int)) (x2 : Int) (x3 : Int), impl_SetOf.l0 n (fun y0 => K (mkSt sout0 (y0, ()))) j x0 x1 x2 x3 = iter (roundK cfg (pick (cal n)) (lam n) fin 0 b0 sin0 sout0 K) j (mkSt sin0 (x0, x1, x2, x3, ()))
  | 0, _, _, _, _ => rfl
  | j + 1, x0, x1, x2, x3 => by
    have ih : impl_SetOf.l0 n (fun y0 => K (mkSt sout0 (y0, ()))) j = fun x0 x1 x2 x3 => iter (roundK cfg (pick (cal n)) (lam n) fin 0 b0 sin0 sout0 K) j (mkSt sin0 (x0, x1, x2, x3, ())) := funext fun x0 => funext fun x1 => funext fun x2 => funext fun x3 => l0_eq n K j x0 x1 x2 x3
    rw [impl_SetOf.l0, ih]
    show _ = roundK cfg (pick (cal n)) (lam n) fin 0 b0 sin0 sout0 K (iter (roundK cfg (pick (cal n)) (lam n) fin 0 b0 sin0 sout0 K) j) (mkSt sin0 (x0, x1, x2, x3, ()))
    kernel_rfl
theorem loops (n : Nat) : LoopsOk cfg (pick (cal n)) (lam n) fin (loopsOf cfg.blk code) := by
  have h : loopsOf cfg.blk code = [(0, b0)] := by kernel_rfl
  rw [h]
  intro p hp K st r hr
  simp only [List.mem_cons, List.not_mem_nil, or_false] at hp
  rcases hp with rfl
  · have hr' : (match absSt sin0 st with | some (x, _) => impl_SetOf.l0 n (fun y0 => K (mkSt sout0 (y0, ()))) n x.1 x.2.1 x.2.2.1 x.2.2.2.1 | none => none) = some r := hr
    split at hr'
    · rename_i x es hx
      rw [l0_eq] at hr'
      exact ⟨sin0, sout0, n, x, es, hx, hr'⟩
    · cases hr'
theorem F_eq (n : Nat) (x0 : List (Int)) : impl_SetOf.F n x0 = exK cfg (pick (cal n)) (lam n) fin code (fun _ _ => none) (mkSt shp (x0, ())) fin := by
  kernel_rfl
def pfn (n : Nat) : PFn := mkFn shp outs (fun x => impl_SetOf.F n x.1) out
theorem ok (n : Nat) : (pfn n).Ok Go.Proofs.Tryz.prog 21 :=
  mkFn_ok (fn := Go.Proofs.Tryz.f21) (code := code) Go.Proofs.Tryz.func21 (by kernel_rfl) (by decide) (C := cfg) (Φ := pick (cal n)) (Λ := lam n) (into := into) hT (cal_ok n) (by kernel_rfl) rfl (by decide) rfl (fun _ => rfl) (loops n)
    (fun x r h => by
      have e := F_eq n x.1
      exact e.symm.trans h)
end impl_SetOf
end
/-! ### loop.example/g01158/spec.SetOf -/
section
namespace spec_SetOf
noncomputable def code : Code := (Go.Proofs.Tryz.f22.body).getD .skip
abbrev shp : Shape := [(0, .one (.row (.int .i64) false))]
abbrev outs : List KD := [.one (.int .i64), .one (.bool)]
abbrev R : Type := Int × Bool
def out : R → denL outs := fun r => (r.1, r.2, ())
def into : denL outs → R := fun y => (y.1, y.2.1)
def cfg : Cfg := ⟨ty, 26, [], fun i => match Nat.beq i 0 with | true => .loop | false => .plain, fun _ => none⟩
def cal (n : Nat) : List (Nat × PFn) := [(62, spec_l1In.pfn n)]
theorem cal_ok (n : Nat) : ∀ g, (pick (cal n) g).Ok Go.Proofs.Tryz.prog g := pick_ok (by
  intro p hp
  simp only [cal, List.mem_cons, List.not_mem_nil, or_false] at hp
  rcases hp with rfl
  · exact spec_l1In.ok n)
def fin : St → Option R := finOf ty [.tmp 2, .tmp 3] outs into
abbrev sin0 : Shape := [(0, .one (.row (.int .i64) false)), (4, .one (.int .i64)), (5, .one (.int .i64))]
abbrev sout0 : Shape := [(4, .one (.int .i64))]
def lam (n : Nat) : Nat → (St → Option R) → St → Option R := fun i => match Nat.beq i 0 with | true => (fun K st => match absSt sin0 st with | some (x, _) => spec_SetOf.l0 n (fun y0 => K (mkSt sout0 (y0, ()))) n x.1 x.2.1 x.2.2.1 | none => none) | false => fun _ _ => none
noncomputable def lps : List (Nat × Code) := loopsOf cfg.blk code
noncomputable def b0 : Code := bodyOf lps 0
theorem l0_eq (n : Nat) (K : St → Option R) : ∀ (j : Nat) (x0 : List (Int)) (x1 : Int) (x2 : Int), spec_SetOf.l0 n (fun y0 => K (mkSt sout0 (y0, ()))) j x0 x1 x2 = iter (roundK cfg (pick (cal n)) (lam n) fin 0 b0 sin0 sout0 K) j (mkSt sin0 (x0, x1, x2, ()))
  | 0, _, _, _ => rfl
  | j + 1, x0, x1, x2 => by
    have ih : spec_SetOf.l0 n (fun y0 => K (mkSt sout0 (y0, ()))) j = fun x0 x1 x2 => iter (roundK cfg (pick (cal n)) (lam n) fin 0 b0 sin0 sout0 K) j (mkSt sin0 (x0, x1, x2, ())) := funext fun x0 => funext fun x1 => funext fun x2 => l0_eq n K j x0 x1 x2
    rw [spec_SetOf.l0, ih]
    show _ = roundK cfg (pick (cal n)) (lam n) fin 0 b0 sin0 sout0 K (iter (roundK cfg (pick (cal n)) (lam n) fin 0 b0 sin0 sout0 K) j) (mkSt sin0 (x0, x1, x2, ()))
    kernel_rfl
theorem loops (n : Nat) : LoopsOk cfg (pick (cal n)) (lam n) fin (loopsOf cfg.blk code) := by
  have h : loopsOf cfg.blk code = [(0, b0)] := by kernel_rfl
  rw [h]
  intro p hp K st r hr
  simp only [List.mem_cons, List.not_mem_nil, or_false] at hp
  rcases hp with rfl
  · have hr' : (match absSt sin0 st with | some (x, _) => spec_SetOf.l0 n (fun y0 => K (mkSt sout0 (y0, ()))) n x.1 x.2.1 x.2.2.1 | none => none) = some r := hr
    split at hr'
    · rename_i x es hx
      rw [l0_eq] at hr'
      exact ⟨sin0, sout0, n, x, es, hx, hr'⟩
    · cases hr'
theorem F_eq (n : Nat) (x0 : List (Int)) : spec_SetOf.F n x0 = exK cfg (pick (cal n)) (lam n) fin code (fun _ _ => none) (mkSt shp (x0, ())) fin := by
  kernel_rfl
def pfn (n : Nat) : PFn := mkFn shp outs (fun x => spec_SetOf.F n x.1) out
theorem ok (n : Nat) : (pfn n).Ok Go.Proofs.Tryz.prog 22 :=
  mkFn_ok (fn := Go.Proofs.Tryz.f22) (code := code) Go.Proofs.Tryz.func22 (by kernel_rfl) (by decide) (C := cfg) (Φ := pick (cal n)) (Λ := lam n) (into := into) hT (cal_ok n) (by kernel_rfl) rfl (by decide) rfl (fun _ => rfl) (loops n)
    (fun x r h => by
      have e := F_eq n x.1
      exact e.symm.trans h)
end spec_SetOf
end
/-! ### loop.example/g01158/spec.DrawColoursOf -/
section
namespace spec_DrawColoursOf
noncomputable def code : Code := (Go.Proofs.Tryz.f23.body).getD .skip
abbrev shp : Shape := [(0, .one (.row (.int .u8) false))]
abbrev outs : List KD := [.one (.int .i64)]
abbrev R : Type := Int
def out : R → denL outs := fun r => (r, ())
def into : denL outs → R := fun y => y.1
def cfg : Cfg := ⟨ty, 9, [], fun _ => .plain, fun _ => none⟩
def cal (n : Nat) : List (Nat × PFn) := [(38, spec_l1Cur_colours.pfn n)]
theorem cal_ok (n : Nat) : ∀ g, (pick (cal n) g).Ok Go.Proofs.Tryz.prog g := pick_ok (by
  intro p hp
  simp only [cal, List.mem_cons, List.not_mem_nil, or_false] at hp
  rcases hp with rfl
  · exact spec_l1Cur_colours.ok n)
def fin : St → Option R := finOf ty [.tmp 2] outs into
def lam (n : Nat) : Nat → (St → Option R) → St → Option R := fun _ => fun _ _ => none
theorem loops (n : Nat) : LoopsOk cfg (pick (cal n)) (lam n) fin (loopsOf cfg.blk code) := by
  have h : loopsOf cfg.blk code = [] := by kernel_rfl
  rw [h]
  intro p hp
  cases hp
theorem F_eq (n : Nat) (x0 : List (Int)) : spec_DrawColoursOf.F n x0 = exK cfg (pick (cal n)) (lam n) fin code (fun _ _ => none) (mkSt shp (x0, ())) fin := by
  kernel_rfl
def pfn (n : Nat) : PFn := mkFn shp outs (fun x => spec_DrawColoursOf.F n x.1) out
theorem ok (n : Nat) : (pfn n).Ok Go.Proofs.Tryz.prog 23 :=
  mkFn_ok (fn := Go.Proofs.Tryz.f23) (code := code) Go.Proofs.Tryz.func23 (by kernel_rfl) (by decide) (C := cfg) (Φ := pick (cal n)) (Λ := lam n) (into := into) hT (cal_ok n) (by kernel_rfl) rfl (by decide) rfl (fun _ => rfl) (loops n)
    (fun x r h => by
      have e := F_eq n x.1
      exact e.symm.trans h)
end spec_DrawColoursOf
end
/-! ### loop.example/g01158/impl.ColoursOf -/
section
namespace impl_ColoursOf
noncomputable def code : Code := (Go.Proofs.Tryz.f24.body).getD .skip
abbrev shp : Shape := [(0, .one (.int .i64))]
abbrev outs : List KD := [.one (.row (.int .i64) true), .one (.bool)]
abbrev R : Type := (List (Int)) × Bool
def out : R → denL outs := fun r => (r.1, r.2, ())
def into : denL outs → R := fun y => (y.1, y.2.1)
def cfg : Cfg := ⟨ty, 9, [], fun _ => .plain, fun _ => none⟩
def cal (n : Nat) : List (Nat × PFn) := [(40, impl_isSet.pfn n), (55, impl_members.pfn n)]
theorem cal_ok (n : Nat) : ∀ g, (pick (cal n) g).Ok Go.Proofs.Tryz.prog g := pick_ok (by
  intro p hp
  simp only [cal, List.mem_cons, List.not_mem_nil, or_false] at hp
  rcases hp with rfl | rfl
  · exact impl_isSet.ok n
  · exact impl_members.ok n)
def fin : St → Option R := finOf ty [.tmp 2, .tmp 3] outs into
def lam (n : Nat) : Nat → (St → Option R) → St → Option R := fun _ => fun _ _ => none
theorem loops (n : Nat) : LoopsOk cfg (pick (cal n)) (lam n) fin (loopsOf cfg.blk code) := by
  have h : loopsOf cfg.blk code = [] := by kernel_rfl
  rw [h]
  intro p hp
  cases hp
theorem F_eq (n : Nat) (x0 : Int) : impl_ColoursOf.F n x0 = exK cfg (pick (cal n)) (lam n) fin code (fun _ _ => none) (mkSt shp (x0, ())) fin := by
  kernel_rfl
def pfn (n : Nat) : PFn := mkFn shp outs (fun x => impl_ColoursOf.F n x.1) out
theorem ok (n : Nat) : (pfn n).Ok Go.Proofs.Tryz.prog 24 :=
  mkFn_ok (fn := Go.Proofs.Tryz.f24) (code := code) Go.Proofs.Tryz.func24 (by kernel_rfl) (by decide) (C := cfg) (Φ := pick (cal n)) (Λ := lam n) (into := into) hT (cal_ok n) (by kernel_rfl) rfl (by decide) rfl (fun _ => rfl) (loops n)
    (fun x r h => by
      have e := F_eq n x.1
      exact e.symm.trans h)
end impl_ColoursOf
end
/-! ### loop.example/g01158/spec.l2Colours -/
section
namespace spec_l2Colours
noncomputable def code : Code := (Go.Proofs.Tryz.f63.body).getD .skip
abbrev shp : Shape := [(0, .one (.int .i64))]
abbrev outs : List KD := [.one (.row (.int .i64) true)]
abbrev R : Type := (List (Int))
def out : R → denL outs := fun r => (r, ())
def into : denL outs → R := fun y => y.1
def cfg : Cfg := ⟨ty, 20, [], fun i => match Nat.beq i 0 with | true => .loop | false => .plain, fun _ => none⟩
def cal (n : Nat) : List (Nat × PFn) := []
theorem cal_ok (n : Nat) : ∀ g, (pick (cal n) g).Ok Go.Proofs.Tryz.prog g := pick_ok (by
  intro p hp
  cases hp)
def fin : St → Option R := finOf ty [.tmp 2] outs into
abbrev sin0 : Shape := [(0, .one (.int .i64)), (3, .one (.row (.int .i64) true)), (4, .one (.int .i64))]
abbrev sout0 : Shape := [(3, .one (.row (.int .i64) true))]
def lam (n : Nat) : Nat → (St → Option R) → St → Option R := fun i => match Nat.beq i 0 with | true => (fun K st => match absSt sin0 st with | some (x, _) => spec_l2Colours.l0 n (fun y0 => K (mkSt sout0 (y0, ()))) n x.1 x.2.1 x.2.2.1 | none => none) | false => fun _ _ => none
noncomputable def lps : List (Nat × Code) := loopsOf cfg.blk code
noncomputable def b0 : Code := bodyOf lps 0
theorem l0_eq (n : Nat) (K : St → Option R) : ∀ (j : Nat) (x0 : Int) (x1 : List (Int)) (x2 : Int), spec_l2Colours.l0 n (fun y0 => K (mkSt sout0 (y0, ()))) j x0 x1 x2 = iter (roundK cfg (pick (cal n)) (lam n) fin 0 b0 sin0 sout0 K) j (mkSt sin0 (x0, x1, x2, ()))
  | 0, _, _, _ => rfl
  | j + 1, x0, x1, x2 => by
    have ih : spec_l2Colours.l0 n (fun y0 => K (mkSt sout0 (y0, ()))) j = fun x0 x1 x2 => iter (roundK cfg (pick (cal n)) (lam n) fin 0 b0 sin0 sout0 K) j (mkSt sin0 (x0, x1, x2, ())) := funext fun x0 => funext fun x1 => funext fun x2 => l0_eq n K j x0 x1 x2
    rw [spec_l2Colours.l0, ih]
    show _ = roundK cfg (pick (cal n)) (lam n) fin 0 b0 sin0 sout0 K (iter (roundK cfg (pick (cal n)) (lam n) fin 0 b0 sin0 sout0 K) j) (mkSt sin0 (x0, x1, x2, ()))
    kernel_rfl
theorem loops (n : Nat) : LoopsOk cfg (pick (cal n)) (lam n) fin (loopsOf cfg.blk code) := by
  have h : loopsOf cfg.blk code = [(0, b0)] := by kernel_rfl
  rw [h]
  intro p hp K st r hr
  simp only [List.mem_cons, List.not_mem_nil, or_false] at hp
  rcases hp with rfl
  · have hr' : (match absSt sin0 st with | some (x, _) => spec_l2Colours.l0 n (fun y0 => K (mkSt sout0 (y0, ()))) n x.1 x.2.1 x.2.2.1 | none => none) = some r := hr
    split at hr'
    · rename_i x es hx
      rw [l0_eq] at hr'
      exact ⟨sin0, sout0, n, x, es, hx, hr'⟩
    · cases hr'
theorem F_eq (n : Nat) (x0 : Int) : spec_l2Colours.F n x0 = exK cfg (pick (cal n)) (lam n) fin code (fun _ _ => none) (mkSt shp (x0, ())) fin := by
  kernel_rfl
def pfn (n : Nat) : PFn := mkFn shp outs (fun x => spec_l2Colours.F n x.1) out
theorem ok (n : Nat) : (pfn n).Ok Go.Proofs.Tryz.prog 63 :=
  mkFn_ok (fn := Go.Proofs.Tryz.f63) (code := code) Go.Proofs.Tryz.func63 (by kernel_rfl) (by decide) (C := cfg) (Φ := pick (cal n)) (Λ := lam n) (into := into) hT (cal_ok n) (by kernel_rfl) rfl (by decide) rfl (fun _ => rfl) (loops n)
    (fun x r h => by
      have e := F_eq n x.1
      exact e.symm.trans h)
end spec_l2Colours
end
/-! ### loop.example/g01158/spec.ColoursOf -/
section
namespace spec_ColoursOf
noncomputable def code : Code := (Go.Proofs.Tryz.f25.body).getD .skip
abbrev shp : Shape := [(0, .one (.int .i64))]
abbrev outs : List KD := [.one (.row (.int .i64) true), .one (.bool)]
abbrev R : Type := (List (Int)) × Bool
def out : R → denL outs := fun r => (r.1, r.2, ())
def into : denL outs → R := fun y => (y.1, y.2.1)
def cfg : Cfg := ⟨ty, 10, [], fun _ => .plain, fun _ => none⟩
def cal (n : Nat) : List (Nat × PFn) := [(43, spec_l2Set.pfn n), (63, spec_l2Colours.pfn n)]
theorem cal_ok (n : Nat) : ∀ g, (pick (cal n) g).Ok Go.Proofs.Tryz.prog g := pick_ok (by
  intro p hp
  simp only [cal, List.mem_cons, List.not_mem_nil, or_false] at hp
  rcases hp with rfl | rfl
  · exact spec_l2Set.ok n
  · exact spec_l2Colours.ok n)
def fin : St → Option R := finOf ty [.tmp 2, .tmp 3] outs into
def lam (n : Nat) : Nat → (St → Option R) → St → Option R := fun _ => fun _ _ => none
theorem loops (n : Nat) : LoopsOk cfg (pick (cal n)) (lam n) fin (loopsOf cfg.blk code) := by
  have h : loopsOf cfg.blk code = [] := by kernel_rfl
  rw [h]
  intro p hp
  cases hp
theorem F_eq (n : Nat) (x0 : Int) : spec_ColoursOf.F n x0 = exK cfg (pick (cal n)) (lam n) fin code (fun _ _ => none) (mkSt shp (x0, ())) fin := by
  kernel_rfl
def pfn (n : Nat) : PFn := mkFn shp outs (fun x => spec_ColoursOf.F n x.1) out
theorem ok (n : Nat) : (pfn n).Ok Go.Proofs.Tryz.prog 25 :=
  mkFn_ok (fn := Go.Proofs.Tryz.f25) (code := code) Go.Proofs.Tryz.func25 (by kernel_rfl) (by decide) (C := cfg) (Φ := pick (cal n)) (Λ := lam n) (into := into) hT (cal_ok n) (by kernel_rfl) rfl (by decide) rfl (fun _ => rfl) (loops n)
    (fun x r h => by
      have e := F_eq n x.1
      exact e.symm.trans h)
end spec_ColoursOf
end
/-! ### strconv.Itoa -/
section
namespace strItoa
def pfn (n : Nat) : PFn := itoaFn
theorem ok (n : Nat) : (pfn n).Ok Go.Proofs.Tryz.prog 64 := LayT.itoa
end strItoa
end
/-! ### strings.Join -/
section
namespace strJoin
def pfn (n : Nat) : PFn := joinFn
theorem ok (n : Nat) : (pfn n).Ok Go.Proofs.Tryz.prog 86 := LayT.join
end strJoin
end
/-! ### loop.example/g01158/impl.numbersText -/
section
namespace impl_numbersText
noncomputable def code : Code := (Go.Proofs.Tryz.f65.body).getD .skip
abbrev shp : Shape := [(0, .one (.row (.int .i64) false)), (1, .one (.str))]
abbrev outs : List KD := [.one (.str)]
abbrev R : Type := ByteArray
def out : R → denL outs := fun r => (r, ())
def into : denL outs → R := fun y => y.1
def cfg : Cfg := ⟨ty, 24, [], fun i => match Nat.beq i 0 with | true => .loop | false => .plain, fun _ => none⟩
def cal (n : Nat) : List (Nat × PFn) := [(64, strItoa.pfn n), (86, strJoin.pfn n)]
theorem cal_ok (n : Nat) : ∀ g, (pick (cal n) g).Ok Go.Proofs.Tryz.prog g := pick_ok (by
  intro p hp
  simp only [cal, List.mem_cons, List.not_mem_nil, or_false] at hp
  rcases hp with rfl | rfl
  · exact strItoa.ok n
  · exact strJoin.ok n)
def fin : St → Option R := finOf ty [.tmp 4] outs into
abbrev sin0 : Shape := [(1, .one (.str)), (5, .one (.row (.str) true)), (9, .one (.row (.int .i64) false)), (10, .one (.int .i64)), (11, .one (.int .i64))]
abbrev sout0 : Shape := [(1, .one (.str)), (5, .one (.row (.str) true))]
def lam (n : Nat) : Nat → (St → Option R) → St → Option R := fun i => match Nat.beq i 0 with | true => (fun K st => match absSt sin0 st with | some (x, _) => impl_numbersText.l0 n (fun y0 y1 => K (mkSt sout0 (y0, y1, ()))) n x.1 x.2.1 x.2.2.1 x.2.2.2.1 x.2.2.2.2.1 | none => none) | false => fun _ _ => none
noncomputable def lps : List (Nat × Code) := loopsOf cfg.blk code
noncomputable def b0 : Code := bodyOf lps 0
theorem l0_eq (n : Nat) (K : St → Option R) : ∀ (j : Nat) (x0 : ByteArray) (x1 : List (ByteArray)) (x2 : List (Int)) (x3 : Int) (x4 : Int), impl_numbersText.l0 n (fun y0 y1 => K (mkSt sout0 (y0, y1, ()))) j x0 x1 x2 x3 x4 = iter (roundK cfg (pick (cal n)) (lam n) fin 0 b0 sin0 sout0 K) j (mkSt sin0 (x0, x1, x2, x3, x4, ()))
  | 0, _, _, _, _, _ => rfl
  | j + 1, x0, x1, x2, x3, x4 => by
    have ih : impl_numbersText.l0 n (fun y0 y1 => K (mkSt sout0 (y0, y1, ()))) j = fun x0 x1 x2 x3 x4 => iter (roundK cfg (pick (cal n)) (lam n) fin 0 b0 sin0 sout0 K) j (mkSt sin0 (x0, x1, x2, x3, x4, ())) := funext fun x0 => funext fun x1 => funext fun x2 => funext fun x3 => funext fun x4 => l0_eq n K j x0 x1 x2 x3 x4
    rw [impl_numbersText.l0, ih]
    show _ = roundK cfg (pick (cal n)) (lam n) fin 0 b0 sin0 sout0 K (iter (roundK cfg (pick (cal n)) (lam n) fin 0 b0 sin0 sout0 K) j) (mkSt sin0 (x0, x1, x2, x3, x4, ()))
    kernel_rfl
theorem loops (n : Nat) : LoopsOk cfg (pick (cal n)) (lam n) fin (loopsOf cfg.blk code) := by
  have h : loopsOf cfg.blk code = [(0, b0)] := by kernel_rfl
  rw [h]
  intro p hp K st r hr
  simp only [List.mem_cons, List.not_mem_nil, or_false] at hp
  rcases hp with rfl
  · have hr' : (match absSt sin0 st with | some (x, _) => impl_numbersText.l0 n (fun y0 y1 => K (mkSt sout0 (y0, y1, ()))) n x.1 x.2.1 x.2.2.1 x.2.2.2.1 x.2.2.2.2.1 | none => none) = some r := hr
    split at hr'
    · rename_i x es hx
      rw [l0_eq] at hr'
      exact ⟨sin0, sout0, n, x, es, hx, hr'⟩
    · cases hr'
theorem F_eq (n : Nat) (x0 : List (Int)) (x1 : ByteArray) : impl_numbersText.F n x0 x1 = exK cfg (pick (cal n)) (lam n) fin code (fun _ _ => none) (mkSt shp (x0, x1, ())) fin := by
  kernel_rfl
def pfn (n : Nat) : PFn := mkFn shp outs (fun x => impl_numbersText.F n x.1 x.2.1) out
theorem ok (n : Nat) : (pfn n).Ok Go.Proofs.Tryz.prog 65 :=
  mkFn_ok (fn := Go.Proofs.Tryz.f65) (code := code) Go.Proofs.Tryz.func65 (by kernel_rfl) (by decide) (C := cfg) (Φ := pick (cal n)) (Λ := lam n) (into := into) hT (cal_ok n) (by kernel_rfl) rfl (by decide) rfl (fun _ => rfl) (loops n)
    (fun x r h => by
      have e := F_eq n x.1 x.2.1
      exact e.symm.trans h)
end impl_numbersText
end
/-! ### loop.example/g01158/impl.MazeText -/
section
namespace impl_MazeText
noncomputable def code : Code := (Go.Proofs.Tryz.f26.body).getD .skip
abbrev shp : Shape := [(0, .agg [.int .i64, .row (.t3) false, .row (.int .i64) false])]
abbrev outs : List KD := [.one (.str), .one (.bool)]
abbrev R : Type := ByteArray × Bool
def out : R → denL outs := fun r => (r.1, r.2, ())
def into : denL outs → R := fun y => (y.1, y.2.1)
def tysR : List (Nat × TI) := [(60, ⟨.arr 3 3, 3, [.int .i64 0, .int .i64 0, .int .i64 0], some (.t3), false, true⟩)] ++ tys
def tyR : Ty := tyOf tysR
theorem hTR : TyOk Go.Proofs.Tryz.prog tyR := tyOf_ok (by kernel_rfl)
def cfg : Cfg := ⟨tyR, 32, [], fun i => match Nat.beq i 0 with | true => .loop | false => .plain, fun _ => none⟩
def cal (n : Nat) : List (Nat × PFn) := [(18, impl_IsMaze.pfn n), (64, strItoa.pfn n), (65, impl_numbersText.pfn n)]
theorem cal_ok (n : Nat) : ∀ g, (pick (cal n) g).Ok Go.Proofs.Tryz.prog g := pick_ok (by
  intro p hp
  simp only [cal, List.mem_cons, List.not_mem_nil, or_false] at hp
  rcases hp with rfl | rfl | rfl
  · exact impl_IsMaze.ok n
  · exact strItoa.ok n
  · exact impl_numbersText.ok n)
def fin : St → Option R := finOf tyR [.tmp 2, .tmp 3] outs into
abbrev sin0 : Shape := [(4, .one (.str)), (19, .one (.row (.t3) false)), (20, .one (.int .i64)), (21, .one (.int .i64))]
abbrev sout0 : Shape := [(4, .one (.str))]
def lam (n : Nat) : Nat → (St → Option R) → St → Option R := fun i => match Nat.beq i 0 with | true => (fun K st => match absSt sin0 st with | some (x, _) => impl_MazeText.l0 n (fun y0 => K (mkSt sout0 (y0, ()))) n x.1 x.2.1 x.2.2.1 x.2.2.2.1 | none => none) | false => fun _ _ => none
noncomputable def lps : List (Nat × Code) := loopsOf cfg.blk code
noncomputable def b0 : Code := bodyOf lps 0
theorem l0_eq (n : Nat) (K : St → Option R) : ∀ (j : Nat) (x0 : ByteArray) (x1 : List (Int × Int × Int)) (x2 : Int) (x3 : Int), impl_MazeText.l0 n (fun y0 => K (mkSt sout0 (y0, ()))) j x0 x1 x2 x3 = iter (roundK cfg (pick (cal n)) (lam n) fin 0 b0 sin0 sout0 K) j (mkSt sin0 (x0, x1, x2, x3, ()))
  | 0, _, _, _, _ => rfl
  | j + 1, x0, x1, x2, x3 => by
    have ih : impl_MazeText.l0 n (fun y0 => K (mkSt sout0 (y0, ()))) j = fun x0 x1 x2 x3 => iter (roundK cfg (pick (cal n)) (lam n) fin 0 b0 sin0 sout0 K) j (mkSt sin0 (x0, x1, x2, x3, ())) := funext fun x0 => funext fun x1 => funext fun x2 => funext fun x3 => l0_eq n K j x0 x1 x2 x3
    rw [impl_MazeText.l0, ih]
    show _ = roundK cfg (pick (cal n)) (lam n) fin 0 b0 sin0 sout0 K (iter (roundK cfg (pick (cal n)) (lam n) fin 0 b0 sin0 sout0 K) j) (mkSt sin0 (x0, x1, x2, x3, ()))
    kernel_rfl
theorem loops (n : Nat) : LoopsOk cfg (pick (cal n)) (lam n) fin (loopsOf cfg.blk code) := by
  have h : loopsOf cfg.blk code = [(0, b0)] := by kernel_rfl
  rw [h]
  intro p hp K st r hr
  simp only [List.mem_cons, List.not_mem_nil, or_false] at hp
  rcases hp with rfl
  · have hr' : (match absSt sin0 st with | some (x, _) => impl_MazeText.l0 n (fun y0 => K (mkSt sout0 (y0, ()))) n x.1 x.2.1 x.2.2.1 x.2.2.2.1 | none => none) = some r := hr
    split at hr'
    · rename_i x es hx
      rw [l0_eq] at hr'
      exact ⟨sin0, sout0, n, x, es, hx, hr'⟩
    · cases hr'
theorem F_eq (n : Nat) (x0 : Int) (x1 : List (Int × Int × Int)) (x2 : List (Int)) : impl_MazeText.F n x0 x1 x2 = exK cfg (pick (cal n)) (lam n) fin code (fun _ _ => none) (mkSt shp ((x0, x1, x2, ()), ())) fin := by
  kernel_rfl
def pfn (n : Nat) : PFn := mkFn shp outs (fun x => impl_MazeText.F n x.1.1 x.1.2.1 x.1.2.2.1) out
theorem ok (n : Nat) : (pfn n).Ok Go.Proofs.Tryz.prog 26 :=
  mkFn_ok (fn := Go.Proofs.Tryz.f26) (code := code) Go.Proofs.Tryz.func26 (by kernel_rfl) (by decide) (C := cfg) (Φ := pick (cal n)) (Λ := lam n) (into := into) hTR (cal_ok n) (by kernel_rfl) rfl (by decide) rfl (fun _ => rfl) (loops n)
    (fun x r h => by
      have e := F_eq n x.1.1 x.1.2.1 x.1.2.2.1
      exact e.symm.trans h)
end impl_MazeText
end
/-! ### loop.example/g01158/spec.l1Num -/
section
namespace spec_l1Num
noncomputable def code : Code := (Go.Proofs.Tryz.f87.body).getD .skip
abbrev shp : Shape := [(0, .one (.int .i64))]
abbrev outs : List KD := [.one (.str)]
abbrev R : Type := ByteArray
def out : R → denL outs := fun r => (r, ())
def into : denL outs → R := fun y => y.1
def cfg : Cfg := ⟨ty, 25, [], fun _ => .plain, fun _ => none⟩
def pfn (n : Nat) : PFn := mkFn shp outs (fun x => spec_l1Num.F n x.1) out
def cal (n : Nat) : List (Nat × PFn) := [(87, spec_l1Num.pfn n)]
theorem cal_ok (n : Nat) (ih : (spec_l1Num.pfn n).Ok Go.Proofs.Tryz.prog 87) : ∀ g, (pick (cal n) g).Ok Go.Proofs.Tryz.prog g := pick_ok (by
  intro p hp
  simp only [cal, List.mem_cons, List.not_mem_nil, or_false] at hp
  rcases hp with rfl
  · exact ih)
def fin : St → Option R := finOf ty [.tmp 2] outs into
def lam (n : Nat) : Nat → (St → Option R) → St → Option R := fun _ => fun _ _ => none
theorem loops (n : Nat) : LoopsOk cfg (pick (cal n)) (lam n) fin (loopsOf cfg.blk code) := by
  have h : loopsOf cfg.blk code = [] := by kernel_rfl
  rw [h]
  intro p hp
  cases hp
theorem F_eq (n : Nat) (x0 : Int) : spec_l1Num.F (n + 1) x0 = exK cfg (pick (cal n)) (lam n) fin code (fun _ _ => none) (mkSt shp (x0, ())) fin := by
  kernel_rfl
theorem ok : ∀ (n : Nat), (pfn n).Ok Go.Proofs.Tryz.prog 87
  | 0 => mkFn_none fun _ => rfl
  | n + 1 =>
  mkFn_ok (fn := Go.Proofs.Tryz.f87) (code := code) Go.Proofs.Tryz.func87 (by kernel_rfl) (by decide) (C := cfg) (Φ := pick (cal n)) (Λ := lam n) (into := into) hT (cal_ok n (ok n)) (by kernel_rfl) rfl (by decide) rfl (fun _ => rfl) (loops n)
    (fun x r h => by
      have e := F_eq n x.1
      exact e.symm.trans h)
end spec_l1Num
end
/-! ### loop.example/g01158/spec.l2Text -/
section
namespace spec_l2Text
noncomputable def code : Code := (Go.Proofs.Tryz.f66.body).getD .skip
abbrev shp : Shape := [(0, .agg [.int .i64, .row (.t3) false, .row (.int .i64) false])]
abbrev outs : List KD := [.one (.str)]
abbrev R : Type := ByteArray
def out : R → denL outs := fun r => (r, ())
def into : denL outs → R := fun y => y.1
def cfg : Cfg := ⟨ty, 58, [], fun i => match Nat.beq i 0 with | true => .loop | false => match Nat.beq i 2 with | true => .loop | false => .plain, fun _ => none⟩
def cal (n : Nat) : List (Nat × PFn) := [(87, spec_l1Num.pfn n)]
theorem cal_ok (n : Nat) : ∀ g, (pick (cal n) g).Ok Go.Proofs.Tryz.prog g := pick_ok (by
  intro p hp
  simp only [cal, List.mem_cons, List.not_mem_nil, or_false] at hp
  rcases hp with rfl
  · exact spec_l1Num.ok n)
def fin : St → Option R := finOf ty [.tmp 2] outs into
abbrev sin0 : Shape := [(1, .box true [.int .i64, .row (.t3) false, .row (.int .i64) false]), (3, .one (.str)), (4, .one (.int .i64))]
abbrev sout0 : Shape := [(1, .box true [.int .i64, .row (.t3) false, .row (.int .i64) false]), (3, .one (.str))]
abbrev sin2 : Shape := [(1, .box true [.int .i64, .row (.t3) false, .row (.int .i64) false]), (3, .one (.str)), (5, .one (.int .i64))]
abbrev sout2 : Shape := [(3, .one (.str))]
def lam (n : Nat) : Nat → (St → Option R) → St → Option R := fun i => match Nat.beq i 0 with | true => (fun K st => match absSt sin0 st with | some (x, _) => spec_l2Text.l0 n (fun y0 y1 y2 y3 => K (mkSt sout0 ((y0, y1, y2, ()), y3, ()))) n x.1.1 x.1.2.1 x.1.2.2.1 x.2.1 x.2.2.1 | none => none) | false => match Nat.beq i 2 with | true => (fun K st => match absSt sin2 st with | some (x, _) => spec_l2Text.l2 n (fun y0 => K (mkSt sout2 (y0, ()))) n x.1.1 x.1.2.1 x.1.2.2.1 x.2.1 x.2.2.1 | none => none) | false => fun _ _ => none
noncomputable def lps : List (Nat × Code) := loopsOf cfg.blk code
noncomputable def b0 : Code := bodyOf lps 0
theorem l0_eq (n : Nat) (K : St → Option R) : ∀ (j : Nat) (x0 : Int) (x1 : List (Int × Int × Int)) (x2 : List (Int)) (x3 : ByteArray) (x4 : Int), spec_l2Text.l0 n (fun y0 y1 y2 y3 => K (mkSt sout0 ((y0, y1, y2, ()), y3, ()))) j x0 x1 x2 x3 x4 = iter (roundK cfg (pick (cal n)) (lam n) fin 0 b0 sin0 sout0 K) j (mkSt sin0 ((x0, x1, x2, ()), x3, x4, ()))
  | 0, _, _, _, _, _ => rfl
  | j + 1, x0, x1, x2, x3, x4 => by
    have ih : spec_l2Text.l0 n (fun y0 y1 y2 y3 => K (mkSt sout0 ((y0, y1, y2, ()), y3, ()))) j = fun x0 x1 x2 x3 x4 => iter (roundK cfg (pick (cal n)) (lam n) fin 0 b0 sin0 sout0 K) j (mkSt sin0 ((x0, x1, x2, ()), x3, x4, ())) := funext fun x0 => funext fun x1 => funext fun x2 => funext fun x3 => funext fun x4 => l0_eq n K j x0 x1 x2 x3 x4
    rw [spec_l2Text.l0, ih]
    show _ = roundK cfg (pick (cal n)) (lam n) fin 0 b0 sin0 sout0 K (iter (roundK cfg (pick (cal n)) (lam n) fin 0 b0 sin0 sout0 K) j) (mkSt sin0 ((x0, x1, x2, ()), x3, x4, ()))
    kernel_rfl
noncomputable def b2 : Code := bodyOf lps 2
theorem l2_eq (n : Nat) (K : St → Option R) : ∀ (j : Nat) (x0 : Int) (x1 : List (Int × Int × Int)) (x2 : List (Int)) (x3 : ByteArray) (x4 : Int), spec_l2Text.l2 n (fun y0 => K (mkSt sout2 (y0, ()))) j x0 x1 x2 x3 x4 = iter (roundK cfg (pick (cal n)) (lam n) fin 2 b2 sin2 sout2 K) j (mkSt sin2 ((x0, x1, x2, ()), x3, x4, ()))
  | 0, _, _, _, _, _ => rfl
  | j + 1, x0, x1, x2, x3, x4 => by
    have ih : spec_l2Text.l2 n (fun y0 => K (mkSt sout2 (y0, ()))) j = fun x0 x1 x2 x3 x4 => iter (roundK cfg (pick (cal n)) (lam n) fin 2 b2 sin2 sout2 K) j (mkSt sin2 ((x0, x1, x2, ()), x3, x4, ())) := funext fun x0 => funext fun x1 => funext fun x2 => funext fun x3 => funext fun x4 => l2_eq n K j x0 x1 x2 x3 x4
    rw [spec_l2Text.l2, ih]
    show _ = roundK cfg (pick (cal n)) (lam n) fin 2 b2 sin2 sout2 K (iter (roundK cfg (pick (cal n)) (lam n) fin 2 b2 sin2 sout2 K) j) (mkSt sin2 ((x0, x1, x2, ()), x3, x4, ()))
    kernel_rfl
theorem loops (n : Nat) : LoopsOk cfg (pick (cal n)) (lam n) fin (loopsOf cfg.blk code) := by
  have h : loopsOf cfg.blk code = [(0, b0), (2, b2)] := by kernel_rfl
  rw [h]
  intro p hp K st r hr
  simp only [List.mem_cons, List.not_mem_nil, or_false] at hp
  rcases hp with rfl | rfl
  · have hr' : (match absSt sin0 st with | some (x, _) => spec_l2Text.l0 n (fun y0 y1 y2 y3 => K (mkSt sout0 ((y0, y1, y2, ()), y3, ()))) n x.1.1 x.1.2.1 x.1.2.2.1 x.2.1 x.2.2.1 | none => none) = some r := hr
    split at hr'
    · rename_i x es hx
      rw [l0_eq] at hr'
      exact ⟨sin0, sout0, n, x, es, hx, hr'⟩
    · cases hr'
  · have hr' : (match absSt sin2 st with | some (x, _) => spec_l2Text.l2 n (fun y0 => K (mkSt sout2 (y0, ()))) n x.1.1 x.1.2.1 x.1.2.2.1 x.2.1 x.2.2.1 | none => none) = some r := hr
    split at hr'
    · rename_i x es hx
      rw [l2_eq] at hr'
      exact ⟨sin2, sout2, n, x, es, hx, hr'⟩
    · cases hr'
theorem F_eq (n : Nat) (x0 : Int) (x1 : List (Int × Int × Int)) (x2 : List (Int)) : spec_l2Text.F n x0 x1 x2 = exK cfg (pick (cal n)) (lam n) fin code (fun _ _ => none) (mkSt shp ((x0, x1, x2, ()), ())) fin := by
  kernel_rfl
def pfn (n : Nat) : PFn := mkFn shp outs (fun x => spec_l2Text.F n x.1.1 x.1.2.1 x.1.2.2.1) out
theorem ok (n : Nat) : (pfn n).Ok Go.Proofs.Tryz.prog 66 :=
  mkFn_ok (fn := Go.Proofs.Tryz.f66) (code := code) Go.Proofs.Tryz.func66 (by kernel_rfl) (by decide) (C := cfg) (Φ := pick (cal n)) (Λ := lam n) (into := into) hT (cal_ok n) (by kernel_rfl) rfl (by decide) rfl (fun _ => rfl) (loops n)
    (fun x r h => by
      have e := F_eq n x.1.1 x.1.2.1 x.1.2.2.1
      exact e.symm.trans h)
end spec_l2Text
end
/-! ### loop.example/g01158/spec.MazeText -/
section
namespace spec_MazeText
noncomputable def code : Code := (Go.Proofs.Tryz.f27.body).getD .skip
abbrev shp : Shape := [(0, .agg [.int .i64, .row (.t3) false, .row (.int .i64) false])]
abbrev outs : List KD := [.one (.str), .one (.bool)]
abbrev R : Type := ByteArray × Bool
def out : R → denL outs := fun r => (r.1, r.2, ())
def into : denL outs → R := fun y => (y.1, y.2.1)
def cfg : Cfg := ⟨ty, 9, [], fun _ => .plain, fun _ => none⟩
def cal (n : Nat) : List (Nat × PFn) := [(35, spec_l2Maze.pfn n), (66, spec_l2Text.pfn n)]
theorem cal_ok (n : Nat) : ∀ g, (pick (cal n) g).Ok Go.Proofs.Tryz.prog g := pick_ok (by
  intro p hp
  simp only [cal, List.mem_cons, List.not_mem_nil, or_false] at hp
  rcases hp with rfl | rfl
  · exact spec_l2Maze.ok n
  · exact spec_l2Text.ok n)
def fin : St → Option R := finOf ty [.tmp 2, .tmp 3] outs into
def lam (n : Nat) : Nat → (St → Option R) → St → Option R := fun _ => fun _ _ => none
theorem loops (n : Nat) : LoopsOk cfg (pick (cal n)) (lam n) fin (loopsOf cfg.blk code) := by
  have h : loopsOf cfg.blk code = [] := by kernel_rfl
  rw [h]
  intro p hp
  cases hp
theorem F_eq (n : Nat) (x0 : Int) (x1 : List (Int × Int × Int)) (x2 : List (Int)) : spec_MazeText.F n x0 x1 x2 = exK cfg (pick (cal n)) (lam n) fin code (fun _ _ => none) (mkSt shp ((x0, x1, x2, ()), ())) fin := by
  kernel_rfl
def pfn (n : Nat) : PFn := mkFn shp outs (fun x => spec_MazeText.F n x.1.1 x.1.2.1 x.1.2.2.1) out
theorem ok (n : Nat) : (pfn n).Ok Go.Proofs.Tryz.prog 27 :=
  mkFn_ok (fn := Go.Proofs.Tryz.f27) (code := code) Go.Proofs.Tryz.func27 (by kernel_rfl) (by decide) (C := cfg) (Φ := pick (cal n)) (Λ := lam n) (into := into) hT (cal_ok n) (by kernel_rfl) rfl (by decide) rfl (fun _ => rfl) (loops n)
    (fun x r h => by
      have e := F_eq n x.1.1 x.1.2.1 x.1.2.2.1
      exact e.symm.trans h)
end spec_MazeText
end
/-! ### strings.Split -/
section
namespace strSplit
def pfn (n : Nat) : PFn := splitFn
theorem ok (n : Nat) : (pfn n).Ok Go.Proofs.Tryz.prog 67 := LayT.split
end strSplit
end
/-! ### loop.example/g01158/impl.ParseInt -/
section
namespace strParse
def pfn (n : Nat) : PFn := parseFn
theorem ok (n : Nat) : (pfn n).Ok Go.Proofs.Tryz.prog 68 := LayT.parse
end strParse
end
/-! ### loop.example/g01158/impl.numbers -/
section
namespace impl_numbers
noncomputable def code : Code := (Go.Proofs.Tryz.f69.body).getD .skip
abbrev shp : Shape := [(0, .one (.str)), (1, .one (.str))]
abbrev outs : List KD := [.one (.row (.int .i64) true), .one (.bool)]
abbrev R : Type := (List (Int)) × Bool
def out : R → denL outs := fun r => (r.1, r.2, ())
def into : denL outs → R := fun y => (y.1, y.2.1)
def cfg : Cfg := ⟨ty, 33, [], fun i => match Nat.beq i 0 with | true => .loop | false => .plain, fun _ => none⟩
def cal (n : Nat) : List (Nat × PFn) := [(67, strSplit.pfn n), (68, strParse.pfn n)]
theorem cal_ok (n : Nat) : ∀ g, (pick (cal n) g).Ok Go.Proofs.Tryz.prog g := pick_ok (by
  intro p hp
  simp only [cal, List.mem_cons, List.not_mem_nil, or_false] at hp
  rcases hp with rfl | rfl
  · exact strSplit.ok n
  · exact strParse.ok n)
def fin : St → Option R := finOf ty [.tmp 4, .tmp 5] outs into
abbrev sin0 : Shape := [(6, .one (.row (.int .i64) true)), (14, .one (.row (.str) true)), (15, .one (.int .i64)), (16, .one (.int .i64))]
abbrev sout0 : Shape := [(6, .one (.row (.int .i64) true))]
def lam (n : Nat) : Nat → (St → Option R) → St → Option R := fun i => match Nat.beq i 0 with | true => (fun K st => match absSt sin0 st with | some (x, _) => impl_numbers.l0 n (fun y0 => K (mkSt sout0 (y0, ()))) n x.1 x.2.1 x.2.2.1 x.2.2.2.1 | none => none) | false => fun _ _ => none
noncomputable def lps : List (Nat × Code) := loopsOf cfg.blk code
noncomputable def b0 : Code := bodyOf lps 0
theorem l0_eq (n : Nat) (K : St → Option R) : ∀ (j : Nat) (x0 : List (Int)) (x1 : List (ByteArray)) (x2 : Int) (x3 : Int), impl_numbers.l0 n (fun y0 => K (mkSt sout0 (y0, ()))) j x0 x1 x2 x3 = iter (roundK cfg (pick (cal n)) (lam n) fin 0 b0 sin0 sout0 K) j (mkSt sin0 (x0, x1, x2, x3, ()))
  | 0, _, _, _, _ => rfl
  | j + 1, x0, x1, x2, x3 => by
    have ih : impl_numbers.l0 n (fun y0 => K (mkSt sout0 (y0, ()))) j = fun x0 x1 x2 x3 => iter (roundK cfg (pick (cal n)) (lam n) fin 0 b0 sin0 sout0 K) j (mkSt sin0 (x0, x1, x2, x3, ())) := funext fun x0 => funext fun x1 => funext fun x2 => funext fun x3 => l0_eq n K j x0 x1 x2 x3
    rw [impl_numbers.l0, ih]
    show _ = roundK cfg (pick (cal n)) (lam n) fin 0 b0 sin0 sout0 K (iter (roundK cfg (pick (cal n)) (lam n) fin 0 b0 sin0 sout0 K) j) (mkSt sin0 (x0, x1, x2, x3, ()))
    kernel_rfl
theorem loops (n : Nat) : LoopsOk cfg (pick (cal n)) (lam n) fin (loopsOf cfg.blk code) := by
  have h : loopsOf cfg.blk code = [(0, b0)] := by kernel_rfl
  rw [h]
  intro p hp K st r hr
  simp only [List.mem_cons, List.not_mem_nil, or_false] at hp
  rcases hp with rfl
  · have hr' : (match absSt sin0 st with | some (x, _) => impl_numbers.l0 n (fun y0 => K (mkSt sout0 (y0, ()))) n x.1 x.2.1 x.2.2.1 x.2.2.2.1 | none => none) = some r := hr
    split at hr'
    · rename_i x es hx
      rw [l0_eq] at hr'
      exact ⟨sin0, sout0, n, x, es, hx, hr'⟩
    · cases hr'
theorem F_eq (n : Nat) (x0 : ByteArray) (x1 : ByteArray) : impl_numbers.F n x0 x1 = exK cfg (pick (cal n)) (lam n) fin code (fun _ _ => none) (mkSt shp (x0, x1, ())) fin := by
  kernel_rfl
def pfn (n : Nat) : PFn := mkFn shp outs (fun x => impl_numbers.F n x.1 x.2.1) out
theorem ok (n : Nat) : (pfn n).Ok Go.Proofs.Tryz.prog 69 :=
  mkFn_ok (fn := Go.Proofs.Tryz.f69) (code := code) Go.Proofs.Tryz.func69 (by kernel_rfl) (by decide) (C := cfg) (Φ := pick (cal n)) (Λ := lam n) (into := into) hT (cal_ok n) (by kernel_rfl) rfl (by decide) rfl (fun _ => rfl) (loops n)
    (fun x r h => by
      have e := F_eq n x.1 x.2.1
      exact e.symm.trans h)
end impl_numbers
end
/-! ### loop.example/g01158/impl.ParseMaze -/
section
namespace impl_ParseMaze
noncomputable def code : Code := (Go.Proofs.Tryz.f28.body).getD .skip
abbrev shp : Shape := [(0, .one (.str))]
abbrev outs : List KD := [.agg [.int .i64, .row (.t3) true, .row (.int .i64) true], .one (.bool)]
abbrev R : Type := Int × (List (Int × Int × Int)) × (List (Int)) × Bool
def out : R → denL outs := fun r => ((r.1, r.2.1, r.2.2.1, ()), r.2.2.2, ())
def into : denL outs → R := fun y => (y.1.1, y.1.2.1, y.1.2.2.1, y.2.1)
def cfg : Cfg := ⟨ty, 84, [], fun i => match Nat.beq i 0 with | true => .loop | false => .plain, fun i => match Nat.beq i 4 with | true => some [(2, .box true [.int .i64, .row (.t3) true, .row (.int .i64) true]), (4, .one (.row (.str) true))] | false => none⟩
def cal (n : Nat) : List (Nat × PFn) := [(18, impl_IsMaze.pfn n), (67, strSplit.pfn n), (68, strParse.pfn n), (69, impl_numbers.pfn n)]
theorem cal_ok (n : Nat) : ∀ g, (pick (cal n) g).Ok Go.Proofs.Tryz.prog g := pick_ok (by
  intro p hp
  simp only [cal, List.mem_cons, List.not_mem_nil, or_false] at hp
  rcases hp with rfl | rfl | rfl | rfl
  · exact impl_IsMaze.ok n
  · exact strSplit.ok n
  · exact strParse.ok n
  · exact impl_numbers.ok n)
def fin : St → Option R := finOf ty [.cell 2 27, .tmp 3] outs into
abbrev sin0 : Shape := [(2, .box true [.int .i64, .row (.t3) true, .row (.int .i64) true]), (6, .one (.bool)), (8, .one (.bool)), (9, .box true [.int .i64, .row (.t3) true, .row (.int .i64) true]), (43, .one (.row (.str) true)), (44, .one (.int .i64)), (45, .one (.int .i64))]
abbrev sout0 : Shape := [(2, .box true [.int .i64, .row (.t3) true, .row (.int .i64) true]), (6, .one (.bool)), (8, .one (.bool)), (9, .box true [.int .i64, .row (.t3) true, .row (.int .i64) true])]
def lam (n : Nat) : Nat → (St → Option R) → St → Option R := fun i => match Nat.beq i 0 with | true => (fun K st => match absSt sin0 st with | some (x, _) => impl_ParseMaze.l0 n (fun y0 y1 y2 y3 y4 y5 y6 y7 => K (mkSt sout0 ((y0, y1, y2, ()), y3, y4, (y5, y6, y7, ()), ()))) n x.1.1 x.1.2.1 x.1.2.2.1 x.2.1 x.2.2.1 x.2.2.2.1.1 x.2.2.2.1.2.1 x.2.2.2.1.2.2.1 x.2.2.2.2.1 x.2.2.2.2.2.1 x.2.2.2.2.2.2.1 | none => none) | false => fun _ _ => none
noncomputable def lps : List (Nat × Code) := loopsOf cfg.blk code
noncomputable def b0 : Code := bodyOf lps 0
theorem l0_eq (n : Nat) (K : St → Option R) : ∀ (j : Nat) (x0 : Int) (x1 : List (Int × Int × Int)) (x2 : List (Int)) (x3 : Bool) (x4 : Bool) (x5 : Int) (x6 : List (Int × Int × Int)) (x7 : List (Int)) (x8 : List (ByteArray)) (x9 : Int) (x10 : Int), impl_ParseMaze.l0 n (fun y0 y1 y2 y3 y4 y5 y6 y7 => K (mkSt sout0 ((y0, y1, y2, ()), y3, y4, (y5, y6, y7, ()), ()))) j x0 x1 x2 x3 x4 x5 x6 x7 x8 x9 x10 = iter (roundK cfg (pick (cal n)) (lam n) fin 0 b0 sin0 sout0 K) j (mkSt sin0 ((x0, x1, x2, ()), x3, x4, (x5, x6, x7, ()), x8, x9, x10, ()))
  | 0, _, _, _, _, _, _, _, _, _, _, _ => rfl
  | j + 1, x0, x1, x2, x3, x4, x5, x6, x7, x8, x9, x10 => by
    have ih : impl_ParseMaze.l0 n (fun y0 y1 y2 y3 y4 y5 y6 y7 => K (mkSt sout0 ((y0, y1, y2, ()), y3, y4, (y5, y6, y7, ()), ()))) j = fun x0 x1 x2 x3 x4 x5 x6 x7 x8 x9 x10 => iter (roundK cfg (pick (cal n)) (lam n) fin 0 b0 sin0 sout0 K) j (mkSt sin0 ((x0, x1, x2, ()), x3, x4, (x5, x6, x7, ()), x8, x9, x10, ())) := funext fun x0 => funext fun x1 => funext fun x2 => funext fun x3 => funext fun x4 => funext fun x5 => funext fun x6 => funext fun x7 => funext fun x8 => funext fun x9 => funext fun x10 => l0_eq n K j x0 x1 x2 x3 x4 x5 x6 x7 x8 x9 x10
    rw [impl_ParseMaze.l0, ih]
    show _ = roundK cfg (pick (cal n)) (lam n) fin 0 b0 sin0 sout0 K (iter (roundK cfg (pick (cal n)) (lam n) fin 0 b0 sin0 sout0 K) j) (mkSt sin0 ((x0, x1, x2, ()), x3, x4, (x5, x6, x7, ()), x8, x9, x10, ()))
    kernel_rfl
theorem loops (n : Nat) : LoopsOk cfg (pick (cal n)) (lam n) fin (loopsOf cfg.blk code) := by
  have h : loopsOf cfg.blk code = [(0, b0)] := by kernel_rfl
  rw [h]
  intro p hp K st r hr
  simp only [List.mem_cons, List.not_mem_nil, or_false] at hp
  rcases hp with rfl
  · have hr' : (match absSt sin0 st with | some (x, _) => impl_ParseMaze.l0 n (fun y0 y1 y2 y3 y4 y5 y6 y7 => K (mkSt sout0 ((y0, y1, y2, ()), y3, y4, (y5, y6, y7, ()), ()))) n x.1.1 x.1.2.1 x.1.2.2.1 x.2.1 x.2.2.1 x.2.2.2.1.1 x.2.2.2.1.2.1 x.2.2.2.1.2.2.1 x.2.2.2.2.1 x.2.2.2.2.2.1 x.2.2.2.2.2.2.1 | none => none) = some r := hr
    split at hr'
    · rename_i x es hx
      rw [l0_eq] at hr'
      exact ⟨sin0, sout0, n, x, es, hx, hr'⟩
    · cases hr'
theorem F_eq (n : Nat) (x0 : ByteArray) : impl_ParseMaze.F n x0 = exK cfg (pick (cal n)) (lam n) fin code (fun _ _ => none) (mkSt shp (x0, ())) fin := by
  kernel_rfl
def pfn (n : Nat) : PFn := mkFn shp outs (fun x => impl_ParseMaze.F n x.1) out
theorem ok (n : Nat) : (pfn n).Ok Go.Proofs.Tryz.prog 28 :=
  mkFn_ok (fn := Go.Proofs.Tryz.f28) (code := code) Go.Proofs.Tryz.func28 (by kernel_rfl) (by decide) (C := cfg) (Φ := pick (cal n)) (Λ := lam n) (into := into) hT (cal_ok n) (by kernel_rfl) rfl (by decide) rfl (fun _ => rfl) (loops n)
    (fun x r h => by
      have e := F_eq n x.1
      exact e.symm.trans h)
end impl_ParseMaze
end
/-! ### loop.example/g01158/laws.rMaze -/
section
namespace laws_rMaze
noncomputable def code : Code := (Go.Proofs.Tryz.f29.body).getD .skip
abbrev shp : Shape := [(0, .agg [.int .i64, .row (.t3) false, .row (.int .i64) false]), (1, .agg [.int .i64, .row (.t3) false, .row (.int .i64) false])]
abbrev outs : List KD := [.one (.bool)]
abbrev R : Type := Bool
def out : R → denL outs := fun r => (r, ())
def into : denL outs → R := fun y => y.1
def cfg : Cfg := ⟨ty, 46, [], fun i => match Nat.beq i 0 with | true => .loop | false => .plain, fun _ => none⟩
def cal (n : Nat) : List (Nat × PFn) := [(10, laws_rInts.pfn n)]
theorem cal_ok (n : Nat) : ∀ g, (pick (cal n) g).Ok Go.Proofs.Tryz.prog g := pick_ok (by
  intro p hp
  simp only [cal, List.mem_cons, List.not_mem_nil, or_false] at hp
  rcases hp with rfl
  · exact laws_rInts.ok n)
def fin : St → Option R := finOf ty [.tmp 4] outs into
abbrev sin0 : Shape := [(2, .box true [.int .i64, .row (.t3) false, .row (.int .i64) false]), (3, .box true [.int .i64, .row (.t3) false, .row (.int .i64) false]), (5, .one (.int .i64))]
abbrev sout0 : Shape := []
def lam (n : Nat) : Nat → (St → Option R) → St → Option R := fun i => match Nat.beq i 0 with | true => (fun K st => match absSt sin0 st with | some (x, _) => laws_rMaze.l0 n (fun _ => K (mkSt sout0 ())) n x.1.1 x.1.2.1 x.1.2.2.1 x.2.1.1 x.2.1.2.1 x.2.1.2.2.1 x.2.2.1 | none => none) | false => fun _ _ => none
noncomputable def lps : List (Nat × Code) := loopsOf cfg.blk code
noncomputable def b0 : Code := bodyOf lps 0
theorem l0_eq (n : Nat) (K : St → Option R) : ∀ (j : Nat) (x0 : Int) (x1 : List (Int × Int × Int)) (x2 : List (Int)) (x3 : Int) (x4 : List (Int × Int × Int)) (x5 : List (Int)) (x6 : Int), laws_rMaze.l0 n (fun _ => K (mkSt sout0 ())) j x0 x1 x2 x3 x4 x5 x6 = iter (roundK cfg (pick (cal n)) (lam n) fin 0 b0 sin0 sout0 K) j (mkSt sin0 ((x0, x1, x2, ()), (x3, x4, x5, ()), x6, ()))
  | 0, _, _, _, _, _, _, _ => rfl
  | j + 1, x0, x1, x2, x3, x4, x5, x6 => by
    have ih : laws_rMaze.l0 n (fun _ => K (mkSt sout0 ())) j = fun x0 x1 x2 x3 x4 x5 x6 => iter (roundK cfg (pick (cal n)) (lam n) fin 0 b0 sin0 sout0 K) j (mkSt sin0 ((x0, x1, x2, ()), (x3, x4, x5, ()), x6, ())) := funext fun x0 => funext fun x1 => funext fun x2 => funext fun x3 => funext fun x4 => funext fun x5 => funext fun x6 => l0_eq n K j x0 x1 x2 x3 x4 x5 x6
    rw [laws_rMaze.l0, ih]
    show _ = roundK cfg (pick (cal n)) (lam n) fin 0 b0 sin0 sout0 K (iter (roundK cfg (pick (cal n)) (lam n) fin 0 b0 sin0 sout0 K) j) (mkSt sin0 ((x0, x1, x2, ()), (x3, x4, x5, ()), x6, ()))
    kernel_rfl
theorem loops (n : Nat) : LoopsOk cfg (pick (cal n)) (lam n) fin (loopsOf cfg.blk code) := by
  have h : loopsOf cfg.blk code = [(0, b0)] := by kernel_rfl
  rw [h]
  intro p hp K st r hr
  simp only [List.mem_cons, List.not_mem_nil, or_false] at hp
  rcases hp with rfl
  · have hr' : (match absSt sin0 st with | some (x, _) => laws_rMaze.l0 n (fun _ => K (mkSt sout0 ())) n x.1.1 x.1.2.1 x.1.2.2.1 x.2.1.1 x.2.1.2.1 x.2.1.2.2.1 x.2.2.1 | none => none) = some r := hr
    split at hr'
    · rename_i x es hx
      rw [l0_eq] at hr'
      exact ⟨sin0, sout0, n, x, es, hx, hr'⟩
    · cases hr'
theorem F_eq (n : Nat) (x0 : Int) (x1 : List (Int × Int × Int)) (x2 : List (Int)) (x3 : Int) (x4 : List (Int × Int × Int)) (x5 : List (Int)) : laws_rMaze.F n x0 x1 x2 x3 x4 x5 = exK cfg (pick (cal n)) (lam n) fin code (fun _ _ => none) (mkSt shp ((x0, x1, x2, ()), (x3, x4, x5, ()), ())) fin := by
  kernel_rfl
def pfn (n : Nat) : PFn := mkFn shp outs (fun x => laws_rMaze.F n x.1.1 x.1.2.1 x.1.2.2.1 x.2.1.1 x.2.1.2.1 x.2.1.2.2.1) out
theorem ok (n : Nat) : (pfn n).Ok Go.Proofs.Tryz.prog 29 :=
  mkFn_ok (fn := Go.Proofs.Tryz.f29) (code := code) Go.Proofs.Tryz.func29 (by kernel_rfl) (by decide) (C := cfg) (Φ := pick (cal n)) (Λ := lam n) (into := into) hT (cal_ok n) (by kernel_rfl) rfl (by decide) rfl (fun _ => rfl) (loops n)
    (fun x r h => by
      have e := F_eq n x.1.1 x.1.2.1 x.1.2.2.1 x.2.1.1 x.2.1.2.1 x.2.1.2.2.1
      exact e.symm.trans h)
end laws_rMaze
end
/-! ### (*loop.example/g01158/spec.l1Cur).spoilt -/
section
namespace spec_l1Cur_spoilt
noncomputable def code : Code := (Go.Proofs.Tryz.f70.body).getD .skip
abbrev shp : Shape := [(0, .box true [.row (.int .u8) false, .int .i64, .int .u64]), (1, .one (.str)), (2, .one (.str))]
abbrev outs : List KD := [.one (.str)]
abbrev R : Type := (List (Int)) × Int × Int × ByteArray
abbrev bs : List BK := [.row (.int .u8) false, .int .i64, .int .u64]
abbrev rshp : Shape := [(1, .one (.str)), (2, .one (.str))]
def out : R → denB bs × denL outs := fun r => ((r.1, r.2.1, r.2.2.1, ()), (r.2.2.2, ()))
def into : denB bs → denL outs → R := fun z y => (z.1, z.2.1, z.2.2.1, y.1)
def cfg : Cfg := ⟨ty, 57, [0], fun _ => .plain, fun _ => none⟩
def cal (n : Nat) : List (Nat × PFn) := [(37, spec_l1Cur_pick.pfn n)]
theorem cal_ok (n : Nat) : ∀ g, (pick (cal n) g).Ok Go.Proofs.Tryz.prog g := pick_ok (by
  intro p hp
  simp only [cal, List.mem_cons, List.not_mem_nil, or_false] at hp
  rcases hp with rfl
  · exact spec_l1Cur_pick.ok n)
def fin : St → Option R := finBox ty [.tmp 6] bs outs into
def lam (n : Nat) : Nat → (St → Option R) → St → Option R := fun _ => fun _ _ => none
theorem loops (n : Nat) : LoopsOk cfg (pick (cal n)) (lam n) fin (loopsOf cfg.blk code) := by
  have h : loopsOf cfg.blk code = [] := by kernel_rfl
  rw [h]
  intro p hp
  cases hp
theorem F_eq (n : Nat) (x0 : List (Int)) (x1 : Int) (x2 : Int) (x3 : ByteArray) (x4 : ByteArray) : spec_l1Cur_spoilt.F n x0 x1 x2 x3 x4 = exK cfg (pick (cal n)) (lam n) fin code (fun _ _ => none) (mkSt shp ((x0, x1, x2, ()), x3, x4, ())) fin := by
  kernel_rfl
def pfn (n : Nat) : PFn := mkBox bs rshp.ks outs (fun x xs => spec_l1Cur_spoilt.F n x.1 x.2.1 x.2.2.1 xs.1 xs.2.1) out
theorem ok (n : Nat) : (pfn n).Ok Go.Proofs.Tryz.prog 70 :=
  mkBox_ok (rshp := rshp) (fn := Go.Proofs.Tryz.f70) (code := code) Go.Proofs.Tryz.func70 (by kernel_rfl) (by decide) (C := cfg) (Φ := pick (cal n)) (Λ := lam n) (into := into) hT (cal_ok n) (by kernel_rfl) rfl (by decide) rfl rfl rfl (by decide) (fun _ _ => rfl) (loops n)
    (fun x xs r h => by
      have e := F_eq n x.1 x.2.1 x.2.2.1 xs.1 xs.2.1
      exact e.symm.trans h)
end spec_l1Cur_spoilt
end
/-! ### loop.example/g01158/spec.DrawParseMaze -/
section
namespace spec_DrawParseMaze
noncomputable def code : Code := (Go.Proofs.Tryz.f30.body).getD .skip
abbrev shp : Shape := [(0, .one (.row (.int .u8) false))]
abbrev outs : List KD := [.one (.str)]
abbrev R : Type := ByteArray
def out : R → denL outs := fun r => (r, ())
def into : denL outs → R := fun y => y.1
def cfg : Cfg := ⟨ty, 21, [], fun _ => .plain, fun _ => none⟩
def cal (n : Nat) : List (Nat × PFn) := [(33, spec_l1Cur_maze.pfn n), (35, spec_l2Maze.pfn n), (36, spec_l1Cur_one.pfn n), (66, spec_l2Text.pfn n), (70, spec_l1Cur_spoilt.pfn n)]
theorem cal_ok (n : Nat) : ∀ g, (pick (cal n) g).Ok Go.Proofs.Tryz.prog g := pick_ok (by
  intro p hp
  simp only [cal, List.mem_cons, List.not_mem_nil, or_false] at hp
  rcases hp with rfl | rfl | rfl | rfl | rfl
  · exact spec_l1Cur_maze.ok n
  · exact spec_l2Maze.ok n
  · exact spec_l1Cur_one.ok n
  · exact spec_l2Text.ok n
  · exact spec_l1Cur_spoilt.ok n)
def fin : St → Option R := finOf ty [.tmp 2] outs into
def lam (n : Nat) : Nat → (St → Option R) → St → Option R := fun _ => fun _ _ => none
theorem loops (n : Nat) : LoopsOk cfg (pick (cal n)) (lam n) fin (loopsOf cfg.blk code) := by
  have h : loopsOf cfg.blk code = [] := by kernel_rfl
  rw [h]
  intro p hp
  cases hp
theorem F_eq (n : Nat) (x0 : List (Int)) : spec_DrawParseMaze.F n x0 = exK cfg (pick (cal n)) (lam n) fin code (fun _ _ => none) (mkSt shp (x0, ())) fin := by
  kernel_rfl
def pfn (n : Nat) : PFn := mkFn shp outs (fun x => spec_DrawParseMaze.F n x.1) out
theorem ok (n : Nat) : (pfn n).Ok Go.Proofs.Tryz.prog 30 :=
  mkFn_ok (fn := Go.Proofs.Tryz.f30) (code := code) Go.Proofs.Tryz.func30 (by kernel_rfl) (by decide) (C := cfg) (Φ := pick (cal n)) (Λ := lam n) (into := into) hT (cal_ok n) (by kernel_rfl) rfl (by decide) rfl (fun _ => rfl) (loops n)
    (fun x r h => by
      have e := F_eq n x.1
      exact e.symm.trans h)
end spec_DrawParseMaze
end
/-! ### loop.example/g01158/spec.l1Split -/
section
namespace spec_l1Split
noncomputable def code : Code := (Go.Proofs.Tryz.f71.body).getD .skip
abbrev shp : Shape := [(0, .one (.str)), (1, .one (.int .u8))]
abbrev outs : List KD := [.one (.row (.str) true)]
abbrev R : Type := (List (ByteArray))
def out : R → denL outs := fun r => (r, ())
def into : denL outs → R := fun y => y.1
def cfg : Cfg := ⟨ty, 35, [], fun i => match Nat.beq i 0 with | true => .loop | false => .plain, fun _ => none⟩
def cal (n : Nat) : List (Nat × PFn) := []
theorem cal_ok (n : Nat) : ∀ g, (pick (cal n) g).Ok Go.Proofs.Tryz.prog g := pick_ok (by
  intro p hp
  cases hp)
def fin : St → Option R := finOf ty [.tmp 4] outs into
abbrev sin0 : Shape := [(0, .one (.str)), (1, .one (.int .u8)), (5, .one (.row (.str) true)), (6, .one (.int .i64)), (7, .one (.int .i64))]
abbrev sout0 : Shape := [(0, .one (.str)), (5, .one (.row (.str) true)), (6, .one (.int .i64))]
def lam (n : Nat) : Nat → (St → Option R) → St → Option R := fun i => match Nat.beq i 0 with | true => (fun K st => match absSt sin0 st with | some (x, _) => spec_l1Split.l0 n (fun y0 y1 y2 => K (mkSt sout0 (y0, y1, y2, ()))) n x.1 x.2.1 x.2.2.1 x.2.2.2.1 x.2.2.2.2.1 | none => none) | false => fun _ _ => none
noncomputable def lps : List (Nat × Code) := loopsOf cfg.blk code
noncomputable def b0 : Code := bodyOf lps 0
theorem l0_eq (n : Nat) (K : St → Option R) : ∀ (j : Nat) (x0 : ByteArray) (x1 : Int) (x2 : List (ByteArray)) (x3 : Int) (x4 : Int), spec_l1Split.l0 n (fun y0 y1 y2 => K (mkSt sout0 (y0, y1, y2, ()))) j x0 x1 x2 x3 x4 = iter (roundK cfg (pick (cal n)) (lam n) fin 0 b0 sin0 sout0 K) j (mkSt sin0 (x0, x1, x2, x3, x4, ()))
  | 0, _, _, _, _, _ => rfl
  | j + 1, x0, x1, x2, x3, x4 => by
    have ih : spec_l1Split.l0 n (fun y0 y1 y2 => K (mkSt sout0 (y0, y1, y2, ()))) j = fun x0 x1 x2 x3 x4 => iter (roundK cfg (pick (cal n)) (lam n) fin 0 b0 sin0 sout0 K) j (mkSt sin0 (x0, x1, x2, x3, x4, ())) := funext fun x0 => funext fun x1 => funext fun x2 => funext fun x3 => funext fun x4 => l0_eq n K j x0 x1 x2 x3 x4
    rw [spec_l1Split.l0, ih]
    show _ = roundK cfg (pick (cal n)) (lam n) fin 0 b0 sin0 sout0 K (iter (roundK cfg (pick (cal n)) (lam n) fin 0 b0 sin0 sout0 K) j) (mkSt sin0 (x0, x1, x2, x3, x4, ()))
    kernel_rfl
theorem loops (n : Nat) : LoopsOk cfg (pick (cal n)) (lam n) fin (loopsOf cfg.blk code) := by
  have h : loopsOf cfg.blk code = [(0, b0)] := by kernel_rfl
  rw [h]
  intro p hp K st r hr
  simp only [List.mem_cons, List.not_mem_nil, or_false] at hp
  rcases hp with rfl
  · have hr' : (match absSt sin0 st with | some (x, _) => spec_l1Split.l0 n (fun y0 y1 y2 => K (mkSt sout0 (y0, y1, y2, ()))) n x.1 x.2.1 x.2.2.1 x.2.2.2.1 x.2.2.2.2.1 | none => none) = some r := hr
    split at hr'
    · rename_i x es hx
      rw [l0_eq] at hr'
      exact ⟨sin0, sout0, n, x, es, hx, hr'⟩
    · cases hr'
theorem F_eq (n : Nat) (x0 : ByteArray) (x1 : Int) : spec_l1Split.F n x0 x1 = exK cfg (pick (cal n)) (lam n) fin code (fun _ _ => none) (mkSt shp (x0, x1, ())) fin := by
  kernel_rfl
def pfn (n : Nat) : PFn := mkFn shp outs (fun x => spec_l1Split.F n x.1 x.2.1) out
theorem ok (n : Nat) : (pfn n).Ok Go.Proofs.Tryz.prog 71 :=
  mkFn_ok (fn := Go.Proofs.Tryz.f71) (code := code) Go.Proofs.Tryz.func71 (by kernel_rfl) (by decide) (C := cfg) (Φ := pick (cal n)) (Λ := lam n) (into := into) hT (cal_ok n) (by kernel_rfl) rfl (by decide) rfl (fun _ => rfl) (loops n)
    (fun x r h => by
      have e := F_eq n x.1 x.2.1
      exact e.symm.trans h)
end spec_l1Split
end
/-! ### loop.example/g01158/spec.l1Read -/
section
namespace spec_l1Read
noncomputable def code : Code := (Go.Proofs.Tryz.f72.body).getD .skip
abbrev shp : Shape := [(0, .one (.str))]
abbrev outs : List KD := [.one (.int .i64), .one (.bool)]
abbrev R : Type := Int × Bool
def out : R → denL outs := fun r => (r.1, r.2, ())
def into : denL outs → R := fun y => (y.1, y.2.1)
def cfg : Cfg := ⟨ty, 58, [], fun i => match Nat.beq i 0 with | true => .loop | false => .plain, fun i => match Nat.beq i 4 with | true => some [(0, .one (.str)), (4, .one (.str))] | false => none⟩
def cal (n : Nat) : List (Nat × PFn) := [(62, spec_l1In.pfn n), (87, spec_l1Num.pfn n)]
theorem cal_ok (n : Nat) : ∀ g, (pick (cal n) g).Ok Go.Proofs.Tryz.prog g := pick_ok (by
  intro p hp
  simp only [cal, List.mem_cons, List.not_mem_nil, or_false] at hp
  rcases hp with rfl | rfl
  · exact spec_l1In.ok n
  · exact spec_l1Num.ok n)
def fin : St → Option R := finOf ty [.tmp 2, .tmp 3] outs into
abbrev sin0 : Shape := [(0, .one (.str)), (4, .one (.str)), (5, .one (.int .i64)), (6, .one (.int .i64))]
abbrev sout0 : Shape := [(0, .one (.str)), (4, .one (.str)), (5, .one (.int .i64))]
def lam (n : Nat) : Nat → (St → Option R) → St → Option R := fun i => match Nat.beq i 0 with | true => (fun K st => match absSt sin0 st with | some (x, _) => spec_l1Read.l0 n (fun y0 y1 y2 => K (mkSt sout0 (y0, y1, y2, ()))) n x.1 x.2.1 x.2.2.1 x.2.2.2.1 | none => none) | false => fun _ _ => none
noncomputable def lps : List (Nat × Code) := loopsOf cfg.blk code
noncomputable def b0 : Code := bodyOf lps 0
theorem l0_eq (n : Nat) (K : St → Option R) : ∀ (j : Nat) (x0 : ByteArray) (x1 : ByteArray) (x2 : Int) (x3 : Int), spec_l1Read.l0 n (fun y0 y1 y2 => K (mkSt sout0 (y0, y1, y2, ()))) j x0 x1 x2 x3 = iter (roundK cfg (pick (cal n)) (lam n) fin 0 b0 sin0 sout0 K) j (mkSt sin0 (x0, x1, x2, x3, ()))
  | 0, _, _, _, _ => rfl
  | j + 1, x0, x1, x2, x3 => by
    have ih : spec_l1Read.l0 n (fun y0 y1 y2 => K (mkSt sout0 (y0, y1, y2, ()))) j = fun x0 x1 x2 x3 => iter (roundK cfg (pick (cal n)) (lam n) fin 0 b0 sin0 sout0 K) j (mkSt sin0 (x0, x1, x2, x3, ())) := funext fun x0 => funext fun x1 => funext fun x2 => funext fun x3 => l0_eq n K j x0 x1 x2 x3
    rw [spec_l1Read.l0, ih]
    show _ = roundK cfg (pick (cal n)) (lam n) fin 0 b0 sin0 sout0 K (iter (roundK cfg (pick (cal n)) (lam n) fin 0 b0 sin0 sout0 K) j) (mkSt sin0 (x0, x1, x2, x3, ()))
    kernel_rfl
theorem loops (n : Nat) : LoopsOk cfg (pick (cal n)) (lam n) fin (loopsOf cfg.blk code) := by
  have h : loopsOf cfg.blk code = [(0, b0)] := by kernel_rfl
  rw [h]
  intro p hp K st r hr
  simp only [List.mem_cons, List.not_mem_nil, or_false] at hp
  rcases hp with rfl
  · have hr' : (match absSt sin0 st with | some (x, _) => spec_l1Read.l0 n (fun y0 y1 y2 => K (mkSt sout0 (y0, y1, y2, ()))) n x.1 x.2.1 x.2.2.1 x.2.2.2.1 | none => none) = some r := hr
    split at hr'
    · rename_i x es hx
      rw [l0_eq] at hr'
      exact ⟨sin0, sout0, n, x, es, hx, hr'⟩
    · cases hr'
theorem F_eq (n : Nat) (x0 : ByteArray) : spec_l1Read.F n x0 = exK cfg (pick (cal n)) (lam n) fin code (fun _ _ => none) (mkSt shp (x0, ())) fin := by
  kernel_rfl
def pfn (n : Nat) : PFn := mkFn shp outs (fun x => spec_l1Read.F n x.1) out
theorem ok (n : Nat) : (pfn n).Ok Go.Proofs.Tryz.prog 72 :=
  mkFn_ok (fn := Go.Proofs.Tryz.f72) (code := code) Go.Proofs.Tryz.func72 (by kernel_rfl) (by decide) (C := cfg) (Φ := pick (cal n)) (Λ := lam n) (into := into) hT (cal_ok n) (by kernel_rfl) rfl (by decide) rfl (fun _ => rfl) (loops n)
    (fun x r h => by
      have e := F_eq n x.1
      exact e.symm.trans h)
end spec_l1Read
end
/-! ### loop.example/g01158/spec.l2Numbers -/
section
namespace spec_l2Numbers
noncomputable def code : Code := (Go.Proofs.Tryz.f73.body).getD .skip
abbrev shp : Shape := [(0, .one (.str)), (1, .one (.int .u8)), (2, .one (.int .i64))]
abbrev outs : List KD := [.one (.row (.int .i64) true), .one (.bool)]
abbrev R : Type := (List (Int)) × Bool
def out : R → denL outs := fun r => (r.1, r.2, ())
def into : denL outs → R := fun y => (y.1, y.2.1)
def cfg : Cfg := ⟨ty, 44, [], fun i => match Nat.beq i 0 with | true => .loop | false => .plain, fun _ => none⟩
def cal (n : Nat) : List (Nat × PFn) := [(71, spec_l1Split.pfn n), (72, spec_l1Read.pfn n)]
theorem cal_ok (n : Nat) : ∀ g, (pick (cal n) g).Ok Go.Proofs.Tryz.prog g := pick_ok (by
  intro p hp
  simp only [cal, List.mem_cons, List.not_mem_nil, or_false] at hp
  rcases hp with rfl | rfl
  · exact spec_l1Split.ok n
  · exact spec_l1Read.ok n)
def fin : St → Option R := finOf ty [.tmp 6, .tmp 7] outs into
abbrev sin0 : Shape := [(2, .one (.int .i64)), (8, .one (.row (.int .i64) true)), (9, .one (.row (.str) true)), (10, .one (.int .i64))]
abbrev sout0 : Shape := [(8, .one (.row (.int .i64) true))]
def lam (n : Nat) : Nat → (St → Option R) → St → Option R := fun i => match Nat.beq i 0 with | true => (fun K st => match absSt sin0 st with | some (x, _) => spec_l2Numbers.l0 n (fun y0 => K (mkSt sout0 (y0, ()))) n x.1 x.2.1 x.2.2.1 x.2.2.2.1 | none => none) | false => fun _ _ => none
noncomputable def lps : List (Nat × Code) := loopsOf cfg.blk code
noncomputable def b0 : Code := bodyOf lps 0
theorem l0_eq (n : Nat) (K : St → Option R) : ∀ (j : Nat) (x0 : Int) (x1 : List (Int)) (x2 : List (ByteArray)) (x3 : Int), spec_l2Numbers.l0 n (fun y0 => K (mkSt sout0 (y0, ()))) j x0 x1 x2 x3 = iter (roundK cfg (pick (cal n)) (lam n) fin 0 b0 sin0 sout0 K) j (mkSt sin0 (x0, x1, x2, x3, ()))
  | 0, _, _, _, _ => rfl
  | j + 1, x0, x1, x2, x3 => by
    have ih : spec_l2Numbers.l0 n (fun y0 => K (mkSt sout0 (y0, ()))) j = fun x0 x1 x2 x3 => iter (roundK cfg (pick (cal n)) (lam n) fin 0 b0 sin0 sout0 K) j (mkSt sin0 (x0, x1, x2, x3, ())) := funext fun x0 => funext fun x1 => funext fun x2 => funext fun x3 => l0_eq n K j x0 x1 x2 x3
    rw [spec_l2Numbers.l0, ih]
    show _ = roundK cfg (pick (cal n)) (lam n) fin 0 b0 sin0 sout0 K (iter (roundK cfg (pick (cal n)) (lam n) fin 0 b0 sin0 sout0 K) j) (mkSt sin0 (x0, x1, x2, x3, ()))
    kernel_rfl
theorem loops (n : Nat) : LoopsOk cfg (pick (cal n)) (lam n) fin (loopsOf cfg.blk code) := by
  have h : loopsOf cfg.blk code = [(0, b0)] := by kernel_rfl
  rw [h]
  intro p hp K st r hr
  simp only [List.mem_cons, List.not_mem_nil, or_false] at hp
  rcases hp with rfl
  · have hr' : (match absSt sin0 st with | some (x, _) => spec_l2Numbers.l0 n (fun y0 => K (mkSt sout0 (y0, ()))) n x.1 x.2.1 x.2.2.1 x.2.2.2.1 | none => none) = some r := hr
    split at hr'
    · rename_i x es hx
      rw [l0_eq] at hr'
      exact ⟨sin0, sout0, n, x, es, hx, hr'⟩
    · cases hr'
theorem F_eq (n : Nat) (x0 : ByteArray) (x1 : Int) (x2 : Int) : spec_l2Numbers.F n x0 x1 x2 = exK cfg (pick (cal n)) (lam n) fin code (fun _ _ => none) (mkSt shp (x0, x1, x2, ())) fin := by
  kernel_rfl
def pfn (n : Nat) : PFn := mkFn shp outs (fun x => spec_l2Numbers.F n x.1 x.2.1 x.2.2.1) out
theorem ok (n : Nat) : (pfn n).Ok Go.Proofs.Tryz.prog 73 :=
  mkFn_ok (fn := Go.Proofs.Tryz.f73) (code := code) Go.Proofs.Tryz.func73 (by kernel_rfl) (by decide) (C := cfg) (Φ := pick (cal n)) (Λ := lam n) (into := into) hT (cal_ok n) (by kernel_rfl) rfl (by decide) rfl (fun _ => rfl) (loops n)
    (fun x r h => by
      have e := F_eq n x.1 x.2.1 x.2.2.1
      exact e.symm.trans h)
end spec_l2Numbers
end
/-! ### loop.example/g01158/spec.ParseMaze -/
section
namespace spec_ParseMaze
noncomputable def code : Code := (Go.Proofs.Tryz.f31.body).getD .skip
abbrev shp : Shape := [(0, .one (.str))]
abbrev outs : List KD := [.agg [.int .i64, .row (.t3) true, .row (.int .i64) true], .one (.bool)]
abbrev R : Type := Int × (List (Int × Int × Int)) × (List (Int)) × Bool
def out : R → denL outs := fun r => ((r.1, r.2.1, r.2.2.1, ()), r.2.2.2, ())
def into : denL outs → R := fun y => (y.1.1, y.1.2.1, y.1.2.2.1, y.2.1)
def cfg : Cfg := ⟨ty, 100, [], fun i => match Nat.beq i 0 with | true => .loop | false => .plain, fun i => match Nat.beq i 6 with | true => some [(0, .one (.str)), (2, .box true [.int .i64, .row (.t3) true, .row (.int .i64) true]), (4, .one (.row (.str) true)), (5, .one (.int .i64)), (6, .one (.bool)), (7, .one (.row (.int .i64) true)), (8, .one (.bool))] | false => match Nat.beq i 14 with | true => some [(0, .one (.str)), (2, .box true [.int .i64, .row (.t3) true, .row (.int .i64) true]), (6, .one (.bool)), (8, .one (.bool)), (9, .box true [.int .i64, .row (.t3) true, .row (.int .i64) true])] | false => none⟩
def cal (n : Nat) : List (Nat × PFn) := [(35, spec_l2Maze.pfn n), (62, spec_l1In.pfn n), (66, spec_l2Text.pfn n), (71, spec_l1Split.pfn n), (72, spec_l1Read.pfn n), (73, spec_l2Numbers.pfn n)]
theorem cal_ok (n : Nat) : ∀ g, (pick (cal n) g).Ok Go.Proofs.Tryz.prog g := pick_ok (by
  intro p hp
  simp only [cal, List.mem_cons, List.not_mem_nil, or_false] at hp
  rcases hp with rfl | rfl | rfl | rfl | rfl | rfl
  · exact spec_l2Maze.ok n
  · exact spec_l1In.ok n
  · exact spec_l2Text.ok n
  · exact spec_l1Split.ok n
  · exact spec_l1Read.ok n
  · exact spec_l2Numbers.ok n)
def fin : St → Option R := finOf ty [.cell 2 27, .tmp 3] outs into
abbrev sin0 : Shape := [(0, .one (.str)), (2, .box true [.int .i64, .row (.t3) true, .row (.int .i64) true]), (4, .one (.row (.str) true)), (6, .one (.bool)), (8, .one (.bool)), (9, .box true [.int .i64, .row (.t3) true, .row (.int .i64) true]), (10, .one (.int .i64))]
abbrev sout0 : Shape := [(0, .one (.str)), (2, .box true [.int .i64, .row (.t3) true, .row (.int .i64) true]), (6, .one (.bool)), (8, .one (.bool)), (9, .box true [.int .i64, .row (.t3) true, .row (.int .i64) true])]
def lam (n : Nat) : Nat → (St → Option R) → St → Option R := fun i => match Nat.beq i 0 with | true => (fun K st => match absSt sin0 st with | some (x, _) => spec_ParseMaze.l0 n (fun y0 y1 y2 y3 y4 y5 y6 y7 y8 => K (mkSt sout0 (y0, (y1, y2, y3, ()), y4, y5, (y6, y7, y8, ()), ()))) n x.1 x.2.1.1 x.2.1.2.1 x.2.1.2.2.1 x.2.2.1 x.2.2.2.1 x.2.2.2.2.1 x.2.2.2.2.2.1.1 x.2.2.2.2.2.1.2.1 x.2.2.2.2.2.1.2.2.1 x.2.2.2.2.2.2.1 | none => none) | false => fun _ _ => none
noncomputable def lps : List (Nat × Code) := loopsOf cfg.blk code
noncomputable def b0 : Code := bodyOf lps 0
theorem l0_eq (n : Nat) (K : St → Option R) : ∀ (j : Nat) (x0 : ByteArray) (x1 : Int) (x2 : List (Int × Int × Int)) (x3 : List (Int)) (x4 : List (ByteArray)) (x5 : Bool) (x6 : Bool) (x7 : Int) (x8 : List (Int × Int × Int)) (x9 : List (Int)) (x10 : Int), spec_ParseMaze.l0 n (fun y0 y1 y2 y3 y4 y5 y6 y7 y8 => K (mkSt sout0 (y0, (y1, y2, y3, ()), y4, y5, (y6, y7, y8, ()), ()))) j x0 x1 x2 x3 x4 x5 x6 x7 x8 x9 x10 = iter (roundK cfg (pick (cal n)) (lam n) fin 0 b0 sin0 sout0 K) j (mkSt sin0 (x0, (x1, x2, x3, ()), x4, x5, x6, (x7, x8, x9, ()), x10, ()))
  | 0, _, _, _, _, _, _, _, _, _, _, _ => rfl
  | j + 1, x0, x1, x2, x3, x4, x5, x6, x7, x8, x9, x10 => by
    have ih : spec_ParseMaze.l0 n (fun y0 y1 y2 y3 y4 y5 y6 y7 y8 => K (mkSt sout0 (y0, (y1, y2, y3, ()), y4, y5, (y6, y7, y8, ()), ()))) j = fun x0 x1 x2 x3 x4 x5 x6 x7 x8 x9 x10 => iter (roundK cfg (pick (cal n)) (lam n) fin 0 b0 sin0 sout0 K) j (mkSt sin0 (x0, (x1, x2, x3, ()), x4, x5, x6, (x7, x8, x9, ()), x10, ())) := funext fun x0 => funext fun x1 => funext fun x2 => funext fun x3 => funext fun x4 => funext fun x5 => funext fun x6 => funext fun x7 => funext fun x8 => funext fun x9 => funext fun x10 => l0_eq n K j x0 x1 x2 x3 x4 x5 x6 x7 x8 x9 x10
    rw [spec_ParseMaze.l0, ih]
    show _ = roundK cfg (pick (cal n)) (lam n) fin 0 b0 sin0 sout0 K (iter (roundK cfg (pick (cal n)) (lam n) fin 0 b0 sin0 sout0 K) j) (mkSt sin0 (x0, (x1, x2, x3, ()), x4, x5, x6, (x7, x8, x9, ()), x10, ()))
    kernel_rfl
theorem loops (n : Nat) : LoopsOk cfg (pick (cal n)) (lam n) fin (loopsOf cfg.blk code) := by
  have h : loopsOf cfg.blk code = [(0, b0)] := by kernel_rfl
  rw [h]
  intro p hp K st r hr
  simp only [List.mem_cons, List.not_mem_nil, or_false] at hp
  rcases hp with rfl
  · have hr' : (match absSt sin0 st with | some (x, _) => spec_ParseMaze.l0 n (fun y0 y1 y2 y3 y4 y5 y6 y7 y8 => K (mkSt sout0 (y0, (y1, y2, y3, ()), y4, y5, (y6, y7, y8, ()), ()))) n x.1 x.2.1.1 x.2.1.2.1 x.2.1.2.2.1 x.2.2.1 x.2.2.2.1 x.2.2.2.2.1 x.2.2.2.2.2.1.1 x.2.2.2.2.2.1.2.1 x.2.2.2.2.2.1.2.2.1 x.2.2.2.2.2.2.1 | none => none) = some r := hr
    split at hr'
    · rename_i x es hx
      rw [l0_eq] at hr'
      exact ⟨sin0, sout0, n, x, es, hx, hr'⟩
    · cases hr'
noncomputable def code6 : Code := spineAt 5 code
abbrev cut6 : Shape := [(0, .one (.str)), (2, .box true [.int .i64, .row (.t3) true, .row (.int .i64) true]), (4, .one (.row (.str) true)), (5, .one (.int .i64)), (6, .one (.bool)), (7, .one (.row (.int .i64) true)), (8, .one (.bool))]
noncomputable def code14 : Code := spineAt 2 code6
abbrev cut14 : Shape := [(0, .one (.str)), (2, .box true [.int .i64, .row (.t3) true, .row (.int .i64) true]), (6, .one (.bool)), (8, .one (.bool)), (9, .box true [.int .i64, .row (.t3) true, .row (.int .i64) true])]
theorem c14_eq (n : Nat) (x0 : ByteArray) (x1 : Int) (x2 : List (Int × Int × Int)) (x3 : List (Int)) (x4 : Bool) (x5 : Bool) (x6 : Int) (x7 : List (Int × Int × Int)) (x8 : List (Int)) : spec_ParseMaze.c14 n x0 x1 x2 x3 x4 x5 x6 x7 x8 = exK cfg (pick (cal n)) (lam n) fin code14 (fun _ _ => none) (mkSt cut14 (x0, (x1, x2, x3, ()), x4, x5, (x6, x7, x8, ()), ())) fin := by
  kernel_rfl
theorem c6_seg (n : Nat) (x0 : ByteArray) (x1 : Int) (x2 : List (Int × Int × Int)) (x3 : List (Int)) (x4 : List (ByteArray)) (x5 : Int) (x6 : Bool) (x7 : List (Int)) (x8 : Bool) : spec_ParseMaze.c6 n x0 x1 x2 x3 x4 x5 x6 x7 x8 = exSeg cfg (pick (cal n)) (lam n) fin (fun _ _ => none) cut14 (fun x => spec_ParseMaze.c14 n x.1 x.2.1.1 x.2.1.2.1 x.2.1.2.2.1 x.2.2.1 x.2.2.2.1 x.2.2.2.2.1.1 x.2.2.2.2.1.2.1 x.2.2.2.2.1.2.2.1) 1 code6 (mkSt cut6 (x0, (x1, x2, x3, ()), x4, x5, x6, x7, x8, ())) := by
  kernel_rfl
theorem c6_eq (n : Nat) (x0 : ByteArray) (x1 : Int) (x2 : List (Int × Int × Int)) (x3 : List (Int)) (x4 : List (ByteArray)) (x5 : Int) (x6 : Bool) (x7 : List (Int)) (x8 : Bool) : spec_ParseMaze.c6 n x0 x1 x2 x3 x4 x5 x6 x7 x8 = exK cfg (pick (cal n)) (lam n) fin code6 (fun _ _ => none) (mkSt cut6 (x0, (x1, x2, x3, ()), x4, x5, x6, x7, x8, ())) fin := 
  (c6_seg n x0 x1 x2 x3 x4 x5 x6 x7 x8).trans (seg_eq 1 (by kernel_rfl) rfl (by kernel_rfl) (fun x => c14_eq n x.1 x.2.1.1 x.2.1.2.1 x.2.1.2.2.1 x.2.2.1 x.2.2.2.1 x.2.2.2.2.1.1 x.2.2.2.2.1.2.1 x.2.2.2.2.1.2.2.1))
theorem F_seg (n : Nat) (x0 : ByteArray) : spec_ParseMaze.F n x0 = exSeg cfg (pick (cal n)) (lam n) fin (fun _ _ => none) cut6 (fun x => spec_ParseMaze.c6 n x.1 x.2.1.1 x.2.1.2.1 x.2.1.2.2.1 x.2.2.1 x.2.2.2.1 x.2.2.2.2.1 x.2.2.2.2.2.1 x.2.2.2.2.2.2.1) 4 code (mkSt shp (x0, ())) := by
  kernel_rfl
theorem F_eq (n : Nat) (x0 : ByteArray) : spec_ParseMaze.F n x0 = exK cfg (pick (cal n)) (lam n) fin code (fun _ _ => none) (mkSt shp (x0, ())) fin :=
  (F_seg n x0).trans (seg_eq 4 (by kernel_rfl) rfl (by kernel_rfl) (fun x => c6_eq n x.1 x.2.1.1 x.2.1.2.1 x.2.1.2.2.1 x.2.2.1 x.2.2.2.1 x.2.2.2.2.1 x.2.2.2.2.2.1 x.2.2.2.2.2.2.1))
def pfn (n : Nat) : PFn := mkFn shp outs (fun x => spec_ParseMaze.F n x.1) out
theorem ok (n : Nat) : (pfn n).Ok Go.Proofs.Tryz.prog 31 :=
  mkFn_ok (fn := Go.Proofs.Tryz.f31) (code := code) Go.Proofs.Tryz.func31 (by kernel_rfl) (by decide) (C := cfg) (Φ := pick (cal n)) (Λ := lam n) (into := into) hT (cal_ok n) (by kernel_rfl) rfl (by decide) rfl (fun _ => rfl) (loops n)
    (fun x r h => by
      have e := F_eq n x.1
      exact e.symm.trans h)
end spec_ParseMaze
end
/-! ### loop.example/g01158/laws.rHas -/
section
namespace laws_rHas
noncomputable def code : Code := (Go.Proofs.Tryz.f32.body).getD .skip
abbrev shp : Shape := [(0, .one (.row (.int .i64) false)), (1, .one (.int .i64))]
abbrev outs : List KD := [.one (.bool)]
abbrev R : Type := Bool
def out : R → denL outs := fun r => (r, ())
def into : denL outs → R := fun y => y.1
def cfg : Cfg := ⟨ty, 18, [], fun i => match Nat.beq i 0 with | true => .loop | false => .plain, fun _ => none⟩
def cal (n : Nat) : List (Nat × PFn) := []
theorem cal_ok (n : Nat) : ∀ g, (pick (cal n) g).Ok Go.Proofs.Tryz.prog g := pick_ok (by
  intro p hp
  cases hp)
def fin : St → Option R := finOf ty [.tmp 4] outs into
abbrev sin0 : Shape := [(0, .one (.row (.int .i64) false)), (1, .one (.int .i64)), (5, .one (.int .i64))]
abbrev sout0 : Shape := []
def lam (n : Nat) : Nat → (St → Option R) → St → Option R := fun i => match Nat.beq i 0 with | true => (fun K st => match absSt sin0 st with | some (x, _) => laws_rHas.l0 n (fun _ => K (mkSt sout0 ())) n x.1 x.2.1 x.2.2.1 | none => none) | false => fun _ _ => none
noncomputable def lps : List (Nat × Code) := loopsOf cfg.blk code
noncomputable def b0 : Code := bodyOf lps 0
theorem l0_eq (n : Nat) (K : St → Option R) : ∀ (j : Nat) (x0 : List (Int)) (x1 : Int) (x2 : Int), laws_rHas.l0 n (fun _ => K (mkSt sout0 ())) j x0 x1 x2 = iter (roundK cfg (pick (cal n)) (lam n) fin 0 b0 sin0 sout0 K) j (mkSt sin0 (x0, x1, x2, ()))
  | 0, _, _, _ => rfl
  | j + 1, x0, x1, x2 => by
    have ih : laws_rHas.l0 n (fun _ => K (mkSt sout0 ())) j = fun x0 x1 x2 => iter (roundK cfg (pick (cal n)) (lam n) fin 0 b0 sin0 sout0 K) j (mkSt sin0 (x0, x1, x2, ())) := funext fun x0 => funext fun x1 => funext fun x2 => l0_eq n K j x0 x1 x2
    rw [laws_rHas.l0, ih]
    show _ = roundK cfg (pick (cal n)) (lam n) fin 0 b0 sin0 sout0 K (iter (roundK cfg (pick (cal n)) (lam n) fin 0 b0 sin0 sout0 K) j) (mkSt sin0 (x0, x1, x2, ()))
    kernel_rfl
theorem loops (n : Nat) : LoopsOk cfg (pick (cal n)) (lam n) fin (loopsOf cfg.blk code) := by
  have h : loopsOf cfg.blk code = [(0, b0)] := by kernel_rfl
  rw [h]
  intro p hp K st r hr
  simp only [List.mem_cons, List.not_mem_nil, or_false] at hp
  rcases hp with rfl
  · have hr' : (match absSt sin0 st with | some (x, _) => laws_rHas.l0 n (fun _ => K (mkSt sout0 ())) n x.1 x.2.1 x.2.2.1 | none => none) = some r := hr
    split at hr'
    · rename_i x es hx
      rw [l0_eq] at hr'
      exact ⟨sin0, sout0, n, x, es, hx, hr'⟩
    · cases hr'
theorem F_eq (n : Nat) (x0 : List (Int)) (x1 : Int) : laws_rHas.F n x0 x1 = exK cfg (pick (cal n)) (lam n) fin code (fun _ _ => none) (mkSt shp (x0, x1, ())) fin := by
  kernel_rfl
def pfn (n : Nat) : PFn := mkFn shp outs (fun x => laws_rHas.F n x.1 x.2.1) out
theorem ok (n : Nat) : (pfn n).Ok Go.Proofs.Tryz.prog 32 :=
  mkFn_ok (fn := Go.Proofs.Tryz.f32) (code := code) Go.Proofs.Tryz.func32 (by kernel_rfl) (by decide) (C := cfg) (Φ := pick (cal n)) (Λ := lam n) (into := into) hT (cal_ok n) (by kernel_rfl) rfl (by decide) rfl (fun _ => rfl) (loops n)
    (fun x r h => by
      have e := F_eq n x.1 x.2.1
      exact e.symm.trans h)
end laws_rHas
end
/-! ### loop.example/g01158/laws.FnOpenDoors -/
section
namespace laws_FnOpenDoors
noncomputable def code : Code := (Go.Proofs.Tryz.f3.body).getD .skip
abbrev shp : Shape := [(0, .one (.row (.int .u8) false))]
abbrev outs : List KD := [.one (.bool)]
abbrev R : Type := Bool
def out : R → denL outs := fun r => (r, ())
def into : denL outs → R := fun y => y.1
def cfg : Cfg := ⟨ty, 379, [], fun i => match Nat.beq i 2 with | true => .loop | false => match Nat.beq i 0 with | true => .loop | false => .plain, fun i => match Nat.beq i 8 with | true => some [(0, .one (.row (.int .u8) false)), (3, .box true [.int .i64, .row (.t3) true, .row (.int .i64) true]), (4, .one (.int .i64)), (5, .one (.int .i64)), (6, .one (.int .i64)), (7, .one (.bool)), (8, .one (.bool))] | false => match Nat.beq i 12 with | true => some [(0, .one (.row (.int .u8) false)), (3, .box true [.int .i64, .row (.t3) true, .row (.int .i64) true]), (6, .one (.int .i64)), (7, .one (.bool)), (8, .one (.bool)), (11, .one (.row (.int .i64) true))] | false => match Nat.beq i 17 with | true => some [(0, .one (.row (.int .u8) false)), (3, .box true [.int .i64, .row (.t3) true, .row (.int .i64) true]), (6, .one (.int .i64)), (7, .one (.bool)), (8, .one (.bool)), (11, .one (.row (.int .i64) true))] | false => match Nat.beq i 22 with | true => some [(0, .one (.row (.int .u8) false)), (3, .box true [.int .i64, .row (.t3) true, .row (.int .i64) true]), (6, .one (.int .i64)), (7, .one (.bool)), (8, .one (.bool)), (11, .one (.row (.int .i64) true)), (22, .box true [.int .i64, .row (.t3) true, .row (.int .i64) true]), (23, .one (.int .i64)), (24, .one (.int .i64)), (25, .one (.row (.int .i64) true)), (26, .one (.bool))] | false => match Nat.beq i 27 with | true => some [(0, .one (.row (.int .u8) false)), (3, .box true [.int .i64, .row (.t3) true, .row (.int .i64) true]), (6, .one (.int .i64)), (7, .one (.bool)), (8, .one (.bool)), (11, .one (.row (.int .i64) true)), (22, .box true [.int .i64, .row (.t3) true, .row (.int .i64) true]), (23, .one (.int .i64)), (24, .one (.int .i64)), (25, .one (.row (.int .i64) true)), (26, .one (.bool))] | false => match Nat.beq i 32 with | true => some [(0, .one (.row (.int .u8) false)), (3, .box true [.int .i64, .row (.t3) true, .row (.int .i64) true]), (6, .one (.int .i64)), (7, .one (.bool)), (8, .one (.bool)), (11, .one (.row (.int .i64) true)), (22, .box true [.int .i64, .row (.t3) true, .row (.int .i64) true]), (23, .one (.int .i64)), (24, .one (.int .i64)), (25, .one (.row (.int .i64) true)), (26, .one (.bool))] | false => match Nat.beq i 37 with | true => some [(0, .one (.row (.int .u8) false)), (3, .box true [.int .i64, .row (.t3) true, .row (.int .i64) true]), (6, .one (.int .i64)), (7, .one (.bool)), (8, .one (.bool)), (11, .one (.row (.int .i64) true)), (22, .box true [.int .i64, .row (.t3) true, .row (.int .i64) true]), (23, .one (.int .i64)), (24, .one (.int .i64)), (25, .one (.row (.int .i64) true)), (26, .one (.bool)), (40, .one (.int .i64)), (41, .one (.row (.int .i64) true)), (42, .one (.bool))] | false => match Nat.beq i 41 with | true => some [(0, .one (.row (.int .u8) false)), (3, .box true [.int .i64, .row (.t3) true, .row (.int .i64) true]), (6, .one (.int .i64)), (7, .one (.bool)), (8, .one (.bool)), (11, .one (.row (.int .i64) true)), (22, .box true [.int .i64, .row (.t3) true, .row (.int .i64) true]), (23, .one (.int .i64)), (24, .one (.int .i64)), (25, .one (.row (.int .i64) true)), (26, .one (.bool))] | false => match Nat.beq i 45 with | true => some [(0, .one (.row (.int .u8) false)), (3, .box true [.int .i64, .row (.t3) true, .row (.int .i64) true]), (6, .one (.int .i64)), (7, .one (.bool)), (8, .one (.bool)), (11, .one (.row (.int .i64) true)), (22, .box true [.int .i64, .row (.t3) true, .row (.int .i64) true]), (23, .one (.int .i64)), (24, .one (.int .i64)), (25, .one (.row (.int .i64) true)), (26, .one (.bool)), (47, .one (.str)), (48, .one (.bool))] | false => match Nat.beq i 49 with | true => some [(0, .one (.row (.int .u8) false)), (6, .one (.int .i64)), (7, .one (.bool)), (8, .one (.bool)), (11, .one (.row (.int .i64) true)), (22, .box true [.int .i64, .row (.t3) true, .row (.int .i64) true]), (23, .one (.int .i64)), (24, .one (.int .i64)), (25, .one (.row (.int .i64) true)), (26, .one (.bool))] | false => match Nat.beq i 54 with | true => some [(6, .one (.int .i64)), (7, .one (.bool)), (8, .one (.bool)), (11, .one (.row (.int .i64) true)), (22, .box true [.int .i64, .row (.t3) true, .row (.int .i64) true]), (23, .one (.int .i64)), (24, .one (.int .i64)), (25, .one (.row (.int .i64) true)), (26, .one (.bool))] | false => match Nat.beq i 63 with | true => some [(6, .one (.int .i64)), (7, .one (.bool)), (8, .one (.bool)), (11, .one (.row (.int .i64) true))] | false => none⟩
def cal (n : Nat) : List (Nat × PFn) := [(4, laws_rBig.pfn n), (5, spec_DrawIsOpenTo.pfn n), (6, impl_IsOpenTo.pfn n), (7, spec_IsOpenTo.pfn n), (8, impl_LeastNeeds.pfn n), (9, spec_LeastNeeds.pfn n), (10, laws_rInts.pfn n), (11, spec_DrawLeastNeeds.pfn n), (12, spec_DrawReachWith.pfn n), (13, impl_ReachWith.pfn n), (14, spec_ReachWith.pfn n), (15, spec_DrawDoorsAt.pfn n), (16, impl_DoorsAt.pfn n), (17, spec_DoorsAt.pfn n), (18, impl_IsMaze.pfn n), (19, spec_IsMaze.pfn n), (20, spec_DrawSetOf.pfn n), (21, impl_SetOf.pfn n), (22, spec_SetOf.pfn n), (23, spec_DrawColoursOf.pfn n), (24, impl_ColoursOf.pfn n), (25, spec_ColoursOf.pfn n), (26, impl_MazeText.pfn n), (27, spec_MazeText.pfn n), (28, impl_ParseMaze.pfn n), (29, laws_rMaze.pfn n), (30, spec_DrawParseMaze.pfn n), (31, spec_ParseMaze.pfn n), (32, laws_rHas.pfn n)]
theorem cal_ok (n : Nat) : ∀ g, (pick (cal n) g).Ok Go.Proofs.Tryz.prog g := pick_ok (by
  intro p hp
  simp only [cal, List.mem_cons, List.not_mem_nil, or_false] at hp
  rcases hp with rfl | rfl | rfl | rfl | rfl | rfl | rfl | rfl | rfl | rfl | rfl | rfl | rfl | rfl | rfl | rfl | rfl | rfl | rfl | rfl | rfl | rfl | rfl | rfl | rfl | rfl | rfl | rfl | rfl
  · exact laws_rBig.ok n
  · exact spec_DrawIsOpenTo.ok n
  · exact impl_IsOpenTo.ok n
  · exact spec_IsOpenTo.ok n
  · exact impl_LeastNeeds.ok n
  · exact spec_LeastNeeds.ok n
  · exact laws_rInts.ok n
  · exact spec_DrawLeastNeeds.ok n
  · exact spec_DrawReachWith.ok n
  · exact impl_ReachWith.ok n
  · exact spec_ReachWith.ok n
  · exact spec_DrawDoorsAt.ok n
  · exact impl_DoorsAt.ok n
  · exact spec_DoorsAt.ok n
  · exact impl_IsMaze.ok n
  · exact spec_IsMaze.ok n
  · exact spec_DrawSetOf.ok n
  · exact impl_SetOf.ok n
  · exact spec_SetOf.ok n
  · exact spec_DrawColoursOf.ok n
  · exact impl_ColoursOf.ok n
  · exact spec_ColoursOf.ok n
  · exact impl_MazeText.ok n
  · exact spec_MazeText.ok n
  · exact impl_ParseMaze.ok n
  · exact laws_rMaze.ok n
  · exact spec_DrawParseMaze.ok n
  · exact spec_ParseMaze.ok n
  · exact laws_rHas.ok n)
def fin : St → Option R := finOf ty [.tmp 2] outs into
abbrev sin2 : Shape := [(6, .one (.int .i64)), (7, .one (.bool)), (11, .one (.row (.int .i64) true)), (61, .one (.bool)), (62, .one (.int .i64))]
abbrev sout2 : Shape := [(7, .one (.bool)), (61, .one (.bool))]
abbrev sin0 : Shape := [(6, .one (.int .i64)), (7, .one (.bool)), (8, .one (.bool)), (11, .one (.row (.int .i64) true)), (25, .one (.row (.int .i64) true)), (58, .one (.row (.int .i64) true)), (60, .one (.int .i64))]
abbrev sout0 : Shape := [(6, .one (.int .i64)), (7, .one (.bool)), (8, .one (.bool)), (11, .one (.row (.int .i64) true))]
def lam (n : Nat) : Nat → (St → Option R) → St → Option R := fun i => match Nat.beq i 2 with | true => (fun K st => match absSt sin2 st with | some (x, _) => laws_FnOpenDoors.l2 n (fun y0 y1 => K (mkSt sout2 (y0, y1, ()))) n x.1 x.2.1 x.2.2.1 x.2.2.2.1 x.2.2.2.2.1 | none => none) | false => match Nat.beq i 0 with | true => (fun K st => match absSt sin0 st with | some (x, _) => laws_FnOpenDoors.l0 n (fun y0 y1 y2 y3 => K (mkSt sout0 (y0, y1, y2, y3, ()))) n x.1 x.2.1 x.2.2.1 x.2.2.2.1 x.2.2.2.2.1 x.2.2.2.2.2.1 x.2.2.2.2.2.2.1 | none => none) | false => fun _ _ => none
noncomputable def lps : List (Nat × Code) := loopsOf cfg.blk code
noncomputable def b2 : Code := bodyOf lps 2
theorem l2_eq (n : Nat) (K : St → Option R) : ∀ (j : Nat) (x0 : Int) (x1 : Bool) (x2 : List (Int)) (x3 : Bool) (x4 : Int), laws_FnOpenDoors.l2 n (fun y0 y1 => K (mkSt sout2 (y0, y1, ()))) j x0 x1 x2 x3 x4 = iter (roundK cfg (pick (cal n)) (lam n) fin 2 b2 sin2 sout2 K) j (mkSt sin2 (x0, x1, x2, x3, x4, ()))
  | 0, _, _, _, _, _ => rfl
  | j + 1, x0, x1, x2, x3, x4 => by
    have ih : laws_FnOpenDoors.l2 n (fun y0 y1 => K (mkSt sout2 (y0, y1, ()))) j = fun x0 x1 x2 x3 x4 => iter (roundK cfg (pick (cal n)) (lam n) fin 2 b2 sin2 sout2 K) j (mkSt sin2 (x0, x1, x2, x3, x4, ())) := funext fun x0 => funext fun x1 => funext fun x2 => funext fun x3 => funext fun x4 => l2_eq n K j x0 x1 x2 x3 x4
    rw [laws_FnOpenDoors.l2, ih]
    show _ = roundK cfg (pick (cal n)) (lam n) fin 2 b2 sin2 sout2 K (iter (roundK cfg (pick (cal n)) (lam n) fin 2 b2 sin2 sout2 K) j) (mkSt sin2 (x0, x1, x2, x3, x4, ()))
    kernel_rfl
noncomputable def b0 : Code := bodyOf lps 0
theorem l0_eq (n : Nat) (K : St → Option R) : ∀ (j : Nat) (x0 : Int) (x1 : Bool) (x2 : Bool) (x3 : List (Int)) (x4 : List (Int)) (x5 : List (Int)) (x6 : Int), laws_FnOpenDoors.l0 n (fun y0 y1 y2 y3 => K (mkSt sout0 (y0, y1, y2, y3, ()))) j x0 x1 x2 x3 x4 x5 x6 = iter (roundK cfg (pick (cal n)) (lam n) fin 0 b0 sin0 sout0 K) j (mkSt sin0 (x0, x1, x2, x3, x4, x5, x6, ()))
  | 0, _, _, _, _, _, _, _ => rfl
  | j + 1, x0, x1, x2, x3, x4, x5, x6 => by
    have ih : laws_FnOpenDoors.l0 n (fun y0 y1 y2 y3 => K (mkSt sout0 (y0, y1, y2, y3, ()))) j = fun x0 x1 x2 x3 x4 x5 x6 => iter (roundK cfg (pick (cal n)) (lam n) fin 0 b0 sin0 sout0 K) j (mkSt sin0 (x0, x1, x2, x3, x4, x5, x6, ())) := funext fun x0 => funext fun x1 => funext fun x2 => funext fun x3 => funext fun x4 => funext fun x5 => funext fun x6 => l0_eq n K j x0 x1 x2 x3 x4 x5 x6
    rw [laws_FnOpenDoors.l0, ih]
    show _ = roundK cfg (pick (cal n)) (lam n) fin 0 b0 sin0 sout0 K (iter (roundK cfg (pick (cal n)) (lam n) fin 0 b0 sin0 sout0 K) j) (mkSt sin0 (x0, x1, x2, x3, x4, x5, x6, ()))
    kernel_rfl
theorem loops (n : Nat) : LoopsOk cfg (pick (cal n)) (lam n) fin (loopsOf cfg.blk code) := by
  have h : loopsOf cfg.blk code = [(0, b0), (2, b2)] := by kernel_rfl
  rw [h]
  intro p hp K st r hr
  simp only [List.mem_cons, List.not_mem_nil, or_false] at hp
  rcases hp with rfl | rfl
  · have hr' : (match absSt sin0 st with | some (x, _) => laws_FnOpenDoors.l0 n (fun y0 y1 y2 y3 => K (mkSt sout0 (y0, y1, y2, y3, ()))) n x.1 x.2.1 x.2.2.1 x.2.2.2.1 x.2.2.2.2.1 x.2.2.2.2.2.1 x.2.2.2.2.2.2.1 | none => none) = some r := hr
    split at hr'
    · rename_i x es hx
      rw [l0_eq] at hr'
      exact ⟨sin0, sout0, n, x, es, hx, hr'⟩
    · cases hr'
  · have hr' : (match absSt sin2 st with | some (x, _) => laws_FnOpenDoors.l2 n (fun y0 y1 => K (mkSt sout2 (y0, y1, ()))) n x.1 x.2.1 x.2.2.1 x.2.2.2.1 x.2.2.2.2.1 | none => none) = some r := hr
    split at hr'
    · rename_i x es hx
      rw [l2_eq] at hr'
      exact ⟨sin2, sout2, n, x, es, hx, hr'⟩
    · cases hr'
noncomputable def code8 : Code := spineAt 5 code
abbrev cut8 : Shape := [(0, .one (.row (.int .u8) false)), (3, .box true [.int .i64, .row (.t3) true, .row (.int .i64) true]), (4, .one (.int .i64)), (5, .one (.int .i64)), (6, .one (.int .i64)), (7, .one (.bool)), (8, .one (.bool))]
noncomputable def code12 : Code := spineAt 2 code8
abbrev cut12 : Shape := [(0, .one (.row (.int .u8) false)), (3, .box true [.int .i64, .row (.t3) true, .row (.int .i64) true]), (6, .one (.int .i64)), (7, .one (.bool)), (8, .one (.bool)), (11, .one (.row (.int .i64) true))]
noncomputable def code17 : Code := spineAt 3 code12
abbrev cut17 : Shape := [(0, .one (.row (.int .u8) false)), (3, .box true [.int .i64, .row (.t3) true, .row (.int .i64) true]), (6, .one (.int .i64)), (7, .one (.bool)), (8, .one (.bool)), (11, .one (.row (.int .i64) true))]
noncomputable def code22 : Code := spineAt 3 code17
abbrev cut22 : Shape := [(0, .one (.row (.int .u8) false)), (3, .box true [.int .i64, .row (.t3) true, .row (.int .i64) true]), (6, .one (.int .i64)), (7, .one (.bool)), (8, .one (.bool)), (11, .one (.row (.int .i64) true)), (22, .box true [.int .i64, .row (.t3) true, .row (.int .i64) true]), (23, .one (.int .i64)), (24, .one (.int .i64)), (25, .one (.row (.int .i64) true)), (26, .one (.bool))]
noncomputable def code27 : Code := spineAt 3 code22
abbrev cut27 : Shape := [(0, .one (.row (.int .u8) false)), (3, .box true [.int .i64, .row (.t3) true, .row (.int .i64) true]), (6, .one (.int .i64)), (7, .one (.bool)), (8, .one (.bool)), (11, .one (.row (.int .i64) true)), (22, .box true [.int .i64, .row (.t3) true, .row (.int .i64) true]), (23, .one (.int .i64)), (24, .one (.int .i64)), (25, .one (.row (.int .i64) true)), (26, .one (.bool))]
noncomputable def code32 : Code := spineAt 3 code27
abbrev cut32 : Shape := [(0, .one (.row (.int .u8) false)), (3, .box true [.int .i64, .row (.t3) true, .row (.int .i64) true]), (6, .one (.int .i64)), (7, .one (.bool)), (8, .one (.bool)), (11, .one (.row (.int .i64) true)), (22, .box true [.int .i64, .row (.t3) true, .row (.int .i64) true]), (23, .one (.int .i64)), (24, .one (.int .i64)), (25, .one (.row (.int .i64) true)), (26, .one (.bool))]
noncomputable def code37 : Code := spineAt 3 code32
abbrev cut37 : Shape := [(0, .one (.row (.int .u8) false)), (3, .box true [.int .i64, .row (.t3) true, .row (.int .i64) true]), (6, .one (.int .i64)), (7, .one (.bool)), (8, .one (.bool)), (11, .one (.row (.int .i64) true)), (22, .box true [.int .i64, .row (.t3) true, .row (.int .i64) true]), (23, .one (.int .i64)), (24, .one (.int .i64)), (25, .one (.row (.int .i64) true)), (26, .one (.bool)), (40, .one (.int .i64)), (41, .one (.row (.int .i64) true)), (42, .one (.bool))]
noncomputable def code41 : Code := spineAt 1 code37
abbrev cut41 : Shape := [(0, .one (.row (.int .u8) false)), (3, .box true [.int .i64, .row (.t3) true, .row (.int .i64) true]), (6, .one (.int .i64)), (7, .one (.bool)), (8, .one (.bool)), (11, .one (.row (.int .i64) true)), (22, .box true [.int .i64, .row (.t3) true, .row (.int .i64) true]), (23, .one (.int .i64)), (24, .one (.int .i64)), (25, .one (.row (.int .i64) true)), (26, .one (.bool))]
noncomputable def code45 : Code := spineAt 2 code41
abbrev cut45 : Shape := [(0, .one (.row (.int .u8) false)), (3, .box true [.int .i64, .row (.t3) true, .row (.int .i64) true]), (6, .one (.int .i64)), (7, .one (.bool)), (8, .one (.bool)), (11, .one (.row (.int .i64) true)), (22, .box true [.int .i64, .row (.t3) true, .row (.int .i64) true]), (23, .one (.int .i64)), (24, .one (.int .i64)), (25, .one (.row (.int .i64) true)), (26, .one (.bool)), (47, .one (.str)), (48, .one (.bool))]
noncomputable def code49 : Code := spineAt 1 code45
abbrev cut49 : Shape := [(0, .one (.row (.int .u8) false)), (6, .one (.int .i64)), (7, .one (.bool)), (8, .one (.bool)), (11, .one (.row (.int .i64) true)), (22, .box true [.int .i64, .row (.t3) true, .row (.int .i64) true]), (23, .one (.int .i64)), (24, .one (.int .i64)), (25, .one (.row (.int .i64) true)), (26, .one (.bool))]
noncomputable def code54 : Code := spineAt 3 code49
abbrev cut54 : Shape := [(6, .one (.int .i64)), (7, .one (.bool)), (8, .one (.bool)), (11, .one (.row (.int .i64) true)), (22, .box true [.int .i64, .row (.t3) true, .row (.int .i64) true]), (23, .one (.int .i64)), (24, .one (.int .i64)), (25, .one (.row (.int .i64) true)), (26, .one (.bool))]
noncomputable def code63 : Code := spineAt 1 code54
abbrev cut63 : Shape := [(6, .one (.int .i64)), (7, .one (.bool)), (8, .one (.bool)), (11, .one (.row (.int .i64) true))]
theorem c63_eq (n : Nat) (x0 : Int) (x1 : Bool) (x2 : Bool) (x3 : List (Int)) : laws_FnOpenDoors.c63 n x0 x1 x2 x3 = exK cfg (pick (cal n)) (lam n) fin code63 (fun _ _ => none) (mkSt cut63 (x0, x1, x2, x3, ())) fin := by
  kernel_rfl
theorem c54_seg (n : Nat) (x0 : Int) (x1 : Bool) (x2 : Bool) (x3 : List (Int)) (x4 : Int) (x5 : List (Int × Int × Int)) (x6 : List (Int)) (x7 : Int) (x8 : Int) (x9 : List (Int)) (x10 : Bool) : laws_FnOpenDoors.c54 n x0 x1 x2 x3 x4 x5 x6 x7 x8 x9 x10 = exSeg cfg (pick (cal n)) (lam n) fin (fun _ _ => none) cut63 (fun x => laws_FnOpenDoors.c63 n x.1 x.2.1 x.2.2.1 x.2.2.2.1) 0 code54 (mkSt cut54 (x0, x1, x2, x3, (x4, x5, x6, ()), x7, x8, x9, x10, ())) := by
  kernel_rfl
theorem c54_eq (n : Nat) (x0 : Int) (x1 : Bool) (x2 : Bool) (x3 : List (Int)) (x4 : Int) (x5 : List (Int × Int × Int)) (x6 : List (Int)) (x7 : Int) (x8 : Int) (x9 : List (Int)) (x10 : Bool) : laws_FnOpenDoors.c54 n x0 x1 x2 x3 x4 x5 x6 x7 x8 x9 x10 = exK cfg (pick (cal n)) (lam n) fin code54 (fun _ _ => none) (mkSt cut54 (x0, x1, x2, x3, (x4, x5, x6, ()), x7, x8, x9, x10, ())) fin := 
  (c54_seg n x0 x1 x2 x3 x4 x5 x6 x7 x8 x9 x10).trans (seg_eq 0 (by kernel_rfl) rfl (by kernel_rfl) (fun x => c63_eq n x.1 x.2.1 x.2.2.1 x.2.2.2.1))
theorem c49_seg (n : Nat) (x0 : List (Int)) (x1 : Int) (x2 : Bool) (x3 : Bool) (x4 : List (Int)) (x5 : Int) (x6 : List (Int × Int × Int)) (x7 : List (Int)) (x8 : Int) (x9 : Int) (x10 : List (Int)) (x11 : Bool) : laws_FnOpenDoors.c49 n x0 x1 x2 x3 x4 x5 x6 x7 x8 x9 x10 x11 = exSeg cfg (pick (cal n)) (lam n) fin (fun _ _ => none) cut54 (fun x => laws_FnOpenDoors.c54 n x.1 x.2.1 x.2.2.1 x.2.2.2.1 x.2.2.2.2.1.1 x.2.2.2.2.1.2.1 x.2.2.2.2.1.2.2.1 x.2.2.2.2.2.1 x.2.2.2.2.2.2.1 x.2.2.2.2.2.2.2.1 x.2.2.2.2.2.2.2.2.1) 2 code49 (mkSt cut49 (x0, x1, x2, x3, x4, (x5, x6, x7, ()), x8, x9, x10, x11, ())) := by
  kernel_rfl
theorem c49_eq (n : Nat) (x0 : List (Int)) (x1 : Int) (x2 : Bool) (x3 : Bool) (x4 : List (Int)) (x5 : Int) (x6 : List (Int × Int × Int)) (x7 : List (Int)) (x8 : Int) (x9 : Int) (x10 : List (Int)) (x11 : Bool) : laws_FnOpenDoors.c49 n x0 x1 x2 x3 x4 x5 x6 x7 x8 x9 x10 x11 = exK cfg (pick (cal n)) (lam n) fin code49 (fun _ _ => none) (mkSt cut49 (x0, x1, x2, x3, x4, (x5, x6, x7, ()), x8, x9, x10, x11, ())) fin := 
  (c49_seg n x0 x1 x2 x3 x4 x5 x6 x7 x8 x9 x10 x11).trans (seg_eq 2 (by kernel_rfl) rfl (by kernel_rfl) (fun x => c54_eq n x.1 x.2.1 x.2.2.1 x.2.2.2.1 x.2.2.2.2.1.1 x.2.2.2.2.1.2.1 x.2.2.2.2.1.2.2.1 x.2.2.2.2.2.1 x.2.2.2.2.2.2.1 x.2.2.2.2.2.2.2.1 x.2.2.2.2.2.2.2.2.1))
theorem c45_seg (n : Nat) (x0 : List (Int)) (x1 : Int) (x2 : List (Int × Int × Int)) (x3 : List (Int)) (x4 : Int) (x5 : Bool) (x6 : Bool) (x7 : List (Int)) (x8 : Int) (x9 : List (Int × Int × Int)) (x10 : List (Int)) (x11 : Int) (x12 : Int) (x13 : List (Int)) (x14 : Bool) (x15 : ByteArray) (x16 : Bool) : laws_FnOpenDoors.c45 n x0 x1 x2 x3 x4 x5 x6 x7 x8 x9 x10 x11 x12 x13 x14 x15 x16 = exSeg cfg (pick (cal n)) (lam n) fin (fun _ _ => none) cut49 (fun x => laws_FnOpenDoors.c49 n x.1 x.2.1 x.2.2.1 x.2.2.2.1 x.2.2.2.2.1 x.2.2.2.2.2.1.1 x.2.2.2.2.2.1.2.1 x.2.2.2.2.2.1.2.2.1 x.2.2.2.2.2.2.1 x.2.2.2.2.2.2.2.1 x.2.2.2.2.2.2.2.2.1 x.2.2.2.2.2.2.2.2.2.1) 0 code45 (mkSt cut45 (x0, (x1, x2, x3, ()), x4, x5, x6, x7, (x8, x9, x10, ()), x11, x12, x13, x14, x15, x16, ())) := by
  kernel_rfl
theorem c45_eq (n : Nat) (x0 : List (Int)) (x1 : Int) (x2 : List (Int × Int × Int)) (x3 : List (Int)) (x4 : Int) (x5 : Bool) (x6 : Bool) (x7 : List (Int)) (x8 : Int) (x9 : List (Int × Int × Int)) (x10 : List (Int)) (x11 : Int) (x12 : Int) (x13 : List (Int)) (x14 : Bool) (x15 : ByteArray) (x16 : Bool) : laws_FnOpenDoors.c45 n x0 x1 x2 x3 x4 x5 x6 x7 x8 x9 x10 x11 x12 x13 x14 x15 x16 = exK cfg (pick (cal n)) (lam n) fin code45 (fun _ _ => none) (mkSt cut45 (x0, (x1, x2, x3, ()), x4, x5, x6, x7, (x8, x9, x10, ()), x11, x12, x13, x14, x15, x16, ())) fin := 
  (c45_seg n x0 x1 x2 x3 x4 x5 x6 x7 x8 x9 x10 x11 x12 x13 x14 x15 x16).trans (seg_eq 0 (by kernel_rfl) rfl (by kernel_rfl) (fun x => c49_eq n x.1 x.2.1 x.2.2.1 x.2.2.2.1 x.2.2.2.2.1 x.2.2.2.2.2.1.1 x.2.2.2.2.2.1.2.1 x.2.2.2.2.2.1.2.2.1 x.2.2.2.2.2.2.1 x.2.2.2.2.2.2.2.1 x.2.2.2.2.2.2.2.2.1 x.2.2.2.2.2.2.2.2.2.1))
theorem c41_seg (n : Nat) (x0 : List (Int)) (x1 : Int) (x2 : List (Int × Int × Int)) (x3 : List (Int)) (x4 : Int) (x5 : Bool) (x6 : Bool) (x7 : List (Int)) (x8 : Int) (x9 : List (Int × Int × Int)) (x10 : List (Int)) (x11 : Int) (x12 : Int) (x13 : List (Int)) (x14 : Bool) : laws_FnOpenDoors.c41 n x0 x1 x2 x3 x4 x5 x6 x7 x8 x9 x10 x11 x12 x13 x14 = exSeg cfg (pick (cal n)) (lam n) fin (fun _ _ => none) cut45 (fun x => laws_FnOpenDoors.c45 n x.1 x.2.1.1 x.2.1.2.1 x.2.1.2.2.1 x.2.2.1 x.2.2.2.1 x.2.2.2.2.1 x.2.2.2.2.2.1 x.2.2.2.2.2.2.1.1 x.2.2.2.2.2.2.1.2.1 x.2.2.2.2.2.2.1.2.2.1 x.2.2.2.2.2.2.2.1 x.2.2.2.2.2.2.2.2.1 x.2.2.2.2.2.2.2.2.2.1 x.2.2.2.2.2.2.2.2.2.2.1 x.2.2.2.2.2.2.2.2.2.2.2.1 x.2.2.2.2.2.2.2.2.2.2.2.2.1) 1 code41 (mkSt cut41 (x0, (x1, x2, x3, ()), x4, x5, x6, x7, (x8, x9, x10, ()), x11, x12, x13, x14, ())) := by
  kernel_rfl
theorem c41_eq (n : Nat) (x0 : List (Int)) (x1 : Int) (x2 : List (Int × Int × Int)) (x3 : List (Int)) (x4 : Int) (x5 : Bool) (x6 : Bool) (x7 : List (Int)) (x8 : Int) (x9 : List (Int × Int × Int)) (x10 : List (Int)) (x11 : Int) (x12 : Int) (x13 : List (Int)) (x14 : Bool) : laws_FnOpenDoors.c41 n x0 x1 x2 x3 x4 x5 x6 x7 x8 x9 x10 x11 x12 x13 x14 = exK cfg (pick (cal n)) (lam n) fin code41 (fun _ _ => none) (mkSt cut41 (x0, (x1, x2, x3, ()), x4, x5, x6, x7, (x8, x9, x10, ()), x11, x12, x13, x14, ())) fin := 
  (c41_seg n x0 x1 x2 x3 x4 x5 x6 x7 x8 x9 x10 x11 x12 x13 x14).trans (seg_eq 1 (by kernel_rfl) rfl (by kernel_rfl) (fun x => c45_eq n x.1 x.2.1.1 x.2.1.2.1 x.2.1.2.2.1 x.2.2.1 x.2.2.2.1 x.2.2.2.2.1 x.2.2.2.2.2.1 x.2.2.2.2.2.2.1.1 x.2.2.2.2.2.2.1.2.1 x.2.2.2.2.2.2.1.2.2.1 x.2.2.2.2.2.2.2.1 x.2.2.2.2.2.2.2.2.1 x.2.2.2.2.2.2.2.2.2.1 x.2.2.2.2.2.2.2.2.2.2.1 x.2.2.2.2.2.2.2.2.2.2.2.1 x.2.2.2.2.2.2.2.2.2.2.2.2.1))
theorem c37_seg (n : Nat) (x0 : List (Int)) (x1 : Int) (x2 : List (Int × Int × Int)) (x3 : List (Int)) (x4 : Int) (x5 : Bool) (x6 : Bool) (x7 : List (Int)) (x8 : Int) (x9 : List (Int × Int × Int)) (x10 : List (Int)) (x11 : Int) (x12 : Int) (x13 : List (Int)) (x14 : Bool) (x15 : Int) (x16 : List (Int)) (x17 : Bool) : laws_FnOpenDoors.c37 n x0 x1 x2 x3 x4 x5 x6 x7 x8 x9 x10 x11 x12 x13 x14 x15 x16 x17 = exSeg cfg (pick (cal n)) (lam n) fin (fun _ _ => none) cut41 (fun x => laws_FnOpenDoors.c41 n x.1 x.2.1.1 x.2.1.2.1 x.2.1.2.2.1 x.2.2.1 x.2.2.2.1 x.2.2.2.2.1 x.2.2.2.2.2.1 x.2.2.2.2.2.2.1.1 x.2.2.2.2.2.2.1.2.1 x.2.2.2.2.2.2.1.2.2.1 x.2.2.2.2.2.2.2.1 x.2.2.2.2.2.2.2.2.1 x.2.2.2.2.2.2.2.2.2.1 x.2.2.2.2.2.2.2.2.2.2.1) 0 code37 (mkSt cut37 (x0, (x1, x2, x3, ()), x4, x5, x6, x7, (x8, x9, x10, ()), x11, x12, x13, x14, x15, x16, x17, ())) := by
  kernel_rfl
theorem c37_eq (n : Nat) (x0 : List (Int)) (x1 : Int) (x2 : List (Int × Int × Int)) (x3 : List (Int)) (x4 : Int) (x5 : Bool) (x6 : Bool) (x7 : List (Int)) (x8 : Int) (x9 : List (Int × Int × Int)) (x10 : List (Int)) (x11 : Int) (x12 : Int) (x13 : List (Int)) (x14 : Bool) (x15 : Int) (x16 : List (Int)) (x17 : Bool) : laws_FnOpenDoors.c37 n x0 x1 x2 x3 x4 x5 x6 x7 x8 x9 x10 x11 x12 x13 x14 x15 x16 x17 = exK cfg (pick (cal n)) (lam n) fin code37 (fun _ _ => none) (mkSt cut37 (x0, (x1, x2, x3, ()), x4, x5, x6, x7, (x8, x9, x10, ()), x11, x12, x13, x14, x15, x16, x17, ())) fin := 
  (c37_seg n x0 x1 x2 x3 x4 x5 x6 x7 x8 x9 x10 x11 x12 x13 x14 x15 x16 x17).trans (seg_eq 0 (by kernel_rfl) rfl (by kernel_rfl) (fun x => c41_eq n x.1 x.2.1.1 x.2.1.2.1 x.2.1.2.2.1 x.2.2.1 x.2.2.2.1 x.2.2.2.2.1 x.2.2.2.2.2.1 x.2.2.2.2.2.2.1.1 x.2.2.2.2.2.2.1.2.1 x.2.2.2.2.2.2.1.2.2.1 x.2.2.2.2.2.2.2.1 x.2.2.2.2.2.2.2.2.1 x.2.2.2.2.2.2.2.2.2.1 x.2.2.2.2.2.2.2.2.2.2.1))
theorem c32_seg (n : Nat) (x0 : List (Int)) (x1 : Int) (x2 : List (Int × Int × Int)) (x3 : List (Int)) (x4 : Int) (x5 : Bool) (x6 : Bool) (x7 : List (Int)) (x8 : Int) (x9 : List (Int × Int × Int)) (x10 : List (Int)) (x11 : Int) (x12 : Int) (x13 : List (Int)) (x14 : Bool) : laws_FnOpenDoors.c32 n x0 x1 x2 x3 x4 x5 x6 x7 x8 x9 x10 x11 x12 x13 x14 = exSeg cfg (pick (cal n)) (lam n) fin (fun _ _ => none) cut37 (fun x => laws_FnOpenDoors.c37 n x.1 x.2.1.1 x.2.1.2.1 x.2.1.2.2.1 x.2.2.1 x.2.2.2.1 x.2.2.2.2.1 x.2.2.2.2.2.1 x.2.2.2.2.2.2.1.1 x.2.2.2.2.2.2.1.2.1 x.2.2.2.2.2.2.1.2.2.1 x.2.2.2.2.2.2.2.1 x.2.2.2.2.2.2.2.2.1 x.2.2.2.2.2.2.2.2.2.1 x.2.2.2.2.2.2.2.2.2.2.1 x.2.2.2.2.2.2.2.2.2.2.2.1 x.2.2.2.2.2.2.2.2.2.2.2.2.1 x.2.2.2.2.2.2.2.2.2.2.2.2.2.1) 2 code32 (mkSt cut32 (x0, (x1, x2, x3, ()), x4, x5, x6, x7, (x8, x9, x10, ()), x11, x12, x13, x14, ())) := by
  kernel_rfl
theorem c32_eq (n : Nat) (x0 : List (Int)) (x1 : Int) (x2 : List (Int × Int × Int)) (x3 : List (Int)) (x4 : Int) (x5 : Bool) (x6 : Bool) (x7 : List (Int)) (x8 : Int) (x9 : List (Int × Int × Int)) (x10 : List (Int)) (x11 : Int) (x12 : Int) (x13 : List (Int)) (x14 : Bool) : laws_FnOpenDoors.c32 n x0 x1 x2 x3 x4 x5 x6 x7 x8 x9 x10 x11 x12 x13 x14 = exK cfg (pick (cal n)) (lam n) fin code32 (fun _ _ => none) (mkSt cut32 (x0, (x1, x2, x3, ()), x4, x5, x6, x7, (x8, x9, x10, ()), x11, x12, x13, x14, ())) fin := 
  (c32_seg n x0 x1 x2 x3 x4 x5 x6 x7 x8 x9 x10 x11 x12 x13 x14).trans (seg_eq 2 (by kernel_rfl) rfl (by kernel_rfl) (fun x => c37_eq n x.1 x.2.1.1 x.2.1.2.1 x.2.1.2.2.1 x.2.2.1 x.2.2.2.1 x.2.2.2.2.1 x.2.2.2.2.2.1 x.2.2.2.2.2.2.1.1 x.2.2.2.2.2.2.1.2.1 x.2.2.2.2.2.2.1.2.2.1 x.2.2.2.2.2.2.2.1 x.2.2.2.2.2.2.2.2.1 x.2.2.2.2.2.2.2.2.2.1 x.2.2.2.2.2.2.2.2.2.2.1 x.2.2.2.2.2.2.2.2.2.2.2.1 x.2.2.2.2.2.2.2.2.2.2.2.2.1 x.2.2.2.2.2.2.2.2.2.2.2.2.2.1))
theorem c27_seg (n : Nat) (x0 : List (Int)) (x1 : Int) (x2 : List (Int × Int × Int)) (x3 : List (Int)) (x4 : Int) (x5 : Bool) (x6 : Bool) (x7 : List (Int)) (x8 : Int) (x9 : List (Int × Int × Int)) (x10 : List (Int)) (x11 : Int) (x12 : Int) (x13 : List (Int)) (x14 : Bool) : laws_FnOpenDoors.c27 n x0 x1 x2 x3 x4 x5 x6 x7 x8 x9 x10 x11 x12 x13 x14 = exSeg cfg (pick (cal n)) (lam n) fin (fun _ _ => none) cut32 (fun x => laws_FnOpenDoors.c32 n x.1 x.2.1.1 x.2.1.2.1 x.2.1.2.2.1 x.2.2.1 x.2.2.2.1 x.2.2.2.2.1 x.2.2.2.2.2.1 x.2.2.2.2.2.2.1.1 x.2.2.2.2.2.2.1.2.1 x.2.2.2.2.2.2.1.2.2.1 x.2.2.2.2.2.2.2.1 x.2.2.2.2.2.2.2.2.1 x.2.2.2.2.2.2.2.2.2.1 x.2.2.2.2.2.2.2.2.2.2.1) 2 code27 (mkSt cut27 (x0, (x1, x2, x3, ()), x4, x5, x6, x7, (x8, x9, x10, ()), x11, x12, x13, x14, ())) := by
  kernel_rfl
theorem c27_eq (n : Nat) (x0 : List (Int)) (x1 : Int) (x2 : List (Int × Int × Int)) (x3 : List (Int)) (x4 : Int) (x5 : Bool) (x6 : Bool) (x7 : List (Int)) (x8 : Int) (x9 : List (Int × Int × Int)) (x10 : List (Int)) (x11 : Int) (x12 : Int) (x13 : List (Int)) (x14 : Bool) : laws_FnOpenDoors.c27 n x0 x1 x2 x3 x4 x5 x6 x7 x8 x9 x10 x11 x12 x13 x14 = exK cfg (pick (cal n)) (lam n) fin code27 (fun _ _ => none) (mkSt cut27 (x0, (x1, x2, x3, ()), x4, x5, x6, x7, (x8, x9, x10, ()), x11, x12, x13, x14, ())) fin := 
  (c27_seg n x0 x1 x2 x3 x4 x5 x6 x7 x8 x9 x10 x11 x12 x13 x14).trans (seg_eq 2 (by kernel_rfl) rfl (by kernel_rfl) (fun x => c32_eq n x.1 x.2.1.1 x.2.1.2.1 x.2.1.2.2.1 x.2.2.1 x.2.2.2.1 x.2.2.2.2.1 x.2.2.2.2.2.1 x.2.2.2.2.2.2.1.1 x.2.2.2.2.2.2.1.2.1 x.2.2.2.2.2.2.1.2.2.1 x.2.2.2.2.2.2.2.1 x.2.2.2.2.2.2.2.2.1 x.2.2.2.2.2.2.2.2.2.1 x.2.2.2.2.2.2.2.2.2.2.1))
theorem c22_seg (n : Nat) (x0 : List (Int)) (x1 : Int) (x2 : List (Int × Int × Int)) (x3 : List (Int)) (x4 : Int) (x5 : Bool) (x6 : Bool) (x7 : List (Int)) (x8 : Int) (x9 : List (Int × Int × Int)) (x10 : List (Int)) (x11 : Int) (x12 : Int) (x13 : List (Int)) (x14 : Bool) : laws_FnOpenDoors.c22 n x0 x1 x2 x3 x4 x5 x6 x7 x8 x9 x10 x11 x12 x13 x14 = exSeg cfg (pick (cal n)) (lam n) fin (fun _ _ => none) cut27 (fun x => laws_FnOpenDoors.c27 n x.1 x.2.1.1 x.2.1.2.1 x.2.1.2.2.1 x.2.2.1 x.2.2.2.1 x.2.2.2.2.1 x.2.2.2.2.2.1 x.2.2.2.2.2.2.1.1 x.2.2.2.2.2.2.1.2.1 x.2.2.2.2.2.2.1.2.2.1 x.2.2.2.2.2.2.2.1 x.2.2.2.2.2.2.2.2.1 x.2.2.2.2.2.2.2.2.2.1 x.2.2.2.2.2.2.2.2.2.2.1) 2 code22 (mkSt cut22 (x0, (x1, x2, x3, ()), x4, x5, x6, x7, (x8, x9, x10, ()), x11, x12, x13, x14, ())) := by
  kernel_rfl
theorem c22_eq (n : Nat) (x0 : List (Int)) (x1 : Int) (x2 : List (Int × Int × Int)) (x3 : List (Int)) (x4 : Int) (x5 : Bool) (x6 : Bool) (x7 : List (Int)) (x8 : Int) (x9 : List (Int × Int × Int)) (x10 : List (Int)) (x11 : Int) (x12 : Int) (x13 : List (Int)) (x14 : Bool) : laws_FnOpenDoors.c22 n x0 x1 x2 x3 x4 x5 x6 x7 x8 x9 x10 x11 x12 x13 x14 = exK cfg (pick (cal n)) (lam n) fin code22 (fun _ _ => none) (mkSt cut22 (x0, (x1, x2, x3, ()), x4, x5, x6, x7, (x8, x9, x10, ()), x11, x12, x13, x14, ())) fin := 
  (c22_seg n x0 x1 x2 x3 x4 x5 x6 x7 x8 x9 x10 x11 x12 x13 x14).trans (seg_eq 2 (by kernel_rfl) rfl (by kernel_rfl) (fun x => c27_eq n x.1 x.2.1.1 x.2.1.2.1 x.2.1.2.2.1 x.2.2.1 x.2.2.2.1 x.2.2.2.2.1 x.2.2.2.2.2.1 x.2.2.2.2.2.2.1.1 x.2.2.2.2.2.2.1.2.1 x.2.2.2.2.2.2.1.2.2.1 x.2.2.2.2.2.2.2.1 x.2.2.2.2.2.2.2.2.1 x.2.2.2.2.2.2.2.2.2.1 x.2.2.2.2.2.2.2.2.2.2.1))
theorem c17_seg (n : Nat) (x0 : List (Int)) (x1 : Int) (x2 : List (Int × Int × Int)) (x3 : List (Int)) (x4 : Int) (x5 : Bool) (x6 : Bool) (x7 : List (Int)) : laws_FnOpenDoors.c17 n x0 x1 x2 x3 x4 x5 x6 x7 = exSeg cfg (pick (cal n)) (lam n) fin (fun _ _ => none) cut22 (fun x => laws_FnOpenDoors.c22 n x.1 x.2.1.1 x.2.1.2.1 x.2.1.2.2.1 x.2.2.1 x.2.2.2.1 x.2.2.2.2.1 x.2.2.2.2.2.1 x.2.2.2.2.2.2.1.1 x.2.2.2.2.2.2.1.2.1 x.2.2.2.2.2.2.1.2.2.1 x.2.2.2.2.2.2.2.1 x.2.2.2.2.2.2.2.2.1 x.2.2.2.2.2.2.2.2.2.1 x.2.2.2.2.2.2.2.2.2.2.1) 2 code17 (mkSt cut17 (x0, (x1, x2, x3, ()), x4, x5, x6, x7, ())) := by
  kernel_rfl
theorem c17_eq (n : Nat) (x0 : List (Int)) (x1 : Int) (x2 : List (Int × Int × Int)) (x3 : List (Int)) (x4 : Int) (x5 : Bool) (x6 : Bool) (x7 : List (Int)) : laws_FnOpenDoors.c17 n x0 x1 x2 x3 x4 x5 x6 x7 = exK cfg (pick (cal n)) (lam n) fin code17 (fun _ _ => none) (mkSt cut17 (x0, (x1, x2, x3, ()), x4, x5, x6, x7, ())) fin := 
  (c17_seg n x0 x1 x2 x3 x4 x5 x6 x7).trans (seg_eq 2 (by kernel_rfl) rfl (by kernel_rfl) (fun x => c22_eq n x.1 x.2.1.1 x.2.1.2.1 x.2.1.2.2.1 x.2.2.1 x.2.2.2.1 x.2.2.2.2.1 x.2.2.2.2.2.1 x.2.2.2.2.2.2.1.1 x.2.2.2.2.2.2.1.2.1 x.2.2.2.2.2.2.1.2.2.1 x.2.2.2.2.2.2.2.1 x.2.2.2.2.2.2.2.2.1 x.2.2.2.2.2.2.2.2.2.1 x.2.2.2.2.2.2.2.2.2.2.1))
theorem c12_seg (n : Nat) (x0 : List (Int)) (x1 : Int) (x2 : List (Int × Int × Int)) (x3 : List (Int)) (x4 : Int) (x5 : Bool) (x6 : Bool) (x7 : List (Int)) : laws_FnOpenDoors.c12 n x0 x1 x2 x3 x4 x5 x6 x7 = exSeg cfg (pick (cal n)) (lam n) fin (fun _ _ => none) cut17 (fun x => laws_FnOpenDoors.c17 n x.1 x.2.1.1 x.2.1.2.1 x.2.1.2.2.1 x.2.2.1 x.2.2.2.1 x.2.2.2.2.1 x.2.2.2.2.2.1) 2 code12 (mkSt cut12 (x0, (x1, x2, x3, ()), x4, x5, x6, x7, ())) := by
  kernel_rfl
theorem c12_eq (n : Nat) (x0 : List (Int)) (x1 : Int) (x2 : List (Int × Int × Int)) (x3 : List (Int)) (x4 : Int) (x5 : Bool) (x6 : Bool) (x7 : List (Int)) : laws_FnOpenDoors.c12 n x0 x1 x2 x3 x4 x5 x6 x7 = exK cfg (pick (cal n)) (lam n) fin code12 (fun _ _ => none) (mkSt cut12 (x0, (x1, x2, x3, ()), x4, x5, x6, x7, ())) fin := 
  (c12_seg n x0 x1 x2 x3 x4 x5 x6 x7).trans (seg_eq 2 (by kernel_rfl) rfl (by kernel_rfl) (fun x => c17_eq n x.1 x.2.1.1 x.2.1.2.1 x.2.1.2.2.1 x.2.2.1 x.2.2.2.1 x.2.2.2.2.1 x.2.2.2.2.2.1))
theorem c8_seg (n : Nat) (x0 : List (Int)) (x1 : Int) (x2 : List (Int × Int × Int)) (x3 : List (Int)) (x4 : Int) (x5 : Int) (x6 : Int) (x7 : Bool) (x8 : Bool) : laws_FnOpenDoors.c8 n x0 x1 x2 x3 x4 x5 x6 x7 x8 = exSeg cfg (pick (cal n)) (lam n) fin (fun _ _ => none) cut12 (fun x => laws_FnOpenDoors.c12 n x.1 x.2.1.1 x.2.1.2.1 x.2.1.2.2.1 x.2.2.1 x.2.2.2.1 x.2.2.2.2.1 x.2.2.2.2.2.1) 1 code8 (mkSt cut8 (x0, (x1, x2, x3, ()), x4, x5, x6, x7, x8, ())) := by
  kernel_rfl
theorem c8_eq (n : Nat) (x0 : List (Int)) (x1 : Int) (x2 : List (Int × Int × Int)) (x3 : List (Int)) (x4 : Int) (x5 : Int) (x6 : Int) (x7 : Bool) (x8 : Bool) : laws_FnOpenDoors.c8 n x0 x1 x2 x3 x4 x5 x6 x7 x8 = exK cfg (pick (cal n)) (lam n) fin code8 (fun _ _ => none) (mkSt cut8 (x0, (x1, x2, x3, ()), x4, x5, x6, x7, x8, ())) fin := 
  (c8_seg n x0 x1 x2 x3 x4 x5 x6 x7 x8).trans (seg_eq 1 (by kernel_rfl) rfl (by kernel_rfl) (fun x => c12_eq n x.1 x.2.1.1 x.2.1.2.1 x.2.1.2.2.1 x.2.2.1 x.2.2.2.1 x.2.2.2.2.1 x.2.2.2.2.2.1))
theorem F_seg (n : Nat) (x0 : List (Int)) : laws_FnOpenDoors.F n x0 = exSeg cfg (pick (cal n)) (lam n) fin (fun _ _ => none) cut8 (fun x => laws_FnOpenDoors.c8 n x.1 x.2.1.1 x.2.1.2.1 x.2.1.2.2.1 x.2.2.1 x.2.2.2.1 x.2.2.2.2.1 x.2.2.2.2.2.1 x.2.2.2.2.2.2.1) 4 code (mkSt shp (x0, ())) := by
  kernel_rfl
theorem F_eq (n : Nat) (x0 : List (Int)) : laws_FnOpenDoors.F n x0 = exK cfg (pick (cal n)) (lam n) fin code (fun _ _ => none) (mkSt shp (x0, ())) fin :=
  (F_seg n x0).trans (seg_eq 4 (by kernel_rfl) rfl (by kernel_rfl) (fun x => c8_eq n x.1 x.2.1.1 x.2.1.2.1 x.2.1.2.2.1 x.2.2.1 x.2.2.2.1 x.2.2.2.2.1 x.2.2.2.2.2.1 x.2.2.2.2.2.2.1))
def pfn (n : Nat) : PFn := mkFn shp outs (fun x => laws_FnOpenDoors.F n x.1) out
theorem ok (n : Nat) : (pfn n).Ok Go.Proofs.Tryz.prog 3 :=
  mkFn_ok (fn := Go.Proofs.Tryz.f3) (code := code) Go.Proofs.Tryz.func3 (by kernel_rfl) (by decide) (C := cfg) (Φ := pick (cal n)) (Λ := lam n) (into := into) hT (cal_ok n) (by kernel_rfl) rfl (by decide) rfl (fun _ => rfl) (loops n)
    (fun x r h => by
      have e := F_eq n x.1
      exact e.symm.trans h)
end laws_FnOpenDoors
end
end
end Go.Pf
