/- The Go functions of this seat do what their pure functions tell; printed by a program of mine (mach.py). -/
import Derived.Test.YtoppnaekfjjaaaaGreatMach1
set_option linter.unusedVariables false
set_option autoImplicit false
set_option maxRecDepth 100000
set_option maxHeartbeats 4000000
namespace Go.Pf
open Go Go.Fx
noncomputable section

/-! ### loop.example/g01158/spec.RepaintMaze -/
section
namespace spec_RepaintMaze
noncomputable def code : Code := (Go.Proofs.Tryz.f13.body).getD .skip
abbrev shp : Shape := [(0, .agg [.int .i64, .row (.t3) false, .row (.int .i64) false]), (1, .one (.row (.int .i64) false))]
abbrev outs : List KD := [.agg [.int .i64, .row (.t3) true, .row (.int .i64) true], .one (.bool)]
abbrev R : Type := Int × (List (Int × Int × Int)) × (List (Int)) × Bool
def out : R → denL outs := fun r => ((r.1, r.2.1, r.2.2.1, ()), r.2.2.2, ())
def into : denL outs → R := fun y => (y.1.1, y.1.2.1, y.1.2.2.1, y.2.1)
def cfg : Cfg := ⟨ty, 73, [], fun i => match Nat.beq i 0 with | true => .loop | false => match Nat.beq i 2 with | true => .loop | false => .plain, fun i => match Nat.beq i 3 with | true => some [(1, .one (.row (.int .i64) false)), (2, .box true [.int .i64, .row (.t3) false, .row (.int .i64) false]), (4, .box true [.int .i64, .row (.t3) true, .row (.int .i64) true])] | false => none⟩
def cal (n : Nat) : List (Nat × PFn) := [(29, spec_l2Maze.pfn n), (37, spec_l2Order.pfn n), (38, spec_l2Put.pfn n), (39, spec_l2Painted.pfn n)]
theorem cal_ok (n : Nat) : ∀ g, (pick (cal n) g).Ok Go.Proofs.Tryz.prog g := pick_ok (by
  intro p hp
  simp only [cal, List.mem_cons, List.not_mem_nil, or_false] at hp
  rcases hp with rfl | rfl | rfl | rfl
  · exact spec_l2Maze.ok n
  · exact spec_l2Order.ok n
  · exact spec_l2Put.ok n
  · exact spec_l2Painted.ok n)
def fin : St → Option R := finOf ty [.cell 4 27, .tmp 5] outs into
abbrev sin0 : Shape := [(1, .one (.row (.int .i64) false)), (2, .box true [.int .i64, .row (.t3) false, .row (.int .i64) false]), (4, .box true [.int .i64, .row (.t3) true, .row (.int .i64) true]), (6, .box true [.int .i64, .row (.t3) true, .row (.int .i64) true]), (7, .one (.int .i64))]
abbrev sout0 : Shape := [(1, .one (.row (.int .i64) false)), (2, .box true [.int .i64, .row (.t3) false, .row (.int .i64) false]), (4, .box true [.int .i64, .row (.t3) true, .row (.int .i64) true]), (6, .box true [.int .i64, .row (.t3) true, .row (.int .i64) true])]
abbrev sin2 : Shape := [(1, .one (.row (.int .i64) false)), (2, .box true [.int .i64, .row (.t3) false, .row (.int .i64) false]), (4, .box true [.int .i64, .row (.t3) true, .row (.int .i64) true]), (6, .box true [.int .i64, .row (.t3) true, .row (.int .i64) true]), (8, .one (.int .i64))]
abbrev sout2 : Shape := [(4, .box true [.int .i64, .row (.t3) true, .row (.int .i64) true]), (6, .box true [.int .i64, .row (.t3) true, .row (.int .i64) true])]
def lam (n : Nat) : Nat → (St → Option R) → St → Option R := fun i => match Nat.beq i 0 with | true => (fun K st => match absSt sin0 st with | some (x, _) => spec_RepaintMaze.l0 n (fun y0 y1 y2 y3 y4 y5 y6 y7 y8 y9 => K (mkSt sout0 (y0, (y1, y2, y3, ()), (y4, y5, y6, ()), (y7, y8, y9, ()), ()))) n x.1 x.2.1.1 x.2.1.2.1 x.2.1.2.2.1 x.2.2.1.1 x.2.2.1.2.1 x.2.2.1.2.2.1 x.2.2.2.1.1 x.2.2.2.1.2.1 x.2.2.2.1.2.2.1 x.2.2.2.2.1 | none => none) | false => match Nat.beq i 2 with | true => (fun K st => match absSt sin2 st with | some (x, _) => spec_RepaintMaze.l2 n (fun y0 y1 y2 y3 y4 y5 => K (mkSt sout2 ((y0, y1, y2, ()), (y3, y4, y5, ()), ()))) n x.1 x.2.1.1 x.2.1.2.1 x.2.1.2.2.1 x.2.2.1.1 x.2.2.1.2.1 x.2.2.1.2.2.1 x.2.2.2.1.1 x.2.2.2.1.2.1 x.2.2.2.1.2.2.1 x.2.2.2.2.1 | none => none) | false => fun _ _ => none
noncomputable def lps : List (Nat × Code) := loopsOf cfg.blk code
noncomputable def b0 : Code := bodyOf lps 0
theorem l0_eq (n : Nat) (K : St → Option R) : ∀ (j : Nat) (x0 : List (Int)) (x1 : Int) (x2 : List (Int × Int × Int)) (x3 : List (Int)) (x4 : Int) (x5 : List (Int × Int × Int)) (x6 : List (Int)) (x7 : Int) (x8 : List (Int × Int × Int)) (x9 : List (Int)) (x10 : Int), spec_RepaintMaze.l0 n (fun y0 y1 y2 y3 y4 y5 y6 y7 y8 y9 => K (mkSt sout0 (y0, (y1, y2, y3, ()), (y4, y5, y6, ()), (y7, y8, y9, ()), ()))) j x0 x1 x2 x3 x4 x5 x6 x7 x8 x9 x10 = iter (roundK cfg (pick (cal n)) (lam n) fin 0 b0 sin0 sout0 K) j (mkSt sin0 (x0, (x1, x2, x3, ()), (x4, x5, x6, ()), (x7, x8, x9, ()), x10, ()))
  | 0, _, _, _, _, _, _, _, _, _, _, _ => rfl
  | j + 1, x0, x1, x2, x3, x4, x5, x6, x7, x8, x9, x10 => by
    have ih : spec_RepaintMaze.l0 n (fun y0 y1 y2 y3 y4 y5 y6 y7 y8 y9 => K (mkSt sout0 (y0, (y1, y2, y3, ()), (y4, y5, y6, ()), (y7, y8, y9, ()), ()))) j = fun x0 x1 x2 x3 x4 x5 x6 x7 x8 x9 x10 => iter (roundK cfg (pick (cal n)) (lam n) fin 0 b0 sin0 sout0 K) j (mkSt sin0 (x0, (x1, x2, x3, ()), (x4, x5, x6, ()), (x7, x8, x9, ()), x10, ())) := funext fun x0 => funext fun x1 => funext fun x2 => funext fun x3 => funext fun x4 => funext fun x5 => funext fun x6 => funext fun x7 => funext fun x8 => funext fun x9 => funext fun x10 => l0_eq n K j x0 x1 x2 x3 x4 x5 x6 x7 x8 x9 x10
    rw [spec_RepaintMaze.l0, ih]
    show _ = roundK cfg (pick (cal n)) (lam n) fin 0 b0 sin0 sout0 K (iter (roundK cfg (pick (cal n)) (lam n) fin 0 b0 sin0 sout0 K) j) (mkSt sin0 (x0, (x1, x2, x3, ()), (x4, x5, x6, ()), (x7, x8, x9, ()), x10, ()))
    kernel_rfl
noncomputable def b2 : Code := bodyOf lps 2
theorem l2_eq (n : Nat) (K : St → Option R) : ∀ (j : Nat) (x0 : List (Int)) (x1 : Int) (x2 : List (Int × Int × Int)) (x3 : List (Int)) (x4 : Int) (x5 : List (Int × Int × Int)) (x6 : List (Int)) (x7 : Int) (x8 : List (Int × Int × Int)) (x9 : List (Int)) (x10 : Int), spec_RepaintMaze.l2 n (fun y0 y1 y2 y3 y4 y5 => K (mkSt sout2 ((y0, y1, y2, ()), (y3, y4, y5, ()), ()))) j x0 x1 x2 x3 x4 x5 x6 x7 x8 x9 x10 = iter (roundK cfg (pick (cal n)) (lam n) fin 2 b2 sin2 sout2 K) j (mkSt sin2 (x0, (x1, x2, x3, ()), (x4, x5, x6, ()), (x7, x8, x9, ()), x10, ()))
  | 0, _, _, _, _, _, _, _, _, _, _, _ => rfl
  | j + 1, x0, x1, x2, x3, x4, x5, x6, x7, x8, x9, x10 => by
    have ih : spec_RepaintMaze.l2 n (fun y0 y1 y2 y3 y4 y5 => K (mkSt sout2 ((y0, y1, y2, ()), (y3, y4, y5, ()), ()))) j = fun x0 x1 x2 x3 x4 x5 x6 x7 x8 x9 x10 => iter (roundK cfg (pick (cal n)) (lam n) fin 2 b2 sin2 sout2 K) j (mkSt sin2 (x0, (x1, x2, x3, ()), (x4, x5, x6, ()), (x7, x8, x9, ()), x10, ())) := funext fun x0 => funext fun x1 => funext fun x2 => funext fun x3 => funext fun x4 => funext fun x5 => funext fun x6 => funext fun x7 => funext fun x8 => funext fun x9 => funext fun x10 => l2_eq n K j x0 x1 x2 x3 x4 x5 x6 x7 x8 x9 x10
    rw [spec_RepaintMaze.l2, ih]
    show _ = roundK cfg (pick (cal n)) (lam n) fin 2 b2 sin2 sout2 K (iter (roundK cfg (pick (cal n)) (lam n) fin 2 b2 sin2 sout2 K) j) (mkSt sin2 (x0, (x1, x2, x3, ()), (x4, x5, x6, ()), (x7, x8, x9, ()), x10, ()))
    kernel_rfl
theorem loops (n : Nat) : LoopsOk cfg (pick (cal n)) (lam n) fin (loopsOf cfg.blk code) := by
  have h : loopsOf cfg.blk code = [(0, b0), (2, b2)] := by kernel_rfl
  rw [h]
  intro p hp K st r hr
  simp only [List.mem_cons, List.not_mem_nil, or_false] at hp
  rcases hp with rfl | rfl
  · have hr' : (match absSt sin0 st with | some (x, _) => spec_RepaintMaze.l0 n (fun y0 y1 y2 y3 y4 y5 y6 y7 y8 y9 => K (mkSt sout0 (y0, (y1, y2, y3, ()), (y4, y5, y6, ()), (y7, y8, y9, ()), ()))) n x.1 x.2.1.1 x.2.1.2.1 x.2.1.2.2.1 x.2.2.1.1 x.2.2.1.2.1 x.2.2.1.2.2.1 x.2.2.2.1.1 x.2.2.2.1.2.1 x.2.2.2.1.2.2.1 x.2.2.2.2.1 | none => none) = some r := hr
    split at hr'
    · rename_i x es hx
      rw [l0_eq] at hr'
      exact ⟨sin0, sout0, n, x, es, hx, hr'⟩
    · cases hr'
  · have hr' : (match absSt sin2 st with | some (x, _) => spec_RepaintMaze.l2 n (fun y0 y1 y2 y3 y4 y5 => K (mkSt sout2 ((y0, y1, y2, ()), (y3, y4, y5, ()), ()))) n x.1 x.2.1.1 x.2.1.2.1 x.2.1.2.2.1 x.2.2.1.1 x.2.2.1.2.1 x.2.2.1.2.2.1 x.2.2.2.1.1 x.2.2.2.1.2.1 x.2.2.2.1.2.2.1 x.2.2.2.2.1 | none => none) = some r := hr
    split at hr'
    · rename_i x es hx
      rw [l2_eq] at hr'
      exact ⟨sin2, sout2, n, x, es, hx, hr'⟩
    · cases hr'
theorem F_eq (n : Nat) (x0 : Int) (x1 : List (Int × Int × Int)) (x2 : List (Int)) (x3 : List (Int)) : spec_RepaintMaze.F n x0 x1 x2 x3 = exK cfg (pick (cal n)) (lam n) fin code (fun _ _ => none) (mkSt shp ((x0, x1, x2, ()), x3, ())) fin := by
  kernel_rfl
def pfn (n : Nat) : PFn := mkFn shp outs (fun x => spec_RepaintMaze.F n x.1.1 x.1.2.1 x.1.2.2.1 x.2.1) out
theorem ok (n : Nat) : (pfn n).Ok Go.Proofs.Tryz.prog 13 :=
  mkFn_ok (fn := Go.Proofs.Tryz.f13) (code := code) Go.Proofs.Tryz.func13 (by kernel_rfl) (by decide) (C := cfg) (Φ := pick (cal n)) (Λ := lam n) (into := into) hT (cal_ok n) (by kernel_rfl) rfl (by decide) rfl (fun _ => rfl) (loops n)
    (fun x r h => by
      have e := F_eq n x.1.1 x.1.2.1 x.1.2.2.1 x.2.1
      exact e.symm.trans h)
end spec_RepaintMaze
end
/-! ### loop.example/g01158/laws.rMaze -/
section
namespace laws_rMaze
noncomputable def code : Code := (Go.Proofs.Tryz.f14.body).getD .skip
abbrev shp : Shape := [(0, .agg [.int .i64, .row (.t3) false, .row (.int .i64) false]), (1, .agg [.int .i64, .row (.t3) false, .row (.int .i64) false])]
abbrev outs : List KD := [.one (.bool)]
abbrev R : Type := Bool
def out : R → denL outs := fun r => (r, ())
def into : denL outs → R := fun y => y.1
def cfg : Cfg := ⟨ty, 46, [], fun i => match Nat.beq i 0 with | true => .loop | false => .plain, fun _ => none⟩
def cal (n : Nat) : List (Nat × PFn) := [(8, laws_rInts.pfn n)]
theorem cal_ok (n : Nat) : ∀ g, (pick (cal n) g).Ok Go.Proofs.Tryz.prog g := pick_ok (by
  intro p hp
  simp only [cal, List.mem_cons, List.not_mem_nil, or_false] at hp
  rcases hp with rfl
  · exact laws_rInts.ok n)
def fin : St → Option R := finOf ty [.tmp 4] outs into
abbrev sin0 : Shape := [(2, .box true [.int .i64, .row (.t3) false, .row (.int .i64) false]), (3, .box true [.int .i64, .row (.t3) false, .row (.int .i64) false]), (5, .one (.int .i64))]
abbrev sout0 : Shape := []
def lam (n : Nat) : Nat → (St → Option R) → St → Option R := fun i => match Nat.beq i 0 with | true => (fun K st => match absSt sin0 st with | some (x, _) => laws_rMaze.l0 n (fun _ => K (mkSt sout0 ())) n x.1.1 x.1.2.1 x.1.2.2.1 x.2.1.1 x.2.1.2.1 x.2.1.2.2.1 x.2.2.1 | none => none) | false => fun _ _ => none
noncomputable def lps : List (Nat × Code) := loopsOf cfg.blk code
noncomputable def b0 : Code := bodyOf lps 0
theorem l0_eq (n : Nat) (K : St → Option R) : ∀ (j : Nat) (x0 : Int) (x1 : List (Int × Int × Int)) (x2 : List (Int)) (x3 : Int) (x4 : List (Int × Int × Int)) (x5 : List (Int)) (x6 : Int), laws_rMaze.l0 n (fun _ => K (mkSt sout0 ())) j x0 x1 x2 x3 x4 x5 x6 = iter (roundK cfg (pick (cal n)) (lam n) fin 0 b0 sin0 sout0 K) j (mkSt sin0 ((x0, x1, x2, ()), (x3, x4, x5, ()), x6, ()))
  | 0, _, _, _, _, _, _, _ => rfl
  | j + 1, x0, x1, x2, x3, x4, x5, x6 => by
    have ih : laws_rMaze.l0 n (fun _ => K (mkSt sout0 ())) j = fun x0 x1 x2 x3 x4 x5 x6 => iter (roundK cfg (pick (cal n)) (lam n) fin 0 b0 sin0 sout0 K) j (mkSt sin0 ((x0, x1, x2, ()), (x3, x4, x5, ()), x6, ())) := funext fun x0 => funext fun x1 => funext fun x2 => funext fun x3 => funext fun x4 => funext fun x5 => funext fun x6 => l0_eq n K j x0 x1 x2 x3 x4 x5 x6
    rw [laws_rMaze.l0, ih]
    show _ = roundK cfg (pick (cal n)) (lam n) fin 0 b0 sin0 sout0 K (iter (roundK cfg (pick (cal n)) (lam n) fin 0 b0 sin0 sout0 K) j) (mkSt sin0 ((x0, x1, x2, ()), (x3, x4, x5, ()), x6, ()))
    kernel_rfl
theorem loops (n : Nat) : LoopsOk cfg (pick (cal n)) (lam n) fin (loopsOf cfg.blk code) := by
  have h : loopsOf cfg.blk code = [(0, b0)] := by kernel_rfl
  rw [h]
  intro p hp K st r hr
  simp only [List.mem_cons, List.not_mem_nil, or_false] at hp
  rcases hp with rfl
  · have hr' : (match absSt sin0 st with | some (x, _) => laws_rMaze.l0 n (fun _ => K (mkSt sout0 ())) n x.1.1 x.1.2.1 x.1.2.2.1 x.2.1.1 x.2.1.2.1 x.2.1.2.2.1 x.2.2.1 | none => none) = some r := hr
    split at hr'
    · rename_i x es hx
      rw [l0_eq] at hr'
      exact ⟨sin0, sout0, n, x, es, hx, hr'⟩
    · cases hr'
theorem F_eq (n : Nat) (x0 : Int) (x1 : List (Int × Int × Int)) (x2 : List (Int)) (x3 : Int) (x4 : List (Int × Int × Int)) (x5 : List (Int)) : laws_rMaze.F n x0 x1 x2 x3 x4 x5 = exK cfg (pick (cal n)) (lam n) fin code (fun _ _ => none) (mkSt shp ((x0, x1, x2, ()), (x3, x4, x5, ()), ())) fin := by
  kernel_rfl
def pfn (n : Nat) : PFn := mkFn shp outs (fun x => laws_rMaze.F n x.1.1 x.1.2.1 x.1.2.2.1 x.2.1.1 x.2.1.2.1 x.2.1.2.2.1) out
theorem ok (n : Nat) : (pfn n).Ok Go.Proofs.Tryz.prog 14 :=
  mkFn_ok (fn := Go.Proofs.Tryz.f14) (code := code) Go.Proofs.Tryz.func14 (by kernel_rfl) (by decide) (C := cfg) (Φ := pick (cal n)) (Λ := lam n) (into := into) hT (cal_ok n) (by kernel_rfl) rfl (by decide) rfl (fun _ => rfl) (loops n)
    (fun x r h => by
      have e := F_eq n x.1.1 x.1.2.1 x.1.2.2.1 x.2.1.1 x.2.1.2.1 x.2.1.2.2.1
      exact e.symm.trans h)
end laws_rMaze
end
/-! ### loop.example/g01158/spec.DrawNumberMaze -/
section
namespace spec_DrawNumberMaze
noncomputable def code : Code := (Go.Proofs.Tryz.f15.body).getD .skip
abbrev shp : Shape := [(0, .one (.row (.int .u8) false))]
abbrev outs : List KD := [.agg [.int .i64, .row (.t3) true, .row (.int .i64) true], .one (.row (.int .i64) true)]
abbrev R : Type := Int × (List (Int × Int × Int)) × (List (Int)) × (List (Int))
def out : R → denL outs := fun r => ((r.1, r.2.1, r.2.2.1, ()), r.2.2.2, ())
def into : denL outs → R := fun y => (y.1.1, y.1.2.1, y.1.2.2.1, y.2.1)
def cfg : Cfg := ⟨ty, 16, [], fun _ => .plain, fun _ => none⟩
def cal (n : Nat) : List (Nat × PFn) := [(31, spec_l1Cur_maze.pfn n), (32, spec_l1Cur_orderOf.pfn n)]
theorem cal_ok (n : Nat) : ∀ g, (pick (cal n) g).Ok Go.Proofs.Tryz.prog g := pick_ok (by
  intro p hp
  simp only [cal, List.mem_cons, List.not_mem_nil, or_false] at hp
  rcases hp with rfl | rfl
  · exact spec_l1Cur_maze.ok n
  · exact spec_l1Cur_orderOf.ok n)
def fin : St → Option R := finOf ty [.cell 2 27, .tmp 3] outs into
def lam (n : Nat) : Nat → (St → Option R) → St → Option R := fun _ => fun _ _ => none
theorem loops (n : Nat) : LoopsOk cfg (pick (cal n)) (lam n) fin (loopsOf cfg.blk code) := by
  have h : loopsOf cfg.blk code = [] := by kernel_rfl
  rw [h]
  intro p hp
  cases hp
theorem F_eq (n : Nat) (x0 : List (Int)) : spec_DrawNumberMaze.F n x0 = exK cfg (pick (cal n)) (lam n) fin code (fun _ _ => none) (mkSt shp (x0, ())) fin := by
  kernel_rfl
def pfn (n : Nat) : PFn := mkFn shp outs (fun x => spec_DrawNumberMaze.F n x.1) out
theorem ok (n : Nat) : (pfn n).Ok Go.Proofs.Tryz.prog 15 :=
  mkFn_ok (fn := Go.Proofs.Tryz.f15) (code := code) Go.Proofs.Tryz.func15 (by kernel_rfl) (by decide) (C := cfg) (Φ := pick (cal n)) (Λ := lam n) (into := into) hT (cal_ok n) (by kernel_rfl) rfl (by decide) rfl (fun _ => rfl) (loops n)
    (fun x r h => by
      have e := F_eq n x.1
      exact e.symm.trans h)
end spec_DrawNumberMaze
end
/-! ### loop.example/g01158/impl.numbered -/
section
namespace impl_numbered
noncomputable def code : Code := (Go.Proofs.Tryz.f40.body).getD .skip
abbrev shp : Shape := [(0, .agg [.int .i64, .row (.t3) false, .row (.int .i64) false]), (1, .one (.row (.int .i64) false))]
abbrev outs : List KD := [.agg [.int .i64, .row (.t3) true, .row (.int .i64) true]]
abbrev R : Type := Int × (List (Int × Int × Int)) × (List (Int))
def out : R → denL outs := fun r => ((r.1, r.2.1, r.2.2, ()), ())
def into : denL outs → R := fun y => (y.1.1, y.1.2.1, y.1.2.2.1)
def cfg : Cfg := ⟨ty, 57, [], fun i => match Nat.beq i 0 with | true => .loop | false => match Nat.beq i 2 with | true => .loop | false => .plain, fun _ => none⟩
def cal (n : Nat) : List (Nat × PFn) := [(73, impl_own.pfn n), (74, impl_tidy.pfn n)]
theorem cal_ok (n : Nat) : ∀ g, (pick (cal n) g).Ok Go.Proofs.Tryz.prog g := pick_ok (by
  intro p hp
  simp only [cal, List.mem_cons, List.not_mem_nil, or_false] at hp
  rcases hp with rfl | rfl
  · exact impl_own.ok n
  · exact impl_tidy.ok n)
def fin : St → Option R := finOf ty [.cell 4 27] outs into
abbrev sin0 : Shape := [(1, .one (.row (.int .i64) false)), (2, .box true [.int .i64, .row (.t3) false, .row (.int .i64) false]), (4, .box true [.int .i64, .row (.t3) true, .row (.int .i64) true]), (5, .box true [.int .i64, .row (.t3) true, .row (.int .i64) true]), (13, .one (.ref 2)), (14, .one (.int .i64)), (15, .one (.int .i64))]
abbrev sout0 : Shape := [(1, .one (.row (.int .i64) false)), (2, .box true [.int .i64, .row (.t3) false, .row (.int .i64) false]), (4, .box true [.int .i64, .row (.t3) true, .row (.int .i64) true]), (5, .box true [.int .i64, .row (.t3) true, .row (.int .i64) true])]
abbrev sin2 : Shape := [(1, .one (.row (.int .i64) false)), (4, .box true [.int .i64, .row (.t3) true, .row (.int .i64) true]), (5, .box true [.int .i64, .row (.t3) true, .row (.int .i64) true]), (39, .one (.row (.int .i64) false)), (40, .one (.int .i64)), (41, .one (.int .i64))]
abbrev sout2 : Shape := [(4, .box true [.int .i64, .row (.t3) true, .row (.int .i64) true]), (5, .box true [.int .i64, .row (.t3) true, .row (.int .i64) true])]
def lam (n : Nat) : Nat → (St → Option R) → St → Option R := fun i => match Nat.beq i 0 with | true => (fun K st => match absSt sin0 st with | some (x, _) => impl_numbered.l0 n (fun y0 y1 y2 y3 y4 y5 y6 y7 y8 y9 => K (mkSt sout0 (y0, (y1, y2, y3, ()), (y4, y5, y6, ()), (y7, y8, y9, ()), ()))) n x.1 x.2.1.1 x.2.1.2.1 x.2.1.2.2.1 x.2.2.1.1 x.2.2.1.2.1 x.2.2.1.2.2.1 x.2.2.2.1.1 x.2.2.2.1.2.1 x.2.2.2.1.2.2.1 x.2.2.2.2.2.1 x.2.2.2.2.2.2.1 | none => none) | false => match Nat.beq i 2 with | true => (fun K st => match absSt sin2 st with | some (x, _) => impl_numbered.l2 n (fun y0 y1 y2 y3 y4 y5 => K (mkSt sout2 ((y0, y1, y2, ()), (y3, y4, y5, ()), ()))) n x.1 x.2.1.1 x.2.1.2.1 x.2.1.2.2.1 x.2.2.1.1 x.2.2.1.2.1 x.2.2.1.2.2.1 x.2.2.2.1 x.2.2.2.2.1 x.2.2.2.2.2.1 | none => none) | false => fun _ _ => none
noncomputable def lps : List (Nat × Code) := loopsOf cfg.blk code
noncomputable def b0 : Code := bodyOf lps 0
theorem l0_eq (n : Nat) (K : St → Option R) : ∀ (j : Nat) (x0 : List (Int)) (x1 : Int) (x2 : List (Int × Int × Int)) (x3 : List (Int)) (x4 : Int) (x5 : List (Int × Int × Int)) (x6 : List (Int)) (x7 : Int) (x8 : List (Int × Int × Int)) (x9 : List (Int)) (x10 : Int) (x11 : Int), impl_numbered.l0 n (fun y0 y1 y2 y3 y4 y5 y6 y7 y8 y9 => K (mkSt sout0 (y0, (y1, y2, y3, ()), (y4, y5, y6, ()), (y7, y8, y9, ()), ()))) j x0 x1 x2 x3 x4 x5 x6 x7 x8 x9 x10 x11 = iter (roundK cfg (pick (cal n)) (lam n) fin 0 b0 sin0 sout0 K) j (mkSt sin0 (x0, (x1, x2, x3, ()), (x4, x5, x6, ()), (x7, x8, x9, ()), (), x10, x11, ()))
  | 0, _, _, _, _, _, _, _, _, _, _, _, _ => rfl
  | j + 1, x0, x1, x2, x3, x4, x5, x6, x7, x8, x9, x10, x11 => by
    have ih : impl_numbered.l0 n (fun y0 y1 y2 y3 y4 y5 y6 y7 y8 y9 => K (mkSt sout0 (y0, (y1, y2, y3, ()), (y4, y5, y6, ()), (y7, y8, y9, ()), ()))) j = fun x0 x1 x2 x3 x4 x5 x6 x7 x8 x9 x10 x11 => iter (roundK cfg (pick (cal n)) (lam n) fin 0 b0 sin0 sout0 K) j (mkSt sin0 (x0, (x1, x2, x3, ()), (x4, x5, x6, ()), (x7, x8, x9, ()), (), x10, x11, ())) := funext fun x0 => funext fun x1 => funext fun x2 => funext fun x3 => funext fun x4 => funext fun x5 => funext fun x6 => funext fun x7 => funext fun x8 => funext fun x9 => funext fun x10 => funext fun x11 => l0_eq n K j x0 x1 x2 x3 x4 x5 x6 x7 x8 x9 x10 x11
    rw [impl_numbered.l0, ih]
    show _ = roundK cfg (pick (cal n)) (lam n) fin 0 b0 sin0 sout0 K (iter (roundK cfg (pick (cal n)) (lam n) fin 0 b0 sin0 sout0 K) j) (mkSt sin0 (x0, (x1, x2, x3, ()), (x4, x5, x6, ()), (x7, x8, x9, ()), (), x10, x11, ()))
    kernel_rfl
noncomputable def b2 : Code := bodyOf lps 2
theorem l2_eq (n : Nat) (K : St → Option R) : ∀ (j : Nat) (x0 : List (Int)) (x1 : Int) (x2 : List (Int × Int × Int)) (x3 : List (Int)) (x4 : Int) (x5 : List (Int × Int × Int)) (x6 : List (Int)) (x7 : List (Int)) (x8 : Int) (x9 : Int), impl_numbered.l2 n (fun y0 y1 y2 y3 y4 y5 => K (mkSt sout2 ((y0, y1, y2, ()), (y3, y4, y5, ()), ()))) j x0 x1 x2 x3 x4 x5 x6 x7 x8 x9 = iter (roundK cfg (pick (cal n)) (lam n) fin 2 b2 sin2 sout2 K) j (mkSt sin2 (x0, (x1, x2, x3, ()), (x4, x5, x6, ()), x7, x8, x9, ()))
  | 0, _, _, _, _, _, _, _, _, _, _ => rfl
  | j + 1, x0, x1, x2, x3, x4, x5, x6, x7, x8, x9 => by
    have ih : impl_numbered.l2 n (fun y0 y1 y2 y3 y4 y5 => K (mkSt sout2 ((y0, y1, y2, ()), (y3, y4, y5, ()), ()))) j = fun x0 x1 x2 x3 x4 x5 x6 x7 x8 x9 => iter (roundK cfg (pick (cal n)) (lam n) fin 2 b2 sin2 sout2 K) j (mkSt sin2 (x0, (x1, x2, x3, ()), (x4, x5, x6, ()), x7, x8, x9, ())) := funext fun x0 => funext fun x1 => funext fun x2 => funext fun x3 => funext fun x4 => funext fun x5 => funext fun x6 => funext fun x7 => funext fun x8 => funext fun x9 => l2_eq n K j x0 x1 x2 x3 x4 x5 x6 x7 x8 x9
    rw [impl_numbered.l2, ih]
    show _ = roundK cfg (pick (cal n)) (lam n) fin 2 b2 sin2 sout2 K (iter (roundK cfg (pick (cal n)) (lam n) fin 2 b2 sin2 sout2 K) j) (mkSt sin2 (x0, (x1, x2, x3, ()), (x4, x5, x6, ()), x7, x8, x9, ()))
    kernel_rfl
theorem loops (n : Nat) : LoopsOk cfg (pick (cal n)) (lam n) fin (loopsOf cfg.blk code) := by
  have h : loopsOf cfg.blk code = [(0, b0), (2, b2)] := by kernel_rfl
  rw [h]
  intro p hp K st r hr
  simp only [List.mem_cons, List.not_mem_nil, or_false] at hp
  rcases hp with rfl | rfl
  · have hr' : (match absSt sin0 st with | some (x, _) => impl_numbered.l0 n (fun y0 y1 y2 y3 y4 y5 y6 y7 y8 y9 => K (mkSt sout0 (y0, (y1, y2, y3, ()), (y4, y5, y6, ()), (y7, y8, y9, ()), ()))) n x.1 x.2.1.1 x.2.1.2.1 x.2.1.2.2.1 x.2.2.1.1 x.2.2.1.2.1 x.2.2.1.2.2.1 x.2.2.2.1.1 x.2.2.2.1.2.1 x.2.2.2.1.2.2.1 x.2.2.2.2.2.1 x.2.2.2.2.2.2.1 | none => none) = some r := hr
    split at hr'
    · rename_i x es hx
      rw [l0_eq] at hr'
      exact ⟨sin0, sout0, n, x, es, hx, hr'⟩
    · cases hr'
  · have hr' : (match absSt sin2 st with | some (x, _) => impl_numbered.l2 n (fun y0 y1 y2 y3 y4 y5 => K (mkSt sout2 ((y0, y1, y2, ()), (y3, y4, y5, ()), ()))) n x.1 x.2.1.1 x.2.1.2.1 x.2.1.2.2.1 x.2.2.1.1 x.2.2.1.2.1 x.2.2.1.2.2.1 x.2.2.2.1 x.2.2.2.2.1 x.2.2.2.2.2.1 | none => none) = some r := hr
    split at hr'
    · rename_i x es hx
      rw [l2_eq] at hr'
      exact ⟨sin2, sout2, n, x, es, hx, hr'⟩
    · cases hr'
theorem F_eq (n : Nat) (x0 : Int) (x1 : List (Int × Int × Int)) (x2 : List (Int)) (x3 : List (Int)) : impl_numbered.F n x0 x1 x2 x3 = exK cfg (pick (cal n)) (lam n) fin code (fun _ _ => none) (mkSt shp ((x0, x1, x2, ()), x3, ())) fin := by
  kernel_rfl
def pfn (n : Nat) : PFn := mkFn shp outs (fun x => impl_numbered.F n x.1.1 x.1.2.1 x.1.2.2.1 x.2.1) out
theorem ok (n : Nat) : (pfn n).Ok Go.Proofs.Tryz.prog 40 :=
  mkFn_ok (fn := Go.Proofs.Tryz.f40) (code := code) Go.Proofs.Tryz.func40 (by kernel_rfl) (by decide) (C := cfg) (Φ := pick (cal n)) (Λ := lam n) (into := into) hT (cal_ok n) (by kernel_rfl) rfl (by decide) rfl (fun _ => rfl) (loops n)
    (fun x r h => by
      have e := F_eq n x.1.1 x.1.2.1 x.1.2.2.1 x.2.1
      exact e.symm.trans h)
end impl_numbered
end
/-! ### loop.example/g01158/impl.NumberMaze -/
section
namespace impl_NumberMaze
noncomputable def code : Code := (Go.Proofs.Tryz.f16.body).getD .skip
abbrev shp : Shape := [(0, .agg [.int .i64, .row (.t3) false, .row (.int .i64) false]), (1, .one (.row (.int .i64) false))]
abbrev outs : List KD := [.agg [.int .i64, .row (.t3) true, .row (.int .i64) true], .one (.bool)]
abbrev R : Type := Int × (List (Int × Int × Int)) × (List (Int)) × Bool
def out : R → denL outs := fun r => ((r.1, r.2.1, r.2.2.1, ()), r.2.2.2, ())
def into : denL outs → R := fun y => (y.1.1, y.1.2.1, y.1.2.2.1, y.2.1)
def cfg : Cfg := ⟨ty, 20, [], fun _ => .plain, fun _ => none⟩
def cal (n : Nat) : List (Nat × PFn) := [(27, impl_IsMaze.pfn n), (33, impl_isOrder.pfn n), (40, impl_numbered.pfn n)]
theorem cal_ok (n : Nat) : ∀ g, (pick (cal n) g).Ok Go.Proofs.Tryz.prog g := pick_ok (by
  intro p hp
  simp only [cal, List.mem_cons, List.not_mem_nil, or_false] at hp
  rcases hp with rfl | rfl | rfl
  · exact impl_IsMaze.ok n
  · exact impl_isOrder.ok n
  · exact impl_numbered.ok n)
def fin : St → Option R := finOf ty [.cell 4 27, .tmp 5] outs into
def lam (n : Nat) : Nat → (St → Option R) → St → Option R := fun _ => fun _ _ => none
theorem loops (n : Nat) : LoopsOk cfg (pick (cal n)) (lam n) fin (loopsOf cfg.blk code) := by
  have h : loopsOf cfg.blk code = [] := by kernel_rfl
  rw [h]
  intro p hp
  cases hp
theorem F_eq (n : Nat) (x0 : Int) (x1 : List (Int × Int × Int)) (x2 : List (Int)) (x3 : List (Int)) : impl_NumberMaze.F n x0 x1 x2 x3 = exK cfg (pick (cal n)) (lam n) fin code (fun _ _ => none) (mkSt shp ((x0, x1, x2, ()), x3, ())) fin := by
  kernel_rfl
def pfn (n : Nat) : PFn := mkFn shp outs (fun x => impl_NumberMaze.F n x.1.1 x.1.2.1 x.1.2.2.1 x.2.1) out
theorem ok (n : Nat) : (pfn n).Ok Go.Proofs.Tryz.prog 16 :=
  mkFn_ok (fn := Go.Proofs.Tryz.f16) (code := code) Go.Proofs.Tryz.func16 (by kernel_rfl) (by decide) (C := cfg) (Φ := pick (cal n)) (Λ := lam n) (into := into) hT (cal_ok n) (by kernel_rfl) rfl (by decide) rfl (fun _ => rfl) (loops n)
    (fun x r h => by
      have e := F_eq n x.1.1 x.1.2.1 x.1.2.2.1 x.2.1
      exact e.symm.trans h)
end impl_NumberMaze
end
/-! ### loop.example/g01158/spec.l2Numbered -/
section
namespace spec_l2Numbered
noncomputable def code : Code := (Go.Proofs.Tryz.f41.body).getD .skip
abbrev shp : Shape := [(0, .agg [.int .i64, .row (.t3) false, .row (.int .i64) false]), (1, .one (.row (.int .i64) false))]
abbrev outs : List KD := [.agg [.int .i64, .row (.t3) true, .row (.int .i64) true]]
abbrev R : Type := Int × (List (Int × Int × Int)) × (List (Int))
def out : R → denL outs := fun r => ((r.1, r.2.1, r.2.2, ()), ())
def into : denL outs → R := fun y => (y.1.1, y.1.2.1, y.1.2.2.1)
def cfg : Cfg := ⟨ty, 69, [], fun i => match Nat.beq i 0 with | true => .loop | false => match Nat.beq i 2 with | true => .loop | false => .plain, fun _ => none⟩
def cal (n : Nat) : List (Nat × PFn) := [(38, spec_l2Put.pfn n)]
theorem cal_ok (n : Nat) : ∀ g, (pick (cal n) g).Ok Go.Proofs.Tryz.prog g := pick_ok (by
  intro p hp
  simp only [cal, List.mem_cons, List.not_mem_nil, or_false] at hp
  rcases hp with rfl
  · exact spec_l2Put.ok n)
def fin : St → Option R := finOf ty [.cell 4 27] outs into
abbrev sin0 : Shape := [(1, .one (.row (.int .i64) false)), (2, .box true [.int .i64, .row (.t3) false, .row (.int .i64) false]), (4, .box true [.int .i64, .row (.t3) true, .row (.int .i64) true]), (5, .box true [.int .i64, .row (.t3) true, .row (.int .i64) true]), (6, .one (.int .i64))]
abbrev sout0 : Shape := [(1, .one (.row (.int .i64) false)), (2, .box true [.int .i64, .row (.t3) false, .row (.int .i64) false]), (4, .box true [.int .i64, .row (.t3) true, .row (.int .i64) true]), (5, .box true [.int .i64, .row (.t3) true, .row (.int .i64) true])]
abbrev sin2 : Shape := [(1, .one (.row (.int .i64) false)), (2, .box true [.int .i64, .row (.t3) false, .row (.int .i64) false]), (4, .box true [.int .i64, .row (.t3) true, .row (.int .i64) true]), (5, .box true [.int .i64, .row (.t3) true, .row (.int .i64) true]), (7, .one (.int .i64))]
abbrev sout2 : Shape := [(4, .box true [.int .i64, .row (.t3) true, .row (.int .i64) true]), (5, .box true [.int .i64, .row (.t3) true, .row (.int .i64) true])]
def lam (n : Nat) : Nat → (St → Option R) → St → Option R := fun i => match Nat.beq i 0 with | true => (fun K st => match absSt sin0 st with | some (x, _) => spec_l2Numbered.l0 n (fun y0 y1 y2 y3 y4 y5 y6 y7 y8 y9 => K (mkSt sout0 (y0, (y1, y2, y3, ()), (y4, y5, y6, ()), (y7, y8, y9, ()), ()))) n x.1 x.2.1.1 x.2.1.2.1 x.2.1.2.2.1 x.2.2.1.1 x.2.2.1.2.1 x.2.2.1.2.2.1 x.2.2.2.1.1 x.2.2.2.1.2.1 x.2.2.2.1.2.2.1 x.2.2.2.2.1 | none => none) | false => match Nat.beq i 2 with | true => (fun K st => match absSt sin2 st with | some (x, _) => spec_l2Numbered.l2 n (fun y0 y1 y2 y3 y4 y5 => K (mkSt sout2 ((y0, y1, y2, ()), (y3, y4, y5, ()), ()))) n x.1 x.2.1.1 x.2.1.2.1 x.2.1.2.2.1 x.2.2.1.1 x.2.2.1.2.1 x.2.2.1.2.2.1 x.2.2.2.1.1 x.2.2.2.1.2.1 x.2.2.2.1.2.2.1 x.2.2.2.2.1 | none => none) | false => fun _ _ => none
noncomputable def lps : List (Nat × Code) := loopsOf cfg.blk code
noncomputable def b0 : Code := bodyOf lps 0
theorem l0_eq (n : Nat) (K : St → Option R) : ∀ (j : Nat) (x0 : List (Int)) (x1 : Int) (x2 : List (Int × Int × Int)) (x3 : List (Int)) (x4 : Int) (x5 : List (Int × Int × Int)) (x6 : List (Int)) (x7 : Int) (x8 : List (Int × Int × Int)) (x9 : List (Int)) (x10 : Int), spec_l2Numbered.l0 n (fun y0 y1 y2 y3 y4 y5 y6 y7 y8 y9 => K (mkSt sout0 (y0, (y1, y2, y3, ()), (y4, y5, y6, ()), (y7, y8, y9, ()), ()))) j x0 x1 x2 x3 x4 x5 x6 x7 x8 x9 x10 = iter (roundK cfg (pick (cal n)) (lam n) fin 0 b0 sin0 sout0 K) j (mkSt sin0 (x0, (x1, x2, x3, ()), (x4, x5, x6, ()), (x7, x8, x9, ()), x10, ()))
  | 0, _, _, _, _, _, _, _, _, _, _, _ => rfl
  | j + 1, x0, x1, x2, x3, x4, x5, x6, x7, x8, x9, x10 => by
    have ih : spec_l2Numbered.l0 n (fun y0 y1 y2 y3 y4 y5 y6 y7 y8 y9 => K (mkSt sout0 (y0, (y1, y2, y3, ()), (y4, y5, y6, ()), (y7, y8, y9, ()), ()))) j = fun x0 x1 x2 x3 x4 x5 x6 x7 x8 x9 x10 => iter (roundK cfg (pick (cal n)) (lam n) fin 0 b0 sin0 sout0 K) j (mkSt sin0 (x0, (x1, x2, x3, ()), (x4, x5, x6, ()), (x7, x8, x9, ()), x10, ())) := funext fun x0 => funext fun x1 => funext fun x2 => funext fun x3 => funext fun x4 => funext fun x5 => funext fun x6 => funext fun x7 => funext fun x8 => funext fun x9 => funext fun x10 => l0_eq n K j x0 x1 x2 x3 x4 x5 x6 x7 x8 x9 x10
    rw [spec_l2Numbered.l0, ih]
    show _ = roundK cfg (pick (cal n)) (lam n) fin 0 b0 sin0 sout0 K (iter (roundK cfg (pick (cal n)) (lam n) fin 0 b0 sin0 sout0 K) j) (mkSt sin0 (x0, (x1, x2, x3, ()), (x4, x5, x6, ()), (x7, x8, x9, ()), x10, ()))
    kernel_rfl
noncomputable def b2 : Code := bodyOf lps 2
theorem l2_eq (n : Nat) (K : St → Option R) : ∀ (j : Nat) (x0 : List (Int)) (x1 : Int) (x2 : List (Int × Int × Int)) (x3 : List (Int)) (x4 : Int) (x5 : List (Int × Int × Int)) (x6 : List (Int)) (x7 : Int) (x8 : List (Int × Int × Int)) (x9 : List (Int)) (x10 : Int), spec_l2Numbered.l2 n (fun y0 y1 y2 y3 y4 y5 => K (mkSt sout2 ((y0, y1, y2, ()), (y3, y4, y5, ()), ()))) j x0 x1 x2 x3 x4 x5 x6 x7 x8 x9 x10 = iter (roundK cfg (pick (cal n)) (lam n) fin 2 b2 sin2 sout2 K) j (mkSt sin2 (x0, (x1, x2, x3, ()), (x4, x5, x6, ()), (x7, x8, x9, ()), x10, ()))
  | 0, _, _, _, _, _, _, _, _, _, _, _ => rfl
  | j + 1, x0, x1, x2, x3, x4, x5, x6, x7, x8, x9, x10 => by
    have ih : spec_l2Numbered.l2 n (fun y0 y1 y2 y3 y4 y5 => K (mkSt sout2 ((y0, y1, y2, ()), (y3, y4, y5, ()), ()))) j = fun x0 x1 x2 x3 x4 x5 x6 x7 x8 x9 x10 => iter (roundK cfg (pick (cal n)) (lam n) fin 2 b2 sin2 sout2 K) j (mkSt sin2 (x0, (x1, x2, x3, ()), (x4, x5, x6, ()), (x7, x8, x9, ()), x10, ())) := funext fun x0 => funext fun x1 => funext fun x2 => funext fun x3 => funext fun x4 => funext fun x5 => funext fun x6 => funext fun x7 => funext fun x8 => funext fun x9 => funext fun x10 => l2_eq n K j x0 x1 x2 x3 x4 x5 x6 x7 x8 x9 x10
    rw [spec_l2Numbered.l2, ih]
    show _ = roundK cfg (pick (cal n)) (lam n) fin 2 b2 sin2 sout2 K (iter (roundK cfg (pick (cal n)) (lam n) fin 2 b2 sin2 sout2 K) j) (mkSt sin2 (x0, (x1, x2, x3, ()), (x4, x5, x6, ()), (x7, x8, x9, ()), x10, ()))
    kernel_rfl
theorem loops (n : Nat) : LoopsOk cfg (pick (cal n)) (lam n) fin (loopsOf cfg.blk code) := by
  have h : loopsOf cfg.blk code = [(0, b0), (2, b2)] := by kernel_rfl
  rw [h]
  intro p hp K st r hr
  simp only [List.mem_cons, List.not_mem_nil, or_false] at hp
  rcases hp with rfl | rfl
  · have hr' : (match absSt sin0 st with | some (x, _) => spec_l2Numbered.l0 n (fun y0 y1 y2 y3 y4 y5 y6 y7 y8 y9 => K (mkSt sout0 (y0, (y1, y2, y3, ()), (y4, y5, y6, ()), (y7, y8, y9, ()), ()))) n x.1 x.2.1.1 x.2.1.2.1 x.2.1.2.2.1 x.2.2.1.1 x.2.2.1.2.1 x.2.2.1.2.2.1 x.2.2.2.1.1 x.2.2.2.1.2.1 x.2.2.2.1.2.2.1 x.2.2.2.2.1 | none => none) = some r := hr
    split at hr'
    · rename_i x es hx
      rw [l0_eq] at hr'
      exact ⟨sin0, sout0, n, x, es, hx, hr'⟩
    · cases hr'
  · have hr' : (match absSt sin2 st with | some (x, _) => spec_l2Numbered.l2 n (fun y0 y1 y2 y3 y4 y5 => K (mkSt sout2 ((y0, y1, y2, ()), (y3, y4, y5, ()), ()))) n x.1 x.2.1.1 x.2.1.2.1 x.2.1.2.2.1 x.2.2.1.1 x.2.2.1.2.1 x.2.2.1.2.2.1 x.2.2.2.1.1 x.2.2.2.1.2.1 x.2.2.2.1.2.2.1 x.2.2.2.2.1 | none => none) = some r := hr
    split at hr'
    · rename_i x es hx
      rw [l2_eq] at hr'
      exact ⟨sin2, sout2, n, x, es, hx, hr'⟩
    · cases hr'
theorem F_eq (n : Nat) (x0 : Int) (x1 : List (Int × Int × Int)) (x2 : List (Int)) (x3 : List (Int)) : spec_l2Numbered.F n x0 x1 x2 x3 = exK cfg (pick (cal n)) (lam n) fin code (fun _ _ => none) (mkSt shp ((x0, x1, x2, ()), x3, ())) fin := by
  kernel_rfl
def pfn (n : Nat) : PFn := mkFn shp outs (fun x => spec_l2Numbered.F n x.1.1 x.1.2.1 x.1.2.2.1 x.2.1) out
theorem ok (n : Nat) : (pfn n).Ok Go.Proofs.Tryz.prog 41 :=
  mkFn_ok (fn := Go.Proofs.Tryz.f41) (code := code) Go.Proofs.Tryz.func41 (by kernel_rfl) (by decide) (C := cfg) (Φ := pick (cal n)) (Λ := lam n) (into := into) hT (cal_ok n) (by kernel_rfl) rfl (by decide) rfl (fun _ => rfl) (loops n)
    (fun x r h => by
      have e := F_eq n x.1.1 x.1.2.1 x.1.2.2.1 x.2.1
      exact e.symm.trans h)
end spec_l2Numbered
end
/-! ### loop.example/g01158/spec.NumberMaze -/
section
namespace spec_NumberMaze
noncomputable def code : Code := (Go.Proofs.Tryz.f17.body).getD .skip
abbrev shp : Shape := [(0, .agg [.int .i64, .row (.t3) false, .row (.int .i64) false]), (1, .one (.row (.int .i64) false))]
abbrev outs : List KD := [.agg [.int .i64, .row (.t3) true, .row (.int .i64) true], .one (.bool)]
abbrev R : Type := Int × (List (Int × Int × Int)) × (List (Int)) × Bool
def out : R → denL outs := fun r => ((r.1, r.2.1, r.2.2.1, ()), r.2.2.2, ())
def into : denL outs → R := fun y => (y.1.1, y.1.2.1, y.1.2.2.1, y.2.1)
def cfg : Cfg := ⟨ty, 20, [], fun _ => .plain, fun _ => none⟩
def cal (n : Nat) : List (Nat × PFn) := [(29, spec_l2Maze.pfn n), (37, spec_l2Order.pfn n), (41, spec_l2Numbered.pfn n)]
theorem cal_ok (n : Nat) : ∀ g, (pick (cal n) g).Ok Go.Proofs.Tryz.prog g := pick_ok (by
  intro p hp
  simp only [cal, List.mem_cons, List.not_mem_nil, or_false] at hp
  rcases hp with rfl | rfl | rfl
  · exact spec_l2Maze.ok n
  · exact spec_l2Order.ok n
  · exact spec_l2Numbered.ok n)
def fin : St → Option R := finOf ty [.cell 4 27, .tmp 5] outs into
def lam (n : Nat) : Nat → (St → Option R) → St → Option R := fun _ => fun _ _ => none
theorem loops (n : Nat) : LoopsOk cfg (pick (cal n)) (lam n) fin (loopsOf cfg.blk code) := by
  have h : loopsOf cfg.blk code = [] := by kernel_rfl
  rw [h]
  intro p hp
  cases hp
theorem F_eq (n : Nat) (x0 : Int) (x1 : List (Int × Int × Int)) (x2 : List (Int)) (x3 : List (Int)) : spec_NumberMaze.F n x0 x1 x2 x3 = exK cfg (pick (cal n)) (lam n) fin code (fun _ _ => none) (mkSt shp ((x0, x1, x2, ()), x3, ())) fin := by
  kernel_rfl
def pfn (n : Nat) : PFn := mkFn shp outs (fun x => spec_NumberMaze.F n x.1.1 x.1.2.1 x.1.2.2.1 x.2.1) out
theorem ok (n : Nat) : (pfn n).Ok Go.Proofs.Tryz.prog 17 :=
  mkFn_ok (fn := Go.Proofs.Tryz.f17) (code := code) Go.Proofs.Tryz.func17 (by kernel_rfl) (by decide) (C := cfg) (Φ := pick (cal n)) (Λ := lam n) (into := into) hT (cal_ok n) (by kernel_rfl) rfl (by decide) rfl (fun _ => rfl) (loops n)
    (fun x r h => by
      have e := F_eq n x.1.1 x.1.2.1 x.1.2.2.1 x.2.1
      exact e.symm.trans h)
end spec_NumberMaze
end
/-! ### (*loop.example/g01158/spec.l1Cur).colours -/
section
namespace spec_l1Cur_colours
noncomputable def code : Code := (Go.Proofs.Tryz.f42.body).getD .skip
abbrev shp : Shape := [(0, .box true [.row (.int .u8) false, .int .i64, .int .u64])]
abbrev outs : List KD := [.one (.int .i64)]
abbrev R : Type := (List (Int)) × Int × Int × Int
abbrev bs : List BK := [.row (.int .u8) false, .int .i64, .int .u64]
abbrev rshp : Shape := []
def out : R → denB bs × denL outs := fun r => ((r.1, r.2.1, r.2.2.1, ()), (r.2.2.2, ()))
def into : denB bs → denL outs → R := fun z y => (z.1, z.2.1, z.2.2.1, y.1)
def cfg : Cfg := ⟨ty, 22, [0], fun i => match Nat.beq i 0 with | true => .loop | false => .plain, fun _ => none⟩
def cal (n : Nat) : List (Nat × PFn) := [(67, spec_l1Cur_among.pfn n), (68, spec_l1Cur_pick.pfn n), (69, spec_l1Cur_one.pfn n)]
theorem cal_ok (n : Nat) : ∀ g, (pick (cal n) g).Ok Go.Proofs.Tryz.prog g := pick_ok (by
  intro p hp
  simp only [cal, List.mem_cons, List.not_mem_nil, or_false] at hp
  rcases hp with rfl | rfl | rfl
  · exact spec_l1Cur_among.ok n
  · exact spec_l1Cur_pick.ok n
  · exact spec_l1Cur_one.ok n)
def fin : St → Option R := finBox ty [.tmp 2] bs outs into
abbrev sin0 : Shape := [(0, .box true [.row (.int .u8) false, .int .i64, .int .u64]), (3, .one (.int .i64)), (4, .one (.int .i64))]
abbrev sout0 : Shape := [(0, .box true [.row (.int .u8) false, .int .i64, .int .u64]), (3, .one (.int .i64))]
def lam (n : Nat) : Nat → (St → Option R) → St → Option R := fun i => match Nat.beq i 0 with | true => (fun K st => match absSt sin0 st with | some (x, _) => spec_l1Cur_colours.l0 n (fun y0 y1 y2 y3 => K (mkSt sout0 ((y0, y1, y2, ()), y3, ()))) n x.1.1 x.1.2.1 x.1.2.2.1 x.2.1 x.2.2.1 | none => none) | false => fun _ _ => none
noncomputable def lps : List (Nat × Code) := loopsOf cfg.blk code
noncomputable def b0 : Code := bodyOf lps 0
theorem l0_eq (n : Nat) (K : St → Option R) : ∀ (j : Nat) (x0 : List (Int)) (x1 : Int) (x2 : Int) (x3 : Int) (x4 : Int), spec_l1Cur_colours.l0 n (fun y0 y1 y2 y3 => K (mkSt sout0 ((y0, y1, y2, ()), y3, ()))) j x0 x1 x2 x3 x4 = iter (roundK cfg (pick (cal n)) (lam n) fin 0 b0 sin0 sout0 K) j (mkSt sin0 ((x0, x1, x2, ()), x3, x4, ()))
  | 0, _, _, _, _, _ => rfl
  | j + 1, x0, x1, x2, x3, x4 => by
    have ih : spec_l1Cur_colours.l0 n (fun y0 y1 y2 y3 => K (mkSt sout0 ((y0, y1, y2, ()), y3, ()))) j = fun x0 x1 x2 x3 x4 => iter (roundK cfg (pick (cal n)) (lam n) fin 0 b0 sin0 sout0 K) j (mkSt sin0 ((x0, x1, x2, ()), x3, x4, ())) := funext fun x0 => funext fun x1 => funext fun x2 => funext fun x3 => funext fun x4 => l0_eq n K j x0 x1 x2 x3 x4
    rw [spec_l1Cur_colours.l0, ih]
    show _ = roundK cfg (pick (cal n)) (lam n) fin 0 b0 sin0 sout0 K (iter (roundK cfg (pick (cal n)) (lam n) fin 0 b0 sin0 sout0 K) j) (mkSt sin0 ((x0, x1, x2, ()), x3, x4, ()))
    kernel_rfl
theorem loops (n : Nat) : LoopsOk cfg (pick (cal n)) (lam n) fin (loopsOf cfg.blk code) := by
  have h : loopsOf cfg.blk code = [(0, b0)] := by kernel_rfl
  rw [h]
  intro p hp K st r hr
  simp only [List.mem_cons, List.not_mem_nil, or_false] at hp
  rcases hp with rfl
  · have hr' : (match absSt sin0 st with | some (x, _) => spec_l1Cur_colours.l0 n (fun y0 y1 y2 y3 => K (mkSt sout0 ((y0, y1, y2, ()), y3, ()))) n x.1.1 x.1.2.1 x.1.2.2.1 x.2.1 x.2.2.1 | none => none) = some r := hr
    split at hr'
    · rename_i x es hx
      rw [l0_eq] at hr'
      exact ⟨sin0, sout0, n, x, es, hx, hr'⟩
    · cases hr'
theorem F_eq (n : Nat) (x0 : List (Int)) (x1 : Int) (x2 : Int) : spec_l1Cur_colours.F n x0 x1 x2 = exK cfg (pick (cal n)) (lam n) fin code (fun _ _ => none) (mkSt shp ((x0, x1, x2, ()), ())) fin := by
  kernel_rfl
def pfn (n : Nat) : PFn := mkBox bs rshp.ks outs (fun x xs => spec_l1Cur_colours.F n x.1 x.2.1 x.2.2.1) out
theorem ok (n : Nat) : (pfn n).Ok Go.Proofs.Tryz.prog 42 :=
  mkBox_ok (rshp := rshp) (fn := Go.Proofs.Tryz.f42) (code := code) Go.Proofs.Tryz.func42 (by kernel_rfl) (by decide) (C := cfg) (Φ := pick (cal n)) (Λ := lam n) (into := into) hT (cal_ok n) (by kernel_rfl) rfl (by decide) rfl rfl rfl (by decide) (fun _ _ => rfl) (loops n)
    (fun x xs r h => by
      have e := F_eq n x.1 x.2.1 x.2.2.1
      exact e.symm.trans h)
end spec_l1Cur_colours
end
/-! ### loop.example/g01158/spec.DrawFreeColours -/
section
namespace spec_DrawFreeColours
noncomputable def code : Code := (Go.Proofs.Tryz.f18.body).getD .skip
abbrev shp : Shape := [(0, .one (.row (.int .u8) false))]
abbrev outs : List KD := [.agg [.int .i64, .row (.t3) true, .row (.int .i64) true], .one (.int .i64)]
abbrev R : Type := Int × (List (Int × Int × Int)) × (List (Int)) × Int
def out : R → denL outs := fun r => ((r.1, r.2.1, r.2.2.1, ()), r.2.2.2, ())
def into : denL outs → R := fun y => (y.1.1, y.1.2.1, y.1.2.2.1, y.2.1)
def cfg : Cfg := ⟨ty, 12, [], fun _ => .plain, fun _ => none⟩
def cal (n : Nat) : List (Nat × PFn) := [(31, spec_l1Cur_maze.pfn n), (42, spec_l1Cur_colours.pfn n)]
theorem cal_ok (n : Nat) : ∀ g, (pick (cal n) g).Ok Go.Proofs.Tryz.prog g := pick_ok (by
  intro p hp
  simp only [cal, List.mem_cons, List.not_mem_nil, or_false] at hp
  rcases hp with rfl | rfl
  · exact spec_l1Cur_maze.ok n
  · exact spec_l1Cur_colours.ok n)
def fin : St → Option R := finOf ty [.cell 2 27, .tmp 3] outs into
def lam (n : Nat) : Nat → (St → Option R) → St → Option R := fun _ => fun _ _ => none
theorem loops (n : Nat) : LoopsOk cfg (pick (cal n)) (lam n) fin (loopsOf cfg.blk code) := by
  have h : loopsOf cfg.blk code = [] := by kernel_rfl
  rw [h]
  intro p hp
  cases hp
theorem F_eq (n : Nat) (x0 : List (Int)) : spec_DrawFreeColours.F n x0 = exK cfg (pick (cal n)) (lam n) fin code (fun _ _ => none) (mkSt shp (x0, ())) fin := by
  kernel_rfl
def pfn (n : Nat) : PFn := mkFn shp outs (fun x => spec_DrawFreeColours.F n x.1) out
theorem ok (n : Nat) : (pfn n).Ok Go.Proofs.Tryz.prog 18 :=
  mkFn_ok (fn := Go.Proofs.Tryz.f18) (code := code) Go.Proofs.Tryz.func18 (by kernel_rfl) (by decide) (C := cfg) (Φ := pick (cal n)) (Λ := lam n) (into := into) hT (cal_ok n) (by kernel_rfl) rfl (by decide) rfl (fun _ => rfl) (loops n)
    (fun x r h => by
      have e := F_eq n x.1
      exact e.symm.trans h)
end spec_DrawFreeColours
end
/-! ### loop.example/g01158/impl.FreeColours$1 -/
section
namespace impl_FreeColours_1_c0
noncomputable def code : Code := (Go.Proofs.Tryz.f44.body).getD .skip
abbrev shp : Shape := [(0, .one (.int .i64)), (1, .box false [.int .i64])]
abbrev outs : List KD := [.one (.int .i64)]
abbrev R : Type := Int
def out : R → denL outs := fun r => (r, ())
def into : denL outs → R := fun y => y.1
def cfg : Cfg := ⟨ty, 7, [], fun _ => .plain, fun _ => none⟩
def cal (n : Nat) : List (Nat × PFn) := []
theorem cal_ok (n : Nat) : ∀ g, (pick (cal n) g).Ok Go.Proofs.Tryz.prog g := pick_ok (by
  intro p hp
  cases hp)
def fin : St → Option R := finOf ty [.tmp 3] outs into
def lam (n : Nat) : Nat → (St → Option R) → St → Option R := fun _ => fun _ _ => none
theorem loops (n : Nat) : LoopsOk cfg (pick (cal n)) (lam n) fin (loopsOf cfg.blk code) := by
  have h : loopsOf cfg.blk code = [] := by kernel_rfl
  rw [h]
  intro p hp
  cases hp
theorem F_eq (n : Nat) (x0 : Int) (x1 : Int) : impl_FreeColours_1_c0.F n x0 x1 = exK cfg (pick (cal n)) (lam n) fin code (fun _ _ => none) (mkSt shp (x0, (x1, ()), ())) fin := by
  kernel_rfl
def pfn (n : Nat) : PFn := mkFn shp outs (fun x => impl_FreeColours_1_c0.F n x.1 x.2.1.1) out
theorem ok (n : Nat) : (pfn n).Ok Go.Proofs.Tryz.prog 44 :=
  mkFn_ok (fn := Go.Proofs.Tryz.f44) (code := code) Go.Proofs.Tryz.func44 (by kernel_rfl) (by decide) (C := cfg) (Φ := pick (cal n)) (Λ := lam n) (into := into) hT (cal_ok n) (by kernel_rfl) rfl (by decide) rfl (fun _ => rfl) (loops n)
    (fun x r h => by
      have e := F_eq n x.1 x.2.1.1
      exact e.symm.trans h)
end impl_FreeColours_1_c0
end
/-! ### loop.example/g01158/impl.changed -/
section
namespace impl_changed_cFreeColours_1
noncomputable def code : Code := (Go.Proofs.Tryz.f34.body).getD .skip
abbrev shp : Shape := [(0, .agg [.int .i64, .row (.t3) false, .row (.int .i64) false]), (1, .cap (.box false [.int .i64]) (.fn 44 []))]
abbrev outs : List KD := [.agg [.int .i64, .row (.t3) true, .row (.int .i64) true]]
abbrev R : Type := Int × (List (Int × Int × Int)) × (List (Int))
def out : R → denL outs := fun r => ((r.1, r.2.1, r.2.2, ()), ())
def into : denL outs → R := fun y => (y.1.1, y.1.2.1, y.1.2.2.1)
def cfg : Cfg := ⟨ty, 49, [], fun i => match Nat.beq i 0 with | true => .loop | false => match Nat.beq i 2 with | true => .loop | false => .plain, fun _ => none⟩
def cal (n : Nat) : List (Nat × PFn) := [(44, impl_FreeColours_1_c0.pfn n), (73, impl_own.pfn n), (74, impl_tidy.pfn n)]
theorem cal_ok (n : Nat) : ∀ g, (pick (cal n) g).Ok Go.Proofs.Tryz.prog g := pick_ok (by
  intro p hp
  simp only [cal, List.mem_cons, List.not_mem_nil, or_false] at hp
  rcases hp with rfl | rfl | rfl
  · exact impl_FreeColours_1_c0.ok n
  · exact impl_own.ok n
  · exact impl_tidy.ok n)
def fin : St → Option R := finOf ty [.cell 4 27] outs into
abbrev sin0 : Shape := [(1, .cap (.box false [.int .i64]) (.fn 44 [])), (4, .box true [.int .i64, .row (.t3) true, .row (.int .i64) true]), (5, .box true [.int .i64, .row (.t3) true, .row (.int .i64) true]), (13, .one (.int .i64)), (14, .one (.int .i64))]
abbrev sout0 : Shape := [(1, .cap (.box false [.int .i64]) (.fn 44 [])), (4, .box true [.int .i64, .row (.t3) true, .row (.int .i64) true]), (5, .box true [.int .i64, .row (.t3) true, .row (.int .i64) true])]
abbrev sin2 : Shape := [(1, .cap (.box false [.int .i64]) (.fn 44 [])), (4, .box true [.int .i64, .row (.t3) true, .row (.int .i64) true]), (5, .box true [.int .i64, .row (.t3) true, .row (.int .i64) true]), (32, .one (.ref 6)), (33, .one (.int .i64)), (34, .one (.int .i64))]
abbrev sout2 : Shape := [(4, .box true [.int .i64, .row (.t3) true, .row (.int .i64) true]), (5, .box true [.int .i64, .row (.t3) true, .row (.int .i64) true])]
def lam (n : Nat) : Nat → (St → Option R) → St → Option R := fun i => match Nat.beq i 0 with | true => (fun K st => match absSt sin0 st with | some (x, _) => impl_changed_cFreeColours_1.l0 n (fun y0 y1 y2 y3 y4 y5 y6 => K (mkSt sout0 (((y0, ()), ()), (y1, y2, y3, ()), (y4, y5, y6, ()), ()))) n x.1.1.1 x.2.1.1 x.2.1.2.1 x.2.1.2.2.1 x.2.2.1.1 x.2.2.1.2.1 x.2.2.1.2.2.1 x.2.2.2.1 x.2.2.2.2.1 | none => none) | false => match Nat.beq i 2 with | true => (fun K st => match absSt sin2 st with | some (x, _) => impl_changed_cFreeColours_1.l2 n (fun y0 y1 y2 y3 y4 y5 => K (mkSt sout2 ((y0, y1, y2, ()), (y3, y4, y5, ()), ()))) n x.1.1.1 x.2.1.1 x.2.1.2.1 x.2.1.2.2.1 x.2.2.1.1 x.2.2.1.2.1 x.2.2.1.2.2.1 x.2.2.2.2.1 x.2.2.2.2.2.1 | none => none) | false => fun _ _ => none
noncomputable def lps : List (Nat × Code) := loopsOf cfg.blk code
noncomputable def b0 : Code := bodyOf lps 0
theorem l0_eq (n : Nat) (K : St → Option R) : ∀ (j : Nat) (x0 : Int) (x1 : Int) (x2 : List (Int × Int × Int)) (x3 : List (Int)) (x4 : Int) (x5 : List (Int × Int × Int)) (x6 : List (Int)) (x7 : Int) (x8 : Int), impl_changed_cFreeColours_1.l0 n (fun y0 y1 y2 y3 y4 y5 y6 => K (mkSt sout0 (((y0, ()), ()), (y1, y2, y3, ()), (y4, y5, y6, ()), ()))) j x0 x1 x2 x3 x4 x5 x6 x7 x8 = iter (roundK cfg (pick (cal n)) (lam n) fin 0 b0 sin0 sout0 K) j (mkSt sin0 (((x0, ()), ()), (x1, x2, x3, ()), (x4, x5, x6, ()), x7, x8, ()))
  | 0, _, _, _, _, _, _, _, _, _ => rfl
  | j + 1, x0, x1, x2, x3, x4, x5, x6, x7, x8 => by
    have ih : impl_changed_cFreeColours_1.l0 n (fun y0 y1 y2 y3 y4 y5 y6 => K (mkSt sout0 (((y0, ()), ()), (y1, y2, y3, ()), (y4, y5, y6, ()), ()))) j = fun x0 x1 x2 x3 x4 x5 x6 x7 x8 => iter (roundK cfg (pick (cal n)) (lam n) fin 0 b0 sin0 sout0 K) j (mkSt sin0 (((x0, ()), ()), (x1, x2, x3, ()), (x4, x5, x6, ()), x7, x8, ())) := funext fun x0 => funext fun x1 => funext fun x2 => funext fun x3 => funext fun x4 => funext fun x5 => funext fun x6 => funext fun x7 => funext fun x8 => l0_eq n K j x0 x1 x2 x3 x4 x5 x6 x7 x8
    rw [impl_changed_cFreeColours_1.l0, ih]
    show _ = roundK cfg (pick (cal n)) (lam n) fin 0 b0 sin0 sout0 K (iter (roundK cfg (pick (cal n)) (lam n) fin 0 b0 sin0 sout0 K) j) (mkSt sin0 (((x0, ()), ()), (x1, x2, x3, ()), (x4, x5, x6, ()), x7, x8, ()))
    kernel_rfl
noncomputable def b2 : Code := bodyOf lps 2
theorem l2_eq (n : Nat) (K : St → Option R) : ∀ (j : Nat) (x0 : Int) (x1 : Int) (x2 : List (Int × Int × Int)) (x3 : List (Int)) (x4 : Int) (x5 : List (Int × Int × Int)) (x6 : List (Int)) (x7 : Int) (x8 : Int), impl_changed_cFreeColours_1.l2 n (fun y0 y1 y2 y3 y4 y5 => K (mkSt sout2 ((y0, y1, y2, ()), (y3, y4, y5, ()), ()))) j x0 x1 x2 x3 x4 x5 x6 x7 x8 = iter (roundK cfg (pick (cal n)) (lam n) fin 2 b2 sin2 sout2 K) j (mkSt sin2 (((x0, ()), ()), (x1, x2, x3, ()), (x4, x5, x6, ()), (), x7, x8, ()))
  | 0, _, _, _, _, _, _, _, _, _ => rfl
  | j + 1, x0, x1, x2, x3, x4, x5, x6, x7, x8 => by
    have ih : impl_changed_cFreeColours_1.l2 n (fun y0 y1 y2 y3 y4 y5 => K (mkSt sout2 ((y0, y1, y2, ()), (y3, y4, y5, ()), ()))) j = fun x0 x1 x2 x3 x4 x5 x6 x7 x8 => iter (roundK cfg (pick (cal n)) (lam n) fin 2 b2 sin2 sout2 K) j (mkSt sin2 (((x0, ()), ()), (x1, x2, x3, ()), (x4, x5, x6, ()), (), x7, x8, ())) := funext fun x0 => funext fun x1 => funext fun x2 => funext fun x3 => funext fun x4 => funext fun x5 => funext fun x6 => funext fun x7 => funext fun x8 => l2_eq n K j x0 x1 x2 x3 x4 x5 x6 x7 x8
    rw [impl_changed_cFreeColours_1.l2, ih]
    show _ = roundK cfg (pick (cal n)) (lam n) fin 2 b2 sin2 sout2 K (iter (roundK cfg (pick (cal n)) (lam n) fin 2 b2 sin2 sout2 K) j) (mkSt sin2 (((x0, ()), ()), (x1, x2, x3, ()), (x4, x5, x6, ()), (), x7, x8, ()))
    kernel_rfl
theorem loops (n : Nat) : LoopsOk cfg (pick (cal n)) (lam n) fin (loopsOf cfg.blk code) := by
  have h : loopsOf cfg.blk code = [(0, b0), (2, b2)] := by kernel_rfl
  rw [h]
  intro p hp K st r hr
  simp only [List.mem_cons, List.not_mem_nil, or_false] at hp
  rcases hp with rfl | rfl
  · have hr' : (match absSt sin0 st with | some (x, _) => impl_changed_cFreeColours_1.l0 n (fun y0 y1 y2 y3 y4 y5 y6 => K (mkSt sout0 (((y0, ()), ()), (y1, y2, y3, ()), (y4, y5, y6, ()), ()))) n x.1.1.1 x.2.1.1 x.2.1.2.1 x.2.1.2.2.1 x.2.2.1.1 x.2.2.1.2.1 x.2.2.1.2.2.1 x.2.2.2.1 x.2.2.2.2.1 | none => none) = some r := hr
    split at hr'
    · rename_i x es hx
      rw [l0_eq] at hr'
      exact ⟨sin0, sout0, n, x, es, hx, hr'⟩
    · cases hr'
  · have hr' : (match absSt sin2 st with | some (x, _) => impl_changed_cFreeColours_1.l2 n (fun y0 y1 y2 y3 y4 y5 => K (mkSt sout2 ((y0, y1, y2, ()), (y3, y4, y5, ()), ()))) n x.1.1.1 x.2.1.1 x.2.1.2.1 x.2.1.2.2.1 x.2.2.1.1 x.2.2.1.2.1 x.2.2.1.2.2.1 x.2.2.2.2.1 x.2.2.2.2.2.1 | none => none) = some r := hr
    split at hr'
    · rename_i x es hx
      rw [l2_eq] at hr'
      exact ⟨sin2, sout2, n, x, es, hx, hr'⟩
    · cases hr'
theorem F_eq (n : Nat) (x0 : Int) (x1 : List (Int × Int × Int)) (x2 : List (Int)) (x3 : Int) : impl_changed_cFreeColours_1.F n x0 x1 x2 x3 = exK cfg (pick (cal n)) (lam n) fin code (fun _ _ => none) (mkSt shp ((x0, x1, x2, ()), ((x3, ()), ()), ())) fin := by
  kernel_rfl
def pfn (n : Nat) : PFn := mkFn shp outs (fun x => impl_changed_cFreeColours_1.F n x.1.1 x.1.2.1 x.1.2.2.1 x.2.1.1.1) out
theorem ok (n : Nat) : (pfn n).Ok Go.Proofs.Tryz.prog 34 :=
  mkFn_ok (fn := Go.Proofs.Tryz.f34) (code := code) Go.Proofs.Tryz.func34 (by kernel_rfl) (by decide) (C := cfg) (Φ := pick (cal n)) (Λ := lam n) (into := into) hT (cal_ok n) (by kernel_rfl) rfl (by decide) rfl (fun _ => rfl) (loops n)
    (fun x r h => by
      have e := F_eq n x.1.1 x.1.2.1 x.1.2.2.1 x.2.1.1.1
      exact e.symm.trans h)
end impl_changed_cFreeColours_1
end
/-! ### loop.example/g01158/impl.FreeColours -/
section
namespace impl_FreeColours
noncomputable def code : Code := (Go.Proofs.Tryz.f19.body).getD .skip
abbrev shp : Shape := [(0, .agg [.int .i64, .row (.t3) false, .row (.int .i64) false]), (1, .one (.int .i64))]
abbrev outs : List KD := [.agg [.int .i64, .row (.t3) true, .row (.int .i64) true], .one (.bool)]
abbrev R : Type := Int × (List (Int × Int × Int)) × (List (Int)) × Bool
def out : R → denL outs := fun r => ((r.1, r.2.1, r.2.2.1, ()), r.2.2.2, ())
def into : denL outs → R := fun y => (y.1.1, y.1.2.1, y.1.2.2.1, y.2.1)
def cfg : Cfg := ⟨ty, 18, [], fun _ => .plain, fun _ => none⟩
def cal (n : Nat) : List (Nat × PFn) := [(27, impl_IsMaze.pfn n), (34, impl_changed_cFreeColours_1.pfn n), (43, impl_isSet.pfn n)]
theorem cal_ok (n : Nat) : ∀ g, (pick (cal n) g).Ok Go.Proofs.Tryz.prog g := pick_ok (by
  intro p hp
  simp only [cal, List.mem_cons, List.not_mem_nil, or_false] at hp
  rcases hp with rfl | rfl | rfl
  · exact impl_IsMaze.ok n
  · exact impl_changed_cFreeColours_1.ok n
  · exact impl_isSet.ok n)
def fin : St → Option R := finOf ty [.cell 4 27, .tmp 5] outs into
def lam (n : Nat) : Nat → (St → Option R) → St → Option R := fun _ => fun _ _ => none
theorem loops (n : Nat) : LoopsOk cfg (pick (cal n)) (lam n) fin (loopsOf cfg.blk code) := by
  have h : loopsOf cfg.blk code = [] := by kernel_rfl
  rw [h]
  intro p hp
  cases hp
theorem F_eq (n : Nat) (x0 : Int) (x1 : List (Int × Int × Int)) (x2 : List (Int)) (x3 : Int) : impl_FreeColours.F n x0 x1 x2 x3 = exK cfg (pick (cal n)) (lam n) fin code (fun _ _ => none) (mkSt shp ((x0, x1, x2, ()), x3, ())) fin := by
  kernel_rfl
def pfn (n : Nat) : PFn := mkFn shp outs (fun x => impl_FreeColours.F n x.1.1 x.1.2.1 x.1.2.2.1 x.2.1) out
theorem ok (n : Nat) : (pfn n).Ok Go.Proofs.Tryz.prog 19 :=
  mkFn_ok (fn := Go.Proofs.Tryz.f19) (code := code) Go.Proofs.Tryz.func19 (by kernel_rfl) (by decide) (C := cfg) (Φ := pick (cal n)) (Λ := lam n) (into := into) hT (cal_ok n) (by kernel_rfl) rfl (by decide) rfl (fun _ => rfl) (loops n)
    (fun x r h => by
      have e := F_eq n x.1.1 x.1.2.1 x.1.2.2.1 x.2.1
      exact e.symm.trans h)
end impl_FreeColours
end
/-! ### loop.example/g01158/spec.FreeColours -/
section
namespace spec_FreeColours
noncomputable def code : Code := (Go.Proofs.Tryz.f20.body).getD .skip
abbrev shp : Shape := [(0, .agg [.int .i64, .row (.t3) false, .row (.int .i64) false]), (1, .one (.int .i64))]
abbrev outs : List KD := [.agg [.int .i64, .row (.t3) true, .row (.int .i64) true], .one (.bool)]
abbrev R : Type := Int × (List (Int × Int × Int)) × (List (Int)) × Bool
def out : R → denL outs := fun r => ((r.1, r.2.1, r.2.2.1, ()), r.2.2.2, ())
def into : denL outs → R := fun y => (y.1.1, y.1.2.1, y.1.2.2.1, y.2.1)
def cfg : Cfg := ⟨ty, 73, [], fun i => match Nat.beq i 0 with | true => .loop | false => match Nat.beq i 2 with | true => .loop | false => .plain, fun i => match Nat.beq i 3 with | true => some [(1, .one (.int .i64)), (2, .box true [.int .i64, .row (.t3) false, .row (.int .i64) false]), (4, .box true [.int .i64, .row (.t3) true, .row (.int .i64) true])] | false => none⟩
def cal (n : Nat) : List (Nat × PFn) := [(29, spec_l2Maze.pfn n), (38, spec_l2Put.pfn n), (45, spec_l2Set.pfn n)]
theorem cal_ok (n : Nat) : ∀ g, (pick (cal n) g).Ok Go.Proofs.Tryz.prog g := pick_ok (by
  intro p hp
  simp only [cal, List.mem_cons, List.not_mem_nil, or_false] at hp
  rcases hp with rfl | rfl | rfl
  · exact spec_l2Maze.ok n
  · exact spec_l2Put.ok n
  · exact spec_l2Set.ok n)
def fin : St → Option R := finOf ty [.cell 4 27, .tmp 5] outs into
abbrev sin0 : Shape := [(1, .one (.int .i64)), (2, .box true [.int .i64, .row (.t3) false, .row (.int .i64) false]), (4, .box true [.int .i64, .row (.t3) true, .row (.int .i64) true]), (6, .box true [.int .i64, .row (.t3) true, .row (.int .i64) true]), (7, .one (.int .i64))]
abbrev sout0 : Shape := [(1, .one (.int .i64)), (2, .box true [.int .i64, .row (.t3) false, .row (.int .i64) false]), (4, .box true [.int .i64, .row (.t3) true, .row (.int .i64) true]), (6, .box true [.int .i64, .row (.t3) true, .row (.int .i64) true])]
abbrev sin2 : Shape := [(1, .one (.int .i64)), (2, .box true [.int .i64, .row (.t3) false, .row (.int .i64) false]), (4, .box true [.int .i64, .row (.t3) true, .row (.int .i64) true]), (6, .box true [.int .i64, .row (.t3) true, .row (.int .i64) true]), (8, .one (.int .i64))]
abbrev sout2 : Shape := [(4, .box true [.int .i64, .row (.t3) true, .row (.int .i64) true]), (6, .box true [.int .i64, .row (.t3) true, .row (.int .i64) true])]
def lam (n : Nat) : Nat → (St → Option R) → St → Option R := fun i => match Nat.beq i 0 with | true => (fun K st => match absSt sin0 st with | some (x, _) => spec_FreeColours.l0 n (fun y0 y1 y2 y3 y4 y5 y6 y7 y8 y9 => K (mkSt sout0 (y0, (y1, y2, y3, ()), (y4, y5, y6, ()), (y7, y8, y9, ()), ()))) n x.1 x.2.1.1 x.2.1.2.1 x.2.1.2.2.1 x.2.2.1.1 x.2.2.1.2.1 x.2.2.1.2.2.1 x.2.2.2.1.1 x.2.2.2.1.2.1 x.2.2.2.1.2.2.1 x.2.2.2.2.1 | none => none) | false => match Nat.beq i 2 with | true => (fun K st => match absSt sin2 st with | some (x, _) => spec_FreeColours.l2 n (fun y0 y1 y2 y3 y4 y5 => K (mkSt sout2 ((y0, y1, y2, ()), (y3, y4, y5, ()), ()))) n x.1 x.2.1.1 x.2.1.2.1 x.2.1.2.2.1 x.2.2.1.1 x.2.2.1.2.1 x.2.2.1.2.2.1 x.2.2.2.1.1 x.2.2.2.1.2.1 x.2.2.2.1.2.2.1 x.2.2.2.2.1 | none => none) | false => fun _ _ => none
noncomputable def lps : List (Nat × Code) := loopsOf cfg.blk code
noncomputable def b0 : Code := bodyOf lps 0
theorem l0_eq (n : Nat) (K : St → Option R) : ∀ (j : Nat) (x0 : Int) (x1 : Int) (x2 : List (Int × Int × Int)) (x3 : List (Int)) (x4 : Int) (x5 : List (Int × Int × Int)) (x6 : List (Int)) (x7 : Int) (x8 : List (Int × Int × Int)) (x9 : List (Int)) (x10 : Int), spec_FreeColours.l0 n (fun y0 y1 y2 y3 y4 y5 y6 y7 y8 y9 => K (mkSt sout0 (y0, (y1, y2, y3, ()), (y4, y5, y6, ()), (y7, y8, y9, ()), ()))) j x0 x1 x2 x3 x4 x5 x6 x7 x8 x9 x10 = iter (roundK cfg (pick (cal n)) (lam n) fin 0 b0 sin0 sout0 K) j (mkSt sin0 (x0, (x1, x2, x3, ()), (x4, x5, x6, ()), (x7, x8, x9, ()), x10, ()))
  | 0, _, _, _, _, _, _, _, _, _, _, _ => rfl
  | j + 1, x0, x1, x2, x3, x4, x5, x6, x7, x8, x9, x10 => by
    have ih : spec_FreeColours.l0 n (fun y0 y1 y2 y3 y4 y5 y6 y7 y8 y9 => K (mkSt sout0 (y0, (y1, y2, y3, ()), (y4, y5, y6, ()), (y7, y8, y9, ()), ()))) j = fun x0 x1 x2 x3 x4 x5 x6 x7 x8 x9 x10 => iter (roundK cfg (pick (cal n)) (lam n) fin 0 b0 sin0 sout0 K) j (mkSt sin0 (x0, (x1, x2, x3, ()), (x4, x5, x6, ()), (x7, x8, x9, ()), x10, ())) := funext fun x0 => funext fun x1 => funext fun x2 => funext fun x3 => funext fun x4 => funext fun x5 => funext fun x6 => funext fun x7 => funext fun x8 => funext fun x9 => funext fun x10 => l0_eq n K j x0 x1 x2 x3 x4 x5 x6 x7 x8 x9 x10
    rw [spec_FreeColours.l0, ih]
    show _ = roundK cfg (pick (cal n)) (lam n) fin 0 b0 sin0 sout0 K (iter (roundK cfg (pick (cal n)) (lam n) fin 0 b0 sin0 sout0 K) j) (mkSt sin0 (x0, (x1, x2, x3, ()), (x4, x5, x6, ()), (x7, x8, x9, ()), x10, ()))
    kernel_rfl
noncomputable def b2 : Code := bodyOf lps 2
theorem l2_eq (n : Nat) (K : St → Option R) : ∀ (j : Nat) (x0 : Int) (x1 : Int) (x2 : List (Int × Int × Int)) (x3 : List (Int)) (x4 : Int) (x5 : List (Int × Int × Int)) (x6 : List (Int)) (x7 : Int) (x8 : List (Int × Int × Int)) (x9 : List (Int)) (x10 : Int), spec_FreeColours.l2 n (fun y0 y1 y2 y3 y4 y5 => K (mkSt sout2 ((y0, y1, y2, ()), (y3, y4, y5, ()), ()))) j x0 x1 x2 x3 x4 x5 x6 x7 x8 x9 x10 = iter (roundK cfg (pick (cal n)) (lam n) fin 2 b2 sin2 sout2 K) j (mkSt sin2 (x0, (x1, x2, x3, ()), (x4, x5, x6, ()), (x7, x8, x9, ()), x10, ()))
  | 0, _, _, _, _, _, _, _, _, _, _, _ => rfl
  | j + 1, x0, x1, x2, x3, x4, x5, x6, x7, x8, x9, x10 => by
    have ih : spec_FreeColours.l2 n (fun y0 y1 y2 y3 y4 y5 => K (mkSt sout2 ((y0, y1, y2, ()), (y3, y4, y5, ()), ()))) j = fun x0 x1 x2 x3 x4 x5 x6 x7 x8 x9 x10 => iter (roundK cfg (pick (cal n)) (lam n) fin 2 b2 sin2 sout2 K) j (mkSt sin2 (x0, (x1, x2, x3, ()), (x4, x5, x6, ()), (x7, x8, x9, ()), x10, ())) := funext fun x0 => funext fun x1 => funext fun x2 => funext fun x3 => funext fun x4 => funext fun x5 => funext fun x6 => funext fun x7 => funext fun x8 => funext fun x9 => funext fun x10 => l2_eq n K j x0 x1 x2 x3 x4 x5 x6 x7 x8 x9 x10
    rw [spec_FreeColours.l2, ih]
    show _ = roundK cfg (pick (cal n)) (lam n) fin 2 b2 sin2 sout2 K (iter (roundK cfg (pick (cal n)) (lam n) fin 2 b2 sin2 sout2 K) j) (mkSt sin2 (x0, (x1, x2, x3, ()), (x4, x5, x6, ()), (x7, x8, x9, ()), x10, ()))
    kernel_rfl
theorem loops (n : Nat) : LoopsOk cfg (pick (cal n)) (lam n) fin (loopsOf cfg.blk code) := by
  have h : loopsOf cfg.blk code = [(0, b0), (2, b2)] := by kernel_rfl
  rw [h]
  intro p hp K st r hr
  simp only [List.mem_cons, List.not_mem_nil, or_false] at hp
  rcases hp with rfl | rfl
  · have hr' : (match absSt sin0 st with | some (x, _) => spec_FreeColours.l0 n (fun y0 y1 y2 y3 y4 y5 y6 y7 y8 y9 => K (mkSt sout0 (y0, (y1, y2, y3, ()), (y4, y5, y6, ()), (y7, y8, y9, ()), ()))) n x.1 x.2.1.1 x.2.1.2.1 x.2.1.2.2.1 x.2.2.1.1 x.2.2.1.2.1 x.2.2.1.2.2.1 x.2.2.2.1.1 x.2.2.2.1.2.1 x.2.2.2.1.2.2.1 x.2.2.2.2.1 | none => none) = some r := hr
    split at hr'
    · rename_i x es hx
      rw [l0_eq] at hr'
      exact ⟨sin0, sout0, n, x, es, hx, hr'⟩
    · cases hr'
  · have hr' : (match absSt sin2 st with | some (x, _) => spec_FreeColours.l2 n (fun y0 y1 y2 y3 y4 y5 => K (mkSt sout2 ((y0, y1, y2, ()), (y3, y4, y5, ()), ()))) n x.1 x.2.1.1 x.2.1.2.1 x.2.1.2.2.1 x.2.2.1.1 x.2.2.1.2.1 x.2.2.1.2.2.1 x.2.2.2.1.1 x.2.2.2.1.2.1 x.2.2.2.1.2.2.1 x.2.2.2.2.1 | none => none) = some r := hr
    split at hr'
    · rename_i x es hx
      rw [l2_eq] at hr'
      exact ⟨sin2, sout2, n, x, es, hx, hr'⟩
    · cases hr'
theorem F_eq (n : Nat) (x0 : Int) (x1 : List (Int × Int × Int)) (x2 : List (Int)) (x3 : Int) : spec_FreeColours.F n x0 x1 x2 x3 = exK cfg (pick (cal n)) (lam n) fin code (fun _ _ => none) (mkSt shp ((x0, x1, x2, ()), x3, ())) fin := by
  kernel_rfl
def pfn (n : Nat) : PFn := mkFn shp outs (fun x => spec_FreeColours.F n x.1.1 x.1.2.1 x.1.2.2.1 x.2.1) out
theorem ok (n : Nat) : (pfn n).Ok Go.Proofs.Tryz.prog 20 :=
  mkFn_ok (fn := Go.Proofs.Tryz.f20) (code := code) Go.Proofs.Tryz.func20 (by kernel_rfl) (by decide) (C := cfg) (Φ := pick (cal n)) (Λ := lam n) (into := into) hT (cal_ok n) (by kernel_rfl) rfl (by decide) rfl (fun _ => rfl) (loops n)
    (fun x r h => by
      have e := F_eq n x.1.1 x.1.2.1 x.1.2.2.1 x.2.1
      exact e.symm.trans h)
end spec_FreeColours
end
/-! ### loop.example/g01158/impl.BarColours$1 -/
section
namespace impl_BarColours_1_c0
noncomputable def code : Code := (Go.Proofs.Tryz.f46.body).getD .skip
abbrev shp : Shape := [(0, .one (.int .i64)), (1, .box false [.int .i64])]
abbrev outs : List KD := [.one (.int .i64)]
abbrev R : Type := Int
def out : R → denL outs := fun r => (r, ())
def into : denL outs → R := fun y => y.1
def cfg : Cfg := ⟨ty, 7, [], fun _ => .plain, fun _ => none⟩
def cal (n : Nat) : List (Nat × PFn) := []
theorem cal_ok (n : Nat) : ∀ g, (pick (cal n) g).Ok Go.Proofs.Tryz.prog g := pick_ok (by
  intro p hp
  cases hp)
def fin : St → Option R := finOf ty [.tmp 3] outs into
def lam (n : Nat) : Nat → (St → Option R) → St → Option R := fun _ => fun _ _ => none
theorem loops (n : Nat) : LoopsOk cfg (pick (cal n)) (lam n) fin (loopsOf cfg.blk code) := by
  have h : loopsOf cfg.blk code = [] := by kernel_rfl
  rw [h]
  intro p hp
  cases hp
theorem F_eq (n : Nat) (x0 : Int) (x1 : Int) : impl_BarColours_1_c0.F n x0 x1 = exK cfg (pick (cal n)) (lam n) fin code (fun _ _ => none) (mkSt shp (x0, (x1, ()), ())) fin := by
  kernel_rfl
def pfn (n : Nat) : PFn := mkFn shp outs (fun x => impl_BarColours_1_c0.F n x.1 x.2.1.1) out
theorem ok (n : Nat) : (pfn n).Ok Go.Proofs.Tryz.prog 46 :=
  mkFn_ok (fn := Go.Proofs.Tryz.f46) (code := code) Go.Proofs.Tryz.func46 (by kernel_rfl) (by decide) (C := cfg) (Φ := pick (cal n)) (Λ := lam n) (into := into) hT (cal_ok n) (by kernel_rfl) rfl (by decide) rfl (fun _ => rfl) (loops n)
    (fun x r h => by
      have e := F_eq n x.1 x.2.1.1
      exact e.symm.trans h)
end impl_BarColours_1_c0
end
/-! ### loop.example/g01158/impl.changed -/
section
namespace impl_changed_cBarColours_1
noncomputable def code : Code := (Go.Proofs.Tryz.f34.body).getD .skip
abbrev shp : Shape := [(0, .agg [.int .i64, .row (.t3) false, .row (.int .i64) false]), (1, .cap (.box false [.int .i64]) (.fn 46 []))]
abbrev outs : List KD := [.agg [.int .i64, .row (.t3) true, .row (.int .i64) true]]
abbrev R : Type := Int × (List (Int × Int × Int)) × (List (Int))
def out : R → denL outs := fun r => ((r.1, r.2.1, r.2.2, ()), ())
def into : denL outs → R := fun y => (y.1.1, y.1.2.1, y.1.2.2.1)
def cfg : Cfg := ⟨ty, 49, [], fun i => match Nat.beq i 0 with | true => .loop | false => match Nat.beq i 2 with | true => .loop | false => .plain, fun _ => none⟩
def cal (n : Nat) : List (Nat × PFn) := [(46, impl_BarColours_1_c0.pfn n), (73, impl_own.pfn n), (74, impl_tidy.pfn n)]
theorem cal_ok (n : Nat) : ∀ g, (pick (cal n) g).Ok Go.Proofs.Tryz.prog g := pick_ok (by
  intro p hp
  simp only [cal, List.mem_cons, List.not_mem_nil, or_false] at hp
  rcases hp with rfl | rfl | rfl
  · exact impl_BarColours_1_c0.ok n
  · exact impl_own.ok n
  · exact impl_tidy.ok n)
def fin : St → Option R := finOf ty [.cell 4 27] outs into
abbrev sin0 : Shape := [(1, .cap (.box false [.int .i64]) (.fn 46 [])), (4, .box true [.int .i64, .row (.t3) true, .row (.int .i64) true]), (5, .box true [.int .i64, .row (.t3) true, .row (.int .i64) true]), (13, .one (.int .i64)), (14, .one (.int .i64))]
abbrev sout0 : Shape := [(1, .cap (.box false [.int .i64]) (.fn 46 [])), (4, .box true [.int .i64, .row (.t3) true, .row (.int .i64) true]), (5, .box true [.int .i64, .row (.t3) true, .row (.int .i64) true])]
abbrev sin2 : Shape := [(1, .cap (.box false [.int .i64]) (.fn 46 [])), (4, .box true [.int .i64, .row (.t3) true, .row (.int .i64) true]), (5, .box true [.int .i64, .row (.t3) true, .row (.int .i64) true]), (32, .one (.ref 6)), (33, .one (.int .i64)), (34, .one (.int .i64))]
abbrev sout2 : Shape := [(4, .box true [.int .i64, .row (.t3) true, .row (.int .i64) true]), (5, .box true [.int .i64, .row (.t3) true, .row (.int .i64) true])]
def lam (n : Nat) : Nat → (St → Option R) → St → Option R := fun i => match Nat.beq i 0 with | true => (fun K st => match absSt sin0 st with | some (x, _) => impl_changed_cBarColours_1.l0 n (fun y0 y1 y2 y3 y4 y5 y6 => K (mkSt sout0 (((y0, ()), ()), (y1, y2, y3, ()), (y4, y5, y6, ()), ()))) n x.1.1.1 x.2.1.1 x.2.1.2.1 x.2.1.2.2.1 x.2.2.1.1 x.2.2.1.2.1 x.2.2.1.2.2.1 x.2.2.2.1 x.2.2.2.2.1 | none => none) | false => match Nat.beq i 2 with | true => (fun K st => match absSt sin2 st with | some (x, _) => impl_changed_cBarColours_1.l2 n (fun y0 y1 y2 y3 y4 y5 => K (mkSt sout2 ((y0, y1, y2, ()), (y3, y4, y5, ()), ()))) n x.1.1.1 x.2.1.1 x.2.1.2.1 x.2.1.2.2.1 x.2.2.1.1 x.2.2.1.2.1 x.2.2.1.2.2.1 x.2.2.2.2.1 x.2.2.2.2.2.1 | none => none) | false => fun _ _ => none
noncomputable def lps : List (Nat × Code) := loopsOf cfg.blk code
noncomputable def b0 : Code := bodyOf lps 0
theorem l0_eq (n : Nat) (K : St → Option R) : ∀ (j : Nat) (x0 : Int) (x1 : Int) (x2 : List (Int × Int × Int)) (x3 : List (Int)) (x4 : Int) (x5 : List (Int × Int × Int)) (x6 : List (Int)) (x7 : Int) (x8 : Int), impl_changed_cBarColours_1.l0 n (fun y0 y1 y2 y3 y4 y5 y6 => K (mkSt sout0 (((y0, ()), ()), (y1, y2, y3, ()), (y4, y5, y6, ()), ()))) j x0 x1 x2 x3 x4 x5 x6 x7 x8 = iter (roundK cfg (pick (cal n)) (lam n) fin 0 b0 sin0 sout0 K) j (mkSt sin0 (((x0, ()), ()), (x1, x2, x3, ()), (x4, x5, x6, ()), x7, x8, ()))
  | 0, _, _, _, _, _, _, _, _, _ => rfl
  | j + 1, x0, x1, x2, x3, x4, x5, x6, x7, x8 => by
    have ih : impl_changed_cBarColours_1.l0 n (fun y0 y1 y2 y3 y4 y5 y6 => K (mkSt sout0 (((y0, ()), ()), (y1, y2, y3, ()), (y4, y5, y6, ()), ()))) j = fun x0 x1 x2 x3 x4 x5 x6 x7 x8 => iter (roundK cfg (pick (cal n)) (lam n) fin 0 b0 sin0 sout0 K) j (mkSt sin0 (((x0, ()), ()), (x1, x2, x3, ()), (x4, x5, x6, ()), x7, x8, ())) := funext fun x0 => funext fun x1 => funext fun x2 => funext fun x3 => funext fun x4 => funext fun x5 => funext fun x6 => funext fun x7 => funext fun x8 => l0_eq n K j x0 x1 x2 x3 x4 x5 x6 x7 x8
    rw [impl_changed_cBarColours_1.l0, ih]
    show _ = roundK cfg (pick (cal n)) (lam n) fin 0 b0 sin0 sout0 K (iter (roundK cfg (pick (cal n)) (lam n) fin 0 b0 sin0 sout0 K) j) (mkSt sin0 (((x0, ()), ()), (x1, x2, x3, ()), (x4, x5, x6, ()), x7, x8, ()))
    kernel_rfl
noncomputable def b2 : Code := bodyOf lps 2
theorem l2_eq (n : Nat) (K : St → Option R) : ∀ (j : Nat) (x0 : Int) (x1 : Int) (x2 : List (Int × Int × Int)) (x3 : List (Int)) (x4 : Int) (x5 : List (Int × Int × Int)) (x6 : List (Int)) (x7 : Int) (x8 : Int), impl_changed_cBarColours_1.l2 n (fun y0 y1 y2 y3 y4 y5 => K (mkSt sout2 ((y0, y1, y2, ()), (y3, y4, y5, ()), ()))) j x0 x1 x2 x3 x4 x5 x6 x7 x8 = iter (roundK cfg (pick (cal n)) (lam n) fin 2 b2 sin2 sout2 K) j (mkSt sin2 (((x0, ()), ()), (x1, x2, x3, ()), (x4, x5, x6, ()), (), x7, x8, ()))
  | 0, _, _, _, _, _, _, _, _, _ => rfl
  | j + 1, x0, x1, x2, x3, x4, x5, x6, x7, x8 => by
    have ih : impl_changed_cBarColours_1.l2 n (fun y0 y1 y2 y3 y4 y5 => K (mkSt sout2 ((y0, y1, y2, ()), (y3, y4, y5, ()), ()))) j = fun x0 x1 x2 x3 x4 x5 x6 x7 x8 => iter (roundK cfg (pick (cal n)) (lam n) fin 2 b2 sin2 sout2 K) j (mkSt sin2 (((x0, ()), ()), (x1, x2, x3, ()), (x4, x5, x6, ()), (), x7, x8, ())) := funext fun x0 => funext fun x1 => funext fun x2 => funext fun x3 => funext fun x4 => funext fun x5 => funext fun x6 => funext fun x7 => funext fun x8 => l2_eq n K j x0 x1 x2 x3 x4 x5 x6 x7 x8
    rw [impl_changed_cBarColours_1.l2, ih]
    show _ = roundK cfg (pick (cal n)) (lam n) fin 2 b2 sin2 sout2 K (iter (roundK cfg (pick (cal n)) (lam n) fin 2 b2 sin2 sout2 K) j) (mkSt sin2 (((x0, ()), ()), (x1, x2, x3, ()), (x4, x5, x6, ()), (), x7, x8, ()))
    kernel_rfl
theorem loops (n : Nat) : LoopsOk cfg (pick (cal n)) (lam n) fin (loopsOf cfg.blk code) := by
  have h : loopsOf cfg.blk code = [(0, b0), (2, b2)] := by kernel_rfl
  rw [h]
  intro p hp K st r hr
  simp only [List.mem_cons, List.not_mem_nil, or_false] at hp
  rcases hp with rfl | rfl
  · have hr' : (match absSt sin0 st with | some (x, _) => impl_changed_cBarColours_1.l0 n (fun y0 y1 y2 y3 y4 y5 y6 => K (mkSt sout0 (((y0, ()), ()), (y1, y2, y3, ()), (y4, y5, y6, ()), ()))) n x.1.1.1 x.2.1.1 x.2.1.2.1 x.2.1.2.2.1 x.2.2.1.1 x.2.2.1.2.1 x.2.2.1.2.2.1 x.2.2.2.1 x.2.2.2.2.1 | none => none) = some r := hr
    split at hr'
    · rename_i x es hx
      rw [l0_eq] at hr'
      exact ⟨sin0, sout0, n, x, es, hx, hr'⟩
    · cases hr'
  · have hr' : (match absSt sin2 st with | some (x, _) => impl_changed_cBarColours_1.l2 n (fun y0 y1 y2 y3 y4 y5 => K (mkSt sout2 ((y0, y1, y2, ()), (y3, y4, y5, ()), ()))) n x.1.1.1 x.2.1.1 x.2.1.2.1 x.2.1.2.2.1 x.2.2.1.1 x.2.2.1.2.1 x.2.2.1.2.2.1 x.2.2.2.2.1 x.2.2.2.2.2.1 | none => none) = some r := hr
    split at hr'
    · rename_i x es hx
      rw [l2_eq] at hr'
      exact ⟨sin2, sout2, n, x, es, hx, hr'⟩
    · cases hr'
theorem F_eq (n : Nat) (x0 : Int) (x1 : List (Int × Int × Int)) (x2 : List (Int)) (x3 : Int) : impl_changed_cBarColours_1.F n x0 x1 x2 x3 = exK cfg (pick (cal n)) (lam n) fin code (fun _ _ => none) (mkSt shp ((x0, x1, x2, ()), ((x3, ()), ()), ())) fin := by
  kernel_rfl
def pfn (n : Nat) : PFn := mkFn shp outs (fun x => impl_changed_cBarColours_1.F n x.1.1 x.1.2.1 x.1.2.2.1 x.2.1.1.1) out
theorem ok (n : Nat) : (pfn n).Ok Go.Proofs.Tryz.prog 34 :=
  mkFn_ok (fn := Go.Proofs.Tryz.f34) (code := code) Go.Proofs.Tryz.func34 (by kernel_rfl) (by decide) (C := cfg) (Φ := pick (cal n)) (Λ := lam n) (into := into) hT (cal_ok n) (by kernel_rfl) rfl (by decide) rfl (fun _ => rfl) (loops n)
    (fun x r h => by
      have e := F_eq n x.1.1 x.1.2.1 x.1.2.2.1 x.2.1.1.1
      exact e.symm.trans h)
end impl_changed_cBarColours_1
end
/-! ### loop.example/g01158/impl.BarColours$2 -/
section
namespace impl_BarColours_2_c0
noncomputable def code : Code := (Go.Proofs.Tryz.f49.body).getD .skip
abbrev shp : Shape := [(0, .agg [.int .i64, .int .i64, .int .i64]), (1, .box false [.int .i64])]
abbrev outs : List KD := [.one (.bool)]
abbrev R : Type := Bool
def out : R → denL outs := fun r => (r, ())
def into : denL outs → R := fun y => y.1
def cfg : Cfg := ⟨ty, 9, [], fun _ => .plain, fun _ => none⟩
def cal (n : Nat) : List (Nat × PFn) := []
theorem cal_ok (n : Nat) : ∀ g, (pick (cal n) g).Ok Go.Proofs.Tryz.prog g := pick_ok (by
  intro p hp
  cases hp)
def fin : St → Option R := finOf ty [.tmp 3] outs into
def lam (n : Nat) : Nat → (St → Option R) → St → Option R := fun _ => fun _ _ => none
theorem loops (n : Nat) : LoopsOk cfg (pick (cal n)) (lam n) fin (loopsOf cfg.blk code) := by
  have h : loopsOf cfg.blk code = [] := by kernel_rfl
  rw [h]
  intro p hp
  cases hp
theorem F_eq (n : Nat) (x0 : Int) (x1 : Int) (x2 : Int) (x3 : Int) : impl_BarColours_2_c0.F n x0 x1 x2 x3 = exK cfg (pick (cal n)) (lam n) fin code (fun _ _ => none) (mkSt shp ((x0, x1, x2, ()), (x3, ()), ())) fin := by
  kernel_rfl
def pfn (n : Nat) : PFn := mkFn shp outs (fun x => impl_BarColours_2_c0.F n x.1.1 x.1.2.1 x.1.2.2.1 x.2.1.1) out
theorem ok (n : Nat) : (pfn n).Ok Go.Proofs.Tryz.prog 49 :=
  mkFn_ok (fn := Go.Proofs.Tryz.f49) (code := code) Go.Proofs.Tryz.func49 (by kernel_rfl) (by decide) (C := cfg) (Φ := pick (cal n)) (Λ := lam n) (into := into) hT (cal_ok n) (by kernel_rfl) rfl (by decide) rfl (fun _ => rfl) (loops n)
    (fun x r h => by
      have e := F_eq n x.1.1 x.1.2.1 x.1.2.2.1 x.2.1.1
      exact e.symm.trans h)
end impl_BarColours_2_c0
end
/-! ### slices.IndexFunc[[][3]int,[3]int] -/
section
namespace slices_IndexFunc_3_int_3_int_cBarColours_2
noncomputable def code : Code := (Go.Proofs.Tryz.f78.body).getD .skip
abbrev shp : Shape := [(0, .one (.row (.t3) false)), (1, .cap (.box false [.int .i64]) (.fn 49 []))]
abbrev outs : List KD := [.one (.int .i64)]
abbrev R : Type := Int
def out : R → denL outs := fun r => (r, ())
def into : denL outs → R := fun y => y.1
def cfg : Cfg := ⟨ty, 19, [], fun i => match Nat.beq i 0 with | true => .loop | false => .plain, fun _ => none⟩
def cal (n : Nat) : List (Nat × PFn) := [(49, impl_BarColours_2_c0.pfn n)]
theorem cal_ok (n : Nat) : ∀ g, (pick (cal n) g).Ok Go.Proofs.Tryz.prog g := pick_ok (by
  intro p hp
  simp only [cal, List.mem_cons, List.not_mem_nil, or_false] at hp
  rcases hp with rfl
  · exact impl_BarColours_2_c0.ok n)
def fin : St → Option R := finOf ty [.tmp 4] outs into
abbrev sin0 : Shape := [(0, .one (.row (.t3) false)), (1, .cap (.box false [.int .i64]) (.fn 49 [])), (7, .one (.int .i64)), (8, .one (.int .i64))]
abbrev sout0 : Shape := []
def lam (n : Nat) : Nat → (St → Option R) → St → Option R := fun i => match Nat.beq i 0 with | true => (fun K st => match absSt sin0 st with | some (x, _) => slices_IndexFunc_3_int_3_int_cBarColours_2.l0 n (fun _ => K (mkSt sout0 ())) n x.1 x.2.1.1.1 x.2.2.1 x.2.2.2.1 | none => none) | false => fun _ _ => none
noncomputable def lps : List (Nat × Code) := loopsOf cfg.blk code
noncomputable def b0 : Code := bodyOf lps 0
theorem l0_eq (n : Nat) (K : St → Option R) : ∀ (j : Nat) (x0 : List (Int × Int × Int)) (x1 : Int) (x2 : Int) (x3 : Int), slices_IndexFunc_3_int_3_int_cBarColours_2.l0 n (fun _ => K (mkSt sout0 ())) j x0 x1 x2 x3 = iter (roundK cfg (pick (cal n)) (lam n) fin 0 b0 sin0 sout0 K) j (mkSt sin0 (x0, ((x1, ()), ()), x2, x3, ()))
  | 0, _, _, _, _ => rfl
  | j + 1, x0, x1, x2, x3 => by
    have ih : slices_IndexFunc_3_int_3_int_cBarColours_2.l0 n (fun _ => K (mkSt sout0 ())) j = fun x0 x1 x2 x3 => iter (roundK cfg (pick (cal n)) (lam n) fin 0 b0 sin0 sout0 K) j (mkSt sin0 (x0, ((x1, ()), ()), x2, x3, ())) := funext fun x0 => funext fun x1 => funext fun x2 => funext fun x3 => l0_eq n K j x0 x1 x2 x3
    rw [slices_IndexFunc_3_int_3_int_cBarColours_2.l0, ih]
    show _ = roundK cfg (pick (cal n)) (lam n) fin 0 b0 sin0 sout0 K (iter (roundK cfg (pick (cal n)) (lam n) fin 0 b0 sin0 sout0 K) j) (mkSt sin0 (x0, ((x1, ()), ()), x2, x3, ()))
    kernel_rfl
theorem loops (n : Nat) : LoopsOk cfg (pick (cal n)) (lam n) fin (loopsOf cfg.blk code) := by
  have h : loopsOf cfg.blk code = [(0, b0)] := by kernel_rfl
  rw [h]
  intro p hp K st r hr
  simp only [List.mem_cons, List.not_mem_nil, or_false] at hp
  rcases hp with rfl
  · have hr' : (match absSt sin0 st with | some (x, _) => slices_IndexFunc_3_int_3_int_cBarColours_2.l0 n (fun _ => K (mkSt sout0 ())) n x.1 x.2.1.1.1 x.2.2.1 x.2.2.2.1 | none => none) = some r := hr
    split at hr'
    · rename_i x es hx
      rw [l0_eq] at hr'
      exact ⟨sin0, sout0, n, x, es, hx, hr'⟩
    · cases hr'
theorem F_eq (n : Nat) (x0 : List (Int × Int × Int)) (x1 : Int) : slices_IndexFunc_3_int_3_int_cBarColours_2.F n x0 x1 = exK cfg (pick (cal n)) (lam n) fin code (fun _ _ => none) (mkSt shp (x0, ((x1, ()), ()), ())) fin := by
  kernel_rfl
def pfn (n : Nat) : PFn := mkFn shp outs (fun x => slices_IndexFunc_3_int_3_int_cBarColours_2.F n x.1 x.2.1.1.1) out
theorem ok (n : Nat) : (pfn n).Ok Go.Proofs.Tryz.prog 78 :=
  mkFn_ok (fn := Go.Proofs.Tryz.f78) (code := code) Go.Proofs.Tryz.func78 (by kernel_rfl) (by decide) (C := cfg) (Φ := pick (cal n)) (Λ := lam n) (into := into) hT (cal_ok n) (by kernel_rfl) rfl (by decide) rfl (fun _ => rfl) (loops n)
    (fun x r h => by
      have e := F_eq n x.1 x.2.1.1.1
      exact e.symm.trans h)
end slices_IndexFunc_3_int_3_int_cBarColours_2
end
/-! ### slices.DeleteFunc[[][3]int,[3]int] -/
section
namespace slices_DeleteFunc_3_int_3_int_cBarColours_2
noncomputable def code : Code := (Go.Proofs.Tryz.f47.body).getD .skip
abbrev shp : Shape := [(0, .one (.row (.t3) true)), (1, .cap (.box false [.int .i64]) (.fn 49 []))]
abbrev outs : List KD := [.one (.row (.t3) true)]
abbrev R : Type := (List (Int × Int × Int))
def out : R → denL outs := fun r => (r, ())
def into : denL outs → R := fun y => y.1
def cfg : Cfg := ⟨ty, 42, [], fun i => match Nat.beq i 0 with | true => .loop | false => .plain, fun _ => none⟩
def cal (n : Nat) : List (Nat × PFn) := [(49, impl_BarColours_2_c0.pfn n), (78, slices_IndexFunc_3_int_3_int_cBarColours_2.pfn n)]
theorem cal_ok (n : Nat) : ∀ g, (pick (cal n) g).Ok Go.Proofs.Tryz.prog g := pick_ok (by
  intro p hp
  simp only [cal, List.mem_cons, List.not_mem_nil, or_false] at hp
  rcases hp with rfl | rfl
  · exact impl_BarColours_2_c0.ok n
  · exact slices_IndexFunc_3_int_3_int_cBarColours_2.ok n)
def fin : St → Option R := finOf ty [.tmp 4] outs into
abbrev sin0 : Shape := [(0, .one (.row (.t3) true)), (1, .cap (.box false [.int .i64]) (.fn 49 [])), (5, .one (.int .i64)), (6, .one (.int .i64))]
abbrev sout0 : Shape := [(0, .one (.row (.t3) true)), (5, .one (.int .i64))]
def lam (n : Nat) : Nat → (St → Option R) → St → Option R := fun i => match Nat.beq i 0 with | true => (fun K st => match absSt sin0 st with | some (x, _) => slices_DeleteFunc_3_int_3_int_cBarColours_2.l0 n (fun y0 y1 => K (mkSt sout0 (y0, y1, ()))) n x.1 x.2.1.1.1 x.2.2.1 x.2.2.2.1 | none => none) | false => fun _ _ => none
noncomputable def lps : List (Nat × Code) := loopsOf cfg.blk code
noncomputable def b0 : Code := bodyOf lps 0
theorem l0_eq (n : Nat) (K : St → Option R) : ∀ (j : Nat) (x0 : List (Int × Int × Int)) (x1 : Int) (x2 : Int) (x3 : Int), slices_DeleteFunc_3_int_3_int_cBarColours_2.l0 n (fun y0 y1 => K (mkSt sout0 (y0, y1, ()))) j x0 x1 x2 x3 = iter (roundK cfg (pick (cal n)) (lam n) fin 0 b0 sin0 sout0 K) j (mkSt sin0 (x0, ((x1, ()), ()), x2, x3, ()))
  | 0, _, _, _, _ => rfl
  | j + 1, x0, x1, x2, x3 => by
    have ih : slices_DeleteFunc_3_int_3_int_cBarColours_2.l0 n (fun y0 y1 => K (mkSt sout0 (y0, y1, ()))) j = fun x0 x1 x2 x3 => iter (roundK cfg (pick (cal n)) (lam n) fin 0 b0 sin0 sout0 K) j (mkSt sin0 (x0, ((x1, ()), ()), x2, x3, ())) := funext fun x0 => funext fun x1 => funext fun x2 => funext fun x3 => l0_eq n K j x0 x1 x2 x3
    rw [slices_DeleteFunc_3_int_3_int_cBarColours_2.l0, ih]
    show _ = roundK cfg (pick (cal n)) (lam n) fin 0 b0 sin0 sout0 K (iter (roundK cfg (pick (cal n)) (lam n) fin 0 b0 sin0 sout0 K) j) (mkSt sin0 (x0, ((x1, ()), ()), x2, x3, ()))
    kernel_rfl
theorem loops (n : Nat) : LoopsOk cfg (pick (cal n)) (lam n) fin (loopsOf cfg.blk code) := by
  have h : loopsOf cfg.blk code = [(0, b0)] := by kernel_rfl
  rw [h]
  intro p hp K st r hr
  simp only [List.mem_cons, List.not_mem_nil, or_false] at hp
  rcases hp with rfl
  · have hr' : (match absSt sin0 st with | some (x, _) => slices_DeleteFunc_3_int_3_int_cBarColours_2.l0 n (fun y0 y1 => K (mkSt sout0 (y0, y1, ()))) n x.1 x.2.1.1.1 x.2.2.1 x.2.2.2.1 | none => none) = some r := hr
    split at hr'
    · rename_i x es hx
      rw [l0_eq] at hr'
      exact ⟨sin0, sout0, n, x, es, hx, hr'⟩
    · cases hr'
theorem F_eq (n : Nat) (x0 : List (Int × Int × Int)) (x1 : Int) : slices_DeleteFunc_3_int_3_int_cBarColours_2.F n x0 x1 = exK cfg (pick (cal n)) (lam n) fin code (fun _ _ => none) (mkSt shp (x0, ((x1, ()), ()), ())) fin := by
  kernel_rfl
def pfn (n : Nat) : PFn := mkFn shp outs (fun x => slices_DeleteFunc_3_int_3_int_cBarColours_2.F n x.1 x.2.1.1.1) out
theorem ok (n : Nat) : (pfn n).Ok Go.Proofs.Tryz.prog 47 :=
  mkFn_ok (fn := Go.Proofs.Tryz.f47) (code := code) Go.Proofs.Tryz.func47 (by kernel_rfl) (by decide) (C := cfg) (Φ := pick (cal n)) (Λ := lam n) (into := into) hT (cal_ok n) (by kernel_rfl) rfl (by decide) rfl (fun _ => rfl) (loops n)
    (fun x r h => by
      have e := F_eq n x.1 x.2.1.1.1
      exact e.symm.trans h)
end slices_DeleteFunc_3_int_3_int_cBarColours_2
end
/-! ### loop.example/g01158/impl.BarColours -/
section
namespace impl_BarColours
noncomputable def code : Code := (Go.Proofs.Tryz.f21.body).getD .skip
abbrev shp : Shape := [(0, .agg [.int .i64, .row (.t3) false, .row (.int .i64) false]), (1, .one (.int .i64))]
abbrev outs : List KD := [.agg [.int .i64, .row (.t3) true, .row (.int .i64) true], .one (.bool)]
abbrev R : Type := Int × (List (Int × Int × Int)) × (List (Int)) × Bool
def out : R → denL outs := fun r => ((r.1, r.2.1, r.2.2.1, ()), r.2.2.2, ())
def into : denL outs → R := fun y => (y.1.1, y.1.2.1, y.1.2.2.1, y.2.1)
def cfg : Cfg := ⟨ty, 26, [], fun _ => .plain, fun _ => none⟩
def cal (n : Nat) : List (Nat × PFn) := [(27, impl_IsMaze.pfn n), (34, impl_changed_cBarColours_1.pfn n), (43, impl_isSet.pfn n), (47, slices_DeleteFunc_3_int_3_int_cBarColours_2.pfn n), (48, slices_Clone_3_int_3_int.pfn n)]
theorem cal_ok (n : Nat) : ∀ g, (pick (cal n) g).Ok Go.Proofs.Tryz.prog g := pick_ok (by
  intro p hp
  simp only [cal, List.mem_cons, List.not_mem_nil, or_false] at hp
  rcases hp with rfl | rfl | rfl | rfl | rfl
  · exact impl_IsMaze.ok n
  · exact impl_changed_cBarColours_1.ok n
  · exact impl_isSet.ok n
  · exact slices_DeleteFunc_3_int_3_int_cBarColours_2.ok n
  · exact slices_Clone_3_int_3_int.ok n)
def fin : St → Option R := finOf ty [.cell 4 27, .tmp 5] outs into
def lam (n : Nat) : Nat → (St → Option R) → St → Option R := fun _ => fun _ _ => none
theorem loops (n : Nat) : LoopsOk cfg (pick (cal n)) (lam n) fin (loopsOf cfg.blk code) := by
  have h : loopsOf cfg.blk code = [] := by kernel_rfl
  rw [h]
  intro p hp
  cases hp
theorem F_eq (n : Nat) (x0 : Int) (x1 : List (Int × Int × Int)) (x2 : List (Int)) (x3 : Int) : impl_BarColours.F n x0 x1 x2 x3 = exK cfg (pick (cal n)) (lam n) fin code (fun _ _ => none) (mkSt shp ((x0, x1, x2, ()), x3, ())) fin := by
  kernel_rfl
def pfn (n : Nat) : PFn := mkFn shp outs (fun x => impl_BarColours.F n x.1.1 x.1.2.1 x.1.2.2.1 x.2.1) out
theorem ok (n : Nat) : (pfn n).Ok Go.Proofs.Tryz.prog 21 :=
  mkFn_ok (fn := Go.Proofs.Tryz.f21) (code := code) Go.Proofs.Tryz.func21 (by kernel_rfl) (by decide) (C := cfg) (Φ := pick (cal n)) (Λ := lam n) (into := into) hT (cal_ok n) (by kernel_rfl) rfl (by decide) rfl (fun _ => rfl) (loops n)
    (fun x r h => by
      have e := F_eq n x.1.1 x.1.2.1 x.1.2.2.1 x.2.1
      exact e.symm.trans h)
end impl_BarColours
end
/-! ### loop.example/g01158/spec.l2Barred -/
section
namespace spec_l2Barred
noncomputable def code : Code := (Go.Proofs.Tryz.f50.body).getD .skip
abbrev shp : Shape := [(0, .agg [.int .i64, .row (.t3) false, .row (.int .i64) false]), (1, .one (.int .i64))]
abbrev outs : List KD := [.agg [.int .i64, .row (.t3) true, .row (.int .i64) true]]
abbrev R : Type := Int × (List (Int × Int × Int)) × (List (Int))
def out : R → denL outs := fun r => ((r.1, r.2.1, r.2.2, ()), ())
def into : denL outs → R := fun y => (y.1.1, y.1.2.1, y.1.2.2.1)
def cfg : Cfg := ⟨ty, 58, [], fun i => match Nat.beq i 0 with | true => .loop | false => match Nat.beq i 2 with | true => .loop | false => .plain, fun _ => none⟩
def cal (n : Nat) : List (Nat × PFn) := []
theorem cal_ok (n : Nat) : ∀ g, (pick (cal n) g).Ok Go.Proofs.Tryz.prog g := pick_ok (by
  intro p hp
  cases hp)
def fin : St → Option R := finOf ty [.cell 4 27] outs into
abbrev sin0 : Shape := [(1, .one (.int .i64)), (2, .box true [.int .i64, .row (.t3) false, .row (.int .i64) false]), (4, .box true [.int .i64, .row (.t3) true, .row (.int .i64) true]), (5, .box true [.int .i64, .row (.t3) true, .row (.int .i64) true]), (6, .one (.int .i64))]
abbrev sout0 : Shape := [(1, .one (.int .i64)), (2, .box true [.int .i64, .row (.t3) false, .row (.int .i64) false]), (4, .box true [.int .i64, .row (.t3) true, .row (.int .i64) true]), (5, .box true [.int .i64, .row (.t3) true, .row (.int .i64) true])]
abbrev sin2 : Shape := [(1, .one (.int .i64)), (2, .box true [.int .i64, .row (.t3) false, .row (.int .i64) false]), (4, .box true [.int .i64, .row (.t3) true, .row (.int .i64) true]), (5, .box true [.int .i64, .row (.t3) true, .row (.int .i64) true]), (7, .one (.int .i64))]
abbrev sout2 : Shape := [(4, .box true [.int .i64, .row (.t3) true, .row (.int .i64) true]), (5, .box true [.int .i64, .row (.t3) true, .row (.int .i64) true])]
def lam (n : Nat) : Nat → (St → Option R) → St → Option R := fun i => match Nat.beq i 0 with | true => (fun K st => match absSt sin0 st with | some (x, _) => spec_l2Barred.l0 n (fun y0 y1 y2 y3 y4 y5 y6 y7 y8 y9 => K (mkSt sout0 (y0, (y1, y2, y3, ()), (y4, y5, y6, ()), (y7, y8, y9, ()), ()))) n x.1 x.2.1.1 x.2.1.2.1 x.2.1.2.2.1 x.2.2.1.1 x.2.2.1.2.1 x.2.2.1.2.2.1 x.2.2.2.1.1 x.2.2.2.1.2.1 x.2.2.2.1.2.2.1 x.2.2.2.2.1 | none => none) | false => match Nat.beq i 2 with | true => (fun K st => match absSt sin2 st with | some (x, _) => spec_l2Barred.l2 n (fun y0 y1 y2 y3 y4 y5 => K (mkSt sout2 ((y0, y1, y2, ()), (y3, y4, y5, ()), ()))) n x.1 x.2.1.1 x.2.1.2.1 x.2.1.2.2.1 x.2.2.1.1 x.2.2.1.2.1 x.2.2.1.2.2.1 x.2.2.2.1.1 x.2.2.2.1.2.1 x.2.2.2.1.2.2.1 x.2.2.2.2.1 | none => none) | false => fun _ _ => none
noncomputable def lps : List (Nat × Code) := loopsOf cfg.blk code
noncomputable def b0 : Code := bodyOf lps 0
theorem l0_eq (n : Nat) (K : St → Option R) : ∀ (j : Nat) (x0 : Int) (x1 : Int) (x2 : List (Int × Int × Int)) (x3 : List (Int)) (x4 : Int) (x5 : List (Int × Int × Int)) (x6 : List (Int)) (x7 : Int) (x8 : List (Int × Int × Int)) (x9 : List (Int)) (x10 : Int), spec_l2Barred.l0 n (fun y0 y1 y2 y3 y4 y5 y6 y7 y8 y9 => K (mkSt sout0 (y0, (y1, y2, y3, ()), (y4, y5, y6, ()), (y7, y8, y9, ()), ()))) j x0 x1 x2 x3 x4 x5 x6 x7 x8 x9 x10 = iter (roundK cfg (pick (cal n)) (lam n) fin 0 b0 sin0 sout0 K) j (mkSt sin0 (x0, (x1, x2, x3, ()), (x4, x5, x6, ()), (x7, x8, x9, ()), x10, ()))
  | 0, _, _, _, _, _, _, _, _, _, _, _ => rfl
  | j + 1, x0, x1, x2, x3, x4, x5, x6, x7, x8, x9, x10 => by
    have ih : spec_l2Barred.l0 n (fun y0 y1 y2 y3 y4 y5 y6 y7 y8 y9 => K (mkSt sout0 (y0, (y1, y2, y3, ()), (y4, y5, y6, ()), (y7, y8, y9, ()), ()))) j = fun x0 x1 x2 x3 x4 x5 x6 x7 x8 x9 x10 => iter (roundK cfg (pick (cal n)) (lam n) fin 0 b0 sin0 sout0 K) j (mkSt sin0 (x0, (x1, x2, x3, ()), (x4, x5, x6, ()), (x7, x8, x9, ()), x10, ())) := funext fun x0 => funext fun x1 => funext fun x2 => funext fun x3 => funext fun x4 => funext fun x5 => funext fun x6 => funext fun x7 => funext fun x8 => funext fun x9 => funext fun x10 => l0_eq n K j x0 x1 x2 x3 x4 x5 x6 x7 x8 x9 x10
    rw [spec_l2Barred.l0, ih]
    show _ = roundK cfg (pick (cal n)) (lam n) fin 0 b0 sin0 sout0 K (iter (roundK cfg (pick (cal n)) (lam n) fin 0 b0 sin0 sout0 K) j) (mkSt sin0 (x0, (x1, x2, x3, ()), (x4, x5, x6, ()), (x7, x8, x9, ()), x10, ()))
    kernel_rfl
noncomputable def b2 : Code := bodyOf lps 2
theorem l2_eq (n : Nat) (K : St → Option R) : ∀ (j : Nat) (x0 : Int) (x1 : Int) (x2 : List (Int × Int × Int)) (x3 : List (Int)) (x4 : Int) (x5 : List (Int × Int × Int)) (x6 : List (Int)) (x7 : Int) (x8 : List (Int × Int × Int)) (x9 : List (Int)) (x10 : Int), spec_l2Barred.l2 n (fun y0 y1 y2 y3 y4 y5 => K (mkSt sout2 ((y0, y1, y2, ()), (y3, y4, y5, ()), ()))) j x0 x1 x2 x3 x4 x5 x6 x7 x8 x9 x10 = iter (roundK cfg (pick (cal n)) (lam n) fin 2 b2 sin2 sout2 K) j (mkSt sin2 (x0, (x1, x2, x3, ()), (x4, x5, x6, ()), (x7, x8, x9, ()), x10, ()))
  | 0, _, _, _, _, _, _, _, _, _, _, _ => rfl
  | j + 1, x0, x1, x2, x3, x4, x5, x6, x7, x8, x9, x10 => by
    have ih : spec_l2Barred.l2 n (fun y0 y1 y2 y3 y4 y5 => K (mkSt sout2 ((y0, y1, y2, ()), (y3, y4, y5, ()), ()))) j = fun x0 x1 x2 x3 x4 x5 x6 x7 x8 x9 x10 => iter (roundK cfg (pick (cal n)) (lam n) fin 2 b2 sin2 sout2 K) j (mkSt sin2 (x0, (x1, x2, x3, ()), (x4, x5, x6, ()), (x7, x8, x9, ()), x10, ())) := funext fun x0 => funext fun x1 => funext fun x2 => funext fun x3 => funext fun x4 => funext fun x5 => funext fun x6 => funext fun x7 => funext fun x8 => funext fun x9 => funext fun x10 => l2_eq n K j x0 x1 x2 x3 x4 x5 x6 x7 x8 x9 x10
    rw [spec_l2Barred.l2, ih]
    show _ = roundK cfg (pick (cal n)) (lam n) fin 2 b2 sin2 sout2 K (iter (roundK cfg (pick (cal n)) (lam n) fin 2 b2 sin2 sout2 K) j) (mkSt sin2 (x0, (x1, x2, x3, ()), (x4, x5, x6, ()), (x7, x8, x9, ()), x10, ()))
    kernel_rfl
theorem loops (n : Nat) : LoopsOk cfg (pick (cal n)) (lam n) fin (loopsOf cfg.blk code) := by
  have h : loopsOf cfg.blk code = [(0, b0), (2, b2)] := by kernel_rfl
  rw [h]
  intro p hp K st r hr
  simp only [List.mem_cons, List.not_mem_nil, or_false] at hp
  rcases hp with rfl | rfl
  · have hr' : (match absSt sin0 st with | some (x, _) => spec_l2Barred.l0 n (fun y0 y1 y2 y3 y4 y5 y6 y7 y8 y9 => K (mkSt sout0 (y0, (y1, y2, y3, ()), (y4, y5, y6, ()), (y7, y8, y9, ()), ()))) n x.1 x.2.1.1 x.2.1.2.1 x.2.1.2.2.1 x.2.2.1.1 x.2.2.1.2.1 x.2.2.1.2.2.1 x.2.2.2.1.1 x.2.2.2.1.2.1 x.2.2.2.1.2.2.1 x.2.2.2.2.1 | none => none) = some r := hr
    split at hr'
    · rename_i x es hx
      rw [l0_eq] at hr'
      exact ⟨sin0, sout0, n, x, es, hx, hr'⟩
    · cases hr'
  · have hr' : (match absSt sin2 st with | some (x, _) => spec_l2Barred.l2 n (fun y0 y1 y2 y3 y4 y5 => K (mkSt sout2 ((y0, y1, y2, ()), (y3, y4, y5, ()), ()))) n x.1 x.2.1.1 x.2.1.2.1 x.2.1.2.2.1 x.2.2.1.1 x.2.2.1.2.1 x.2.2.1.2.2.1 x.2.2.2.1.1 x.2.2.2.1.2.1 x.2.2.2.1.2.2.1 x.2.2.2.2.1 | none => none) = some r := hr
    split at hr'
    · rename_i x es hx
      rw [l2_eq] at hr'
      exact ⟨sin2, sout2, n, x, es, hx, hr'⟩
    · cases hr'
theorem F_eq (n : Nat) (x0 : Int) (x1 : List (Int × Int × Int)) (x2 : List (Int)) (x3 : Int) : spec_l2Barred.F n x0 x1 x2 x3 = exK cfg (pick (cal n)) (lam n) fin code (fun _ _ => none) (mkSt shp ((x0, x1, x2, ()), x3, ())) fin := by
  kernel_rfl
def pfn (n : Nat) : PFn := mkFn shp outs (fun x => spec_l2Barred.F n x.1.1 x.1.2.1 x.1.2.2.1 x.2.1) out
theorem ok (n : Nat) : (pfn n).Ok Go.Proofs.Tryz.prog 50 :=
  mkFn_ok (fn := Go.Proofs.Tryz.f50) (code := code) Go.Proofs.Tryz.func50 (by kernel_rfl) (by decide) (C := cfg) (Φ := pick (cal n)) (Λ := lam n) (into := into) hT (cal_ok n) (by kernel_rfl) rfl (by decide) rfl (fun _ => rfl) (loops n)
    (fun x r h => by
      have e := F_eq n x.1.1 x.1.2.1 x.1.2.2.1 x.2.1
      exact e.symm.trans h)
end spec_l2Barred
end
/-! ### loop.example/g01158/spec.BarColours -/
section
namespace spec_BarColours
noncomputable def code : Code := (Go.Proofs.Tryz.f22.body).getD .skip
abbrev shp : Shape := [(0, .agg [.int .i64, .row (.t3) false, .row (.int .i64) false]), (1, .one (.int .i64))]
abbrev outs : List KD := [.agg [.int .i64, .row (.t3) true, .row (.int .i64) true], .one (.bool)]
abbrev R : Type := Int × (List (Int × Int × Int)) × (List (Int)) × Bool
def out : R → denL outs := fun r => ((r.1, r.2.1, r.2.2.1, ()), r.2.2.2, ())
def into : denL outs → R := fun y => (y.1.1, y.1.2.1, y.1.2.2.1, y.2.1)
def cfg : Cfg := ⟨ty, 18, [], fun _ => .plain, fun _ => none⟩
def cal (n : Nat) : List (Nat × PFn) := [(29, spec_l2Maze.pfn n), (45, spec_l2Set.pfn n), (50, spec_l2Barred.pfn n)]
theorem cal_ok (n : Nat) : ∀ g, (pick (cal n) g).Ok Go.Proofs.Tryz.prog g := pick_ok (by
  intro p hp
  simp only [cal, List.mem_cons, List.not_mem_nil, or_false] at hp
  rcases hp with rfl | rfl | rfl
  · exact spec_l2Maze.ok n
  · exact spec_l2Set.ok n
  · exact spec_l2Barred.ok n)
def fin : St → Option R := finOf ty [.cell 4 27, .tmp 5] outs into
def lam (n : Nat) : Nat → (St → Option R) → St → Option R := fun _ => fun _ _ => none
theorem loops (n : Nat) : LoopsOk cfg (pick (cal n)) (lam n) fin (loopsOf cfg.blk code) := by
  have h : loopsOf cfg.blk code = [] := by kernel_rfl
  rw [h]
  intro p hp
  cases hp
theorem F_eq (n : Nat) (x0 : Int) (x1 : List (Int × Int × Int)) (x2 : List (Int)) (x3 : Int) : spec_BarColours.F n x0 x1 x2 x3 = exK cfg (pick (cal n)) (lam n) fin code (fun _ _ => none) (mkSt shp ((x0, x1, x2, ()), x3, ())) fin := by
  kernel_rfl
def pfn (n : Nat) : PFn := mkFn shp outs (fun x => spec_BarColours.F n x.1.1 x.1.2.1 x.1.2.2.1 x.2.1) out
theorem ok (n : Nat) : (pfn n).Ok Go.Proofs.Tryz.prog 22 :=
  mkFn_ok (fn := Go.Proofs.Tryz.f22) (code := code) Go.Proofs.Tryz.func22 (by kernel_rfl) (by decide) (C := cfg) (Φ := pick (cal n)) (Λ := lam n) (into := into) hT (cal_ok n) (by kernel_rfl) rfl (by decide) rfl (fun _ => rfl) (loops n)
    (fun x r h => by
      have e := F_eq n x.1.1 x.1.2.1 x.1.2.2.1 x.2.1
      exact e.symm.trans h)
end spec_BarColours
end
/-! ### slices.Reverse[[]int,int] -/
section
namespace slices_Reverse_int_int
noncomputable def code : Code := (Go.Proofs.Tryz.f52.body).getD .skip
abbrev shp : Shape := [(0, .one (.row (.int .i64) true))]
abbrev outs : List KD := []
abbrev R : Type := (List (Int))
abbrev k0 : KD := .one (.row (.int .i64) true)
abbrev rshp : Shape := []
def out : R → denL outs := fun r => ()
def up : R → k0.den := fun r => r
def into : denL outs → k0.den → R := fun y z => (z)
def cfg : Cfg := ⟨ty, 28, [0], fun i => match Nat.beq i 0 with | true => .loop | false => .plain, fun _ => none⟩
def cal (n : Nat) : List (Nat × PFn) := []
theorem cal_ok (n : Nat) : ∀ g, (pick (cal n) g).Ok Go.Proofs.Tryz.prog g := pick_ok (by
  intro p hp
  cases hp)
def fin : St → Option R := finMut ty [] outs k0 into
abbrev sin0 : Shape := [(0, .one (.row (.int .i64) true)), (2, .one (.int .i64)), (3, .one (.int .i64))]
abbrev sout0 : Shape := [(0, .one (.row (.int .i64) true))]
def lam (n : Nat) : Nat → (St → Option R) → St → Option R := fun i => match Nat.beq i 0 with | true => (fun K st => match absSt sin0 st with | some (x, _) => slices_Reverse_int_int.l0 n (fun y0 => K (mkSt sout0 (y0, ()))) n x.1 x.2.1 x.2.2.1 | none => none) | false => fun _ _ => none
noncomputable def lps : List (Nat × Code) := loopsOf cfg.blk code
noncomputable def b0 : Code := bodyOf lps 0
theorem l0_eq (n : Nat) (K : St → Option R) : ∀ (j : Nat) (x0 : List (Int)) (x1 : Int) (x2 : Int), slices_Reverse_int_int.l0 n (fun y0 => K (mkSt sout0 (y0, ()))) j x0 x1 x2 = iter (roundK cfg (pick (cal n)) (lam n) fin 0 b0 sin0 sout0 K) j (mkSt sin0 (x0, x1, x2, ()))
  | 0, _, _, _ => rfl
  | j + 1, x0, x1, x2 => by
    have ih : slices_Reverse_int_int.l0 n (fun y0 => K (mkSt sout0 (y0, ()))) j = fun x0 x1 x2 => iter (roundK cfg (pick (cal n)) (lam n) fin 0 b0 sin0 sout0 K) j (mkSt sin0 (x0, x1, x2, ())) := funext fun x0 => funext fun x1 => funext fun x2 => l0_eq n K j x0 x1 x2
    rw [slices_Reverse_int_int.l0, ih]
    show _ = roundK cfg (pick (cal n)) (lam n) fin 0 b0 sin0 sout0 K (iter (roundK cfg (pick (cal n)) (lam n) fin 0 b0 sin0 sout0 K) j) (mkSt sin0 (x0, x1, x2, ()))
    kernel_rfl
theorem loops (n : Nat) : LoopsOk cfg (pick (cal n)) (lam n) fin (loopsOf cfg.blk code) := by
  have h : loopsOf cfg.blk code = [(0, b0)] := by kernel_rfl
  rw [h]
  intro p hp K st r hr
  simp only [List.mem_cons, List.not_mem_nil, or_false] at hp
  rcases hp with rfl
  · have hr' : (match absSt sin0 st with | some (x, _) => slices_Reverse_int_int.l0 n (fun y0 => K (mkSt sout0 (y0, ()))) n x.1 x.2.1 x.2.2.1 | none => none) = some r := hr
    split at hr'
    · rename_i x es hx
      rw [l0_eq] at hr'
      exact ⟨sin0, sout0, n, x, es, hx, hr'⟩
    · cases hr'
theorem F_eq (n : Nat) (x0 : List (Int)) : slices_Reverse_int_int.F n x0 = exK cfg (pick (cal n)) (lam n) fin code (fun _ _ => none) (mkSt shp (x0, ())) fin := by
  kernel_rfl
def pfn (n : Nat) : PFn := mkMut k0 rshp.ks outs (fun x xs => slices_Reverse_int_int.F n x) out up
theorem ok (n : Nat) : (pfn n).Ok Go.Proofs.Tryz.prog 52 :=
  mkMut_ok (rshp := rshp) (fn := Go.Proofs.Tryz.f52) (code := code) Go.Proofs.Tryz.func52 (by kernel_rfl) (by decide) (C := cfg) (Φ := pick (cal n)) (Λ := lam n) (into := into) hT (cal_ok n) (by kernel_rfl) rfl (by decide) rfl rfl (by decide) nil_loc nil_ext (fun _ _ => rfl) (fun _ _ => rfl) (loops n)
    (fun x xs r h => by
      have e := F_eq n x
      exact e.symm.trans h)
end slices_Reverse_int_int
end
/-! ### loop.example/g01158/impl.MirrorMaze -/
section
namespace impl_MirrorMaze
noncomputable def code : Code := (Go.Proofs.Tryz.f23.body).getD .skip
abbrev shp : Shape := [(0, .agg [.int .i64, .row (.t3) false, .row (.int .i64) false])]
abbrev outs : List KD := [.agg [.int .i64, .row (.t3) true, .row (.int .i64) true], .one (.bool)]
abbrev R : Type := Int × (List (Int × Int × Int)) × (List (Int)) × Bool
def out : R → denL outs := fun r => ((r.1, r.2.1, r.2.2.1, ()), r.2.2.2, ())
def into : denL outs → R := fun y => (y.1.1, y.1.2.1, y.1.2.2.1, y.2.1)
def cfg : Cfg := ⟨ty, 17, [], fun _ => .plain, fun _ => none⟩
def cal (n : Nat) : List (Nat × PFn) := [(27, impl_IsMaze.pfn n), (40, impl_numbered.pfn n), (51, impl_counting.pfn n), (52, slices_Reverse_int_int.pfn n)]
theorem cal_ok (n : Nat) : ∀ g, (pick (cal n) g).Ok Go.Proofs.Tryz.prog g := pick_ok (by
  intro p hp
  simp only [cal, List.mem_cons, List.not_mem_nil, or_false] at hp
  rcases hp with rfl | rfl | rfl | rfl
  · exact impl_IsMaze.ok n
  · exact impl_numbered.ok n
  · exact impl_counting.ok n
  · exact slices_Reverse_int_int.ok n)
def fin : St → Option R := finOf ty [.cell 2 27, .tmp 3] outs into
def lam (n : Nat) : Nat → (St → Option R) → St → Option R := fun _ => fun _ _ => none
theorem loops (n : Nat) : LoopsOk cfg (pick (cal n)) (lam n) fin (loopsOf cfg.blk code) := by
  have h : loopsOf cfg.blk code = [] := by kernel_rfl
  rw [h]
  intro p hp
  cases hp
theorem F_eq (n : Nat) (x0 : Int) (x1 : List (Int × Int × Int)) (x2 : List (Int)) : impl_MirrorMaze.F n x0 x1 x2 = exK cfg (pick (cal n)) (lam n) fin code (fun _ _ => none) (mkSt shp ((x0, x1, x2, ()), ())) fin := by
  kernel_rfl
def pfn (n : Nat) : PFn := mkFn shp outs (fun x => impl_MirrorMaze.F n x.1.1 x.1.2.1 x.1.2.2.1) out
theorem ok (n : Nat) : (pfn n).Ok Go.Proofs.Tryz.prog 23 :=
  mkFn_ok (fn := Go.Proofs.Tryz.f23) (code := code) Go.Proofs.Tryz.func23 (by kernel_rfl) (by decide) (C := cfg) (Φ := pick (cal n)) (Λ := lam n) (into := into) hT (cal_ok n) (by kernel_rfl) rfl (by decide) rfl (fun _ => rfl) (loops n)
    (fun x r h => by
      have e := F_eq n x.1.1 x.1.2.1 x.1.2.2.1
      exact e.symm.trans h)
end impl_MirrorMaze
end
/-! ### loop.example/g01158/spec.MirrorMaze -/
section
namespace spec_MirrorMaze
noncomputable def code : Code := (Go.Proofs.Tryz.f24.body).getD .skip
abbrev shp : Shape := [(0, .agg [.int .i64, .row (.t3) false, .row (.int .i64) false])]
abbrev outs : List KD := [.agg [.int .i64, .row (.t3) true, .row (.int .i64) true], .one (.bool)]
abbrev R : Type := Int × (List (Int × Int × Int)) × (List (Int)) × Bool
def out : R → denL outs := fun r => ((r.1, r.2.1, r.2.2.1, ()), r.2.2.2, ())
def into : denL outs → R := fun y => (y.1.1, y.1.2.1, y.1.2.2.1, y.2.1)
def cfg : Cfg := ⟨ty, 25, [], fun i => match Nat.beq i 0 with | true => .loop | false => .plain, fun _ => none⟩
def cal (n : Nat) : List (Nat × PFn) := [(29, spec_l2Maze.pfn n), (41, spec_l2Numbered.pfn n)]
theorem cal_ok (n : Nat) : ∀ g, (pick (cal n) g).Ok Go.Proofs.Tryz.prog g := pick_ok (by
  intro p hp
  simp only [cal, List.mem_cons, List.not_mem_nil, or_false] at hp
  rcases hp with rfl | rfl
  · exact spec_l2Maze.ok n
  · exact spec_l2Numbered.ok n)
def fin : St → Option R := finOf ty [.cell 2 27, .tmp 3] outs into
abbrev sin0 : Shape := [(1, .box true [.int .i64, .row (.t3) false, .row (.int .i64) false]), (2, .box true [.int .i64, .row (.t3) true, .row (.int .i64) true]), (4, .one (.row (.int .i64) true)), (5, .one (.int .i64))]
abbrev sout0 : Shape := [(1, .box true [.int .i64, .row (.t3) false, .row (.int .i64) false]), (2, .box true [.int .i64, .row (.t3) true, .row (.int .i64) true]), (4, .one (.row (.int .i64) true))]
def lam (n : Nat) : Nat → (St → Option R) → St → Option R := fun i => match Nat.beq i 0 with | true => (fun K st => match absSt sin0 st with | some (x, _) => spec_MirrorMaze.l0 n (fun y0 y1 y2 y3 y4 y5 y6 => K (mkSt sout0 ((y0, y1, y2, ()), (y3, y4, y5, ()), y6, ()))) n x.1.1 x.1.2.1 x.1.2.2.1 x.2.1.1 x.2.1.2.1 x.2.1.2.2.1 x.2.2.1 x.2.2.2.1 | none => none) | false => fun _ _ => none
noncomputable def lps : List (Nat × Code) := loopsOf cfg.blk code
noncomputable def b0 : Code := bodyOf lps 0
theorem l0_eq (n : Nat) (K : St → Option R) : ∀ (j : Nat) (x0 : Int) (x1 : List (Int × Int × Int)) (x2 : List (Int)) (x3 : Int) (x4 : List (Int × Int × Int)) (x5 : List (Int)) (x6 : List (Int)) (x7 : Int), spec_MirrorMaze.l0 n (fun y0 y1 y2 y3 y4 y5 y6 => K (mkSt sout0 ((y0, y1, y2, ()), (y3, y4, y5, ()), y6, ()))) j x0 x1 x2 x3 x4 x5 x6 x7 = iter (roundK cfg (pick (cal n)) (lam n) fin 0 b0 sin0 sout0 K) j (mkSt sin0 ((x0, x1, x2, ()), (x3, x4, x5, ()), x6, x7, ()))
  | 0, _, _, _, _, _, _, _, _ => rfl
  | j + 1, x0, x1, x2, x3, x4, x5, x6, x7 => by
    have ih : spec_MirrorMaze.l0 n (fun y0 y1 y2 y3 y4 y5 y6 => K (mkSt sout0 ((y0, y1, y2, ()), (y3, y4, y5, ()), y6, ()))) j = fun x0 x1 x2 x3 x4 x5 x6 x7 => iter (roundK cfg (pick (cal n)) (lam n) fin 0 b0 sin0 sout0 K) j (mkSt sin0 ((x0, x1, x2, ()), (x3, x4, x5, ()), x6, x7, ())) := funext fun x0 => funext fun x1 => funext fun x2 => funext fun x3 => funext fun x4 => funext fun x5 => funext fun x6 => funext fun x7 => l0_eq n K j x0 x1 x2 x3 x4 x5 x6 x7
    rw [spec_MirrorMaze.l0, ih]
    show _ = roundK cfg (pick (cal n)) (lam n) fin 0 b0 sin0 sout0 K (iter (roundK cfg (pick (cal n)) (lam n) fin 0 b0 sin0 sout0 K) j) (mkSt sin0 ((x0, x1, x2, ()), (x3, x4, x5, ()), x6, x7, ()))
    kernel_rfl
theorem loops (n : Nat) : LoopsOk cfg (pick (cal n)) (lam n) fin (loopsOf cfg.blk code) := by
  have h : loopsOf cfg.blk code = [(0, b0)] := by kernel_rfl
  rw [h]
  intro p hp K st r hr
  simp only [List.mem_cons, List.not_mem_nil, or_false] at hp
  rcases hp with rfl
  · have hr' : (match absSt sin0 st with | some (x, _) => spec_MirrorMaze.l0 n (fun y0 y1 y2 y3 y4 y5 y6 => K (mkSt sout0 ((y0, y1, y2, ()), (y3, y4, y5, ()), y6, ()))) n x.1.1 x.1.2.1 x.1.2.2.1 x.2.1.1 x.2.1.2.1 x.2.1.2.2.1 x.2.2.1 x.2.2.2.1 | none => none) = some r := hr
    split at hr'
    · rename_i x es hx
      rw [l0_eq] at hr'
      exact ⟨sin0, sout0, n, x, es, hx, hr'⟩
    · cases hr'
theorem F_eq (n : Nat) (x0 : Int) (x1 : List (Int × Int × Int)) (x2 : List (Int)) : spec_MirrorMaze.F n x0 x1 x2 = exK cfg (pick (cal n)) (lam n) fin code (fun _ _ => none) (mkSt shp ((x0, x1, x2, ()), ())) fin := by
  kernel_rfl
def pfn (n : Nat) : PFn := mkFn shp outs (fun x => spec_MirrorMaze.F n x.1.1 x.1.2.1 x.1.2.2.1) out
theorem ok (n : Nat) : (pfn n).Ok Go.Proofs.Tryz.prog 24 :=
  mkFn_ok (fn := Go.Proofs.Tryz.f24) (code := code) Go.Proofs.Tryz.func24 (by kernel_rfl) (by decide) (C := cfg) (Φ := pick (cal n)) (Λ := lam n) (into := into) hT (cal_ok n) (by kernel_rfl) rfl (by decide) rfl (fun _ => rfl) (loops n)
    (fun x r h => by
      have e := F_eq n x.1.1 x.1.2.1 x.1.2.2.1
      exact e.symm.trans h)
end spec_MirrorMaze
end
/-! ### loop.example/g01158/impl.distances -/
section
namespace impl_distances
noncomputable def code : Code := (Go.Proofs.Tryz.f79.body).getD .skip
abbrev shp : Shape := [(0, .agg [.int .i64, .row (.t3) false, .row (.int .i64) false]), (1, .one (.int .i64)), (2, .one (.int .i64))]
abbrev outs : List KD := [.ints 768]
abbrev R : Type := (List Int)
def out : R → denL outs := fun r => (r, ())
def into : denL outs → R := fun y => y.1
def cfg : Cfg := ⟨ty, 91, [], fun i => match Nat.beq i 2 with | true => .loop | false => match Nat.beq i 0 with | true => .loop | false => match Nat.beq i 6 with | true => .loop | false => match Nat.beq i 4 with | true => .loop | false => .plain, fun _ => none⟩
def cal (n : Nat) : List (Nat × PFn) := [(36, impl_members.pfn n), (62, impl_steps.pfn n)]
theorem cal_ok (n : Nat) : ∀ g, (pick (cal n) g).Ok Go.Proofs.Tryz.prog g := pick_ok (by
  intro p hp
  simp only [cal, List.mem_cons, List.not_mem_nil, or_false] at hp
  rcases hp with rfl | rfl
  · exact impl_members.ok n
  · exact impl_steps.ok n)
def fin : St → Option R := finOf ty [.cell 6 68] outs into
abbrev sin2 : Shape := [(1, .one (.int .i64)), (2, .one (.int .i64)), (3, .box true [.int .i64, .row (.t3) false, .row (.int .i64) false]), (6, .arr 768 true), (7, .arr 768 true), (8, .one (.int .i64)), (17, .one (.int .i64)), (20, .one (.int .i64))]
abbrev sout2 : Shape := [(1, .one (.int .i64)), (2, .one (.int .i64)), (3, .box true [.int .i64, .row (.t3) false, .row (.int .i64) false]), (6, .arr 768 true), (7, .arr 768 true), (17, .one (.int .i64))]
abbrev sin0 : Shape := [(1, .one (.int .i64)), (2, .one (.int .i64)), (3, .box true [.int .i64, .row (.t3) false, .row (.int .i64) false]), (6, .arr 768 true), (7, .arr 768 true), (17, .one (.int .i64))]
abbrev sout0 : Shape := [(1, .one (.int .i64)), (2, .one (.int .i64)), (3, .box true [.int .i64, .row (.t3) false, .row (.int .i64) false]), (6, .arr 768 true), (7, .arr 768 true)]
abbrev sin6 : Shape := [(3, .box true [.int .i64, .row (.t3) false, .row (.int .i64) false]), (6, .arr 768 true), (7, .arr 768 true), (10, .one (.row (.p2) true)), (11, .one (.int .i64)), (12, .one (.int .i64)), (54, .one (.row (.int .i64) true)), (55, .one (.int .i64)), (56, .one (.int .i64))]
abbrev sout6 : Shape := [(3, .box true [.int .i64, .row (.t3) false, .row (.int .i64) false]), (6, .arr 768 true), (7, .arr 768 true), (10, .one (.row (.p2) true))]
abbrev sin4 : Shape := [(3, .box true [.int .i64, .row (.t3) false, .row (.int .i64) false]), (6, .arr 768 true), (7, .arr 768 true), (10, .one (.row (.p2) true))]
abbrev sout4 : Shape := [(6, .arr 768 true), (7, .arr 768 true)]
def lam (n : Nat) : Nat → (St → Option R) → St → Option R := fun i => match Nat.beq i 2 with | true => (fun K st => match absSt sin2 st with | some (x, _) => impl_distances.l2 n (fun y0 y1 y2 y3 y4 y5 y6 y7 => K (mkSt sout2 (y0, y1, (y2, y3, y4, ()), y5, y6, y7, ()))) n x.1 x.2.1 x.2.2.1.1 x.2.2.1.2.1 x.2.2.1.2.2.1 x.2.2.2.1 x.2.2.2.2.1 x.2.2.2.2.2.1 x.2.2.2.2.2.2.1 x.2.2.2.2.2.2.2.1 | none => none) | false => match Nat.beq i 0 with | true => (fun K st => match absSt sin0 st with | some (x, _) => impl_distances.l0 n (fun y0 y1 y2 y3 y4 y5 y6 => K (mkSt sout0 (y0, y1, (y2, y3, y4, ()), y5, y6, ()))) n x.1 x.2.1 x.2.2.1.1 x.2.2.1.2.1 x.2.2.1.2.2.1 x.2.2.2.1 x.2.2.2.2.1 x.2.2.2.2.2.1 | none => none) | false => match Nat.beq i 6 with | true => (fun K st => match absSt sin6 st with | some (x, _) => impl_distances.l6 n (fun y0 y1 y2 y3 y4 y5 => K (mkSt sout6 ((y0, y1, y2, ()), y3, y4, y5, ()))) n x.1.1 x.1.2.1 x.1.2.2.1 x.2.1 x.2.2.1 x.2.2.2.1 x.2.2.2.2.1 x.2.2.2.2.2.1 x.2.2.2.2.2.2.1 x.2.2.2.2.2.2.2.1 x.2.2.2.2.2.2.2.2.1 | none => none) | false => match Nat.beq i 4 with | true => (fun K st => match absSt sin4 st with | some (x, _) => impl_distances.l4 n (fun y0 y1 => K (mkSt sout4 (y0, y1, ()))) n x.1.1 x.1.2.1 x.1.2.2.1 x.2.1 x.2.2.1 x.2.2.2.1 | none => none) | false => fun _ _ => none
noncomputable def lps : List (Nat × Code) := loopsOf cfg.blk code
noncomputable def b2 : Code := bodyOf lps 2
theorem l2_eq (n : Nat) (K : St → Option R) : ∀ (j : Nat) (x0 : Int) (x1 : Int) (x2 : Int) (x3 : List (Int × Int × Int)) (x4 : List (Int)) (x5 : List Int) (x6 : List Int) (x7 : Int) (x8 : Int) (x9 : Int), impl_distances.l2 n (fun y0 y1 y2 y3 y4 y5 y6 y7 => K (mkSt sout2 (y0, y1, (y2, y3, y4, ()), y5, y6, y7, ()))) j x0 x1 x2 x3 x4 x5 x6 x7 x8 x9 = iter (roundK cfg (pick (cal n)) (lam n) fin 2 b2 sin2 sout2 K) j (mkSt sin2 (x0, x1, (x2, x3, x4, ()), x5, x6, x7, x8, x9, ()))
  | 0, _, _, _, _, _, _, _, _, _, _ => rfl
  | j + 1, x0, x1, x2, x3, x4, x5, x6, x7, x8, x9 => by
    have ih : impl_distances.l2 n (fun y0 y1 y2 y3 y4 y5 y6 y7 => K (mkSt sout2 (y0, y1, (y2, y3, y4, ()), y5, y6, y7, ()))) j = fun x0 x1 x2 x3 x4 x5 x6 x7 x8 x9 => iter (roundK cfg (pick (cal n)) (lam n) fin 2 b2 sin2 sout2 K) j (mkSt sin2 (x0, x1, (x2, x3, x4, ()), x5, x6, x7, x8, x9, ())) := funext fun x0 => funext fun x1 => funext fun x2 => funext fun x3 => funext fun x4 => funext fun x5 => funext fun x6 => funext fun x7 => funext fun x8 => funext fun x9 => l2_eq n K j x0 x1 x2 x3 x4 x5 x6 x7 x8 x9
    rw [impl_distances.l2, ih]
    show _ = roundK cfg (pick (cal n)) (lam n) fin 2 b2 sin2 sout2 K (iter (roundK cfg (pick (cal n)) (lam n) fin 2 b2 sin2 sout2 K) j) (mkSt sin2 (x0, x1, (x2, x3, x4, ()), x5, x6, x7, x8, x9, ()))
    kernel_rfl
noncomputable def b0 : Code := bodyOf lps 0
theorem l0_eq (n : Nat) (K : St → Option R) : ∀ (j : Nat) (x0 : Int) (x1 : Int) (x2 : Int) (x3 : List (Int × Int × Int)) (x4 : List (Int)) (x5 : List Int) (x6 : List Int) (x7 : Int), impl_distances.l0 n (fun y0 y1 y2 y3 y4 y5 y6 => K (mkSt sout0 (y0, y1, (y2, y3, y4, ()), y5, y6, ()))) j x0 x1 x2 x3 x4 x5 x6 x7 = iter (roundK cfg (pick (cal n)) (lam n) fin 0 b0 sin0 sout0 K) j (mkSt sin0 (x0, x1, (x2, x3, x4, ()), x5, x6, x7, ()))
  | 0, _, _, _, _, _, _, _, _ => rfl
  | j + 1, x0, x1, x2, x3, x4, x5, x6, x7 => by
    have ih : impl_distances.l0 n (fun y0 y1 y2 y3 y4 y5 y6 => K (mkSt sout0 (y0, y1, (y2, y3, y4, ()), y5, y6, ()))) j = fun x0 x1 x2 x3 x4 x5 x6 x7 => iter (roundK cfg (pick (cal n)) (lam n) fin 0 b0 sin0 sout0 K) j (mkSt sin0 (x0, x1, (x2, x3, x4, ()), x5, x6, x7, ())) := funext fun x0 => funext fun x1 => funext fun x2 => funext fun x3 => funext fun x4 => funext fun x5 => funext fun x6 => funext fun x7 => l0_eq n K j x0 x1 x2 x3 x4 x5 x6 x7
    rw [impl_distances.l0, ih]
    show _ = roundK cfg (pick (cal n)) (lam n) fin 0 b0 sin0 sout0 K (iter (roundK cfg (pick (cal n)) (lam n) fin 0 b0 sin0 sout0 K) j) (mkSt sin0 (x0, x1, (x2, x3, x4, ()), x5, x6, x7, ()))
    kernel_rfl
noncomputable def b6 : Code := bodyOf lps 6
theorem l6_eq (n : Nat) (K : St → Option R) : ∀ (j : Nat) (x0 : Int) (x1 : List (Int × Int × Int)) (x2 : List (Int)) (x3 : List Int) (x4 : List Int) (x5 : List (Int × Int)) (x6 : Int) (x7 : Int) (x8 : List (Int)) (x9 : Int) (x10 : Int), impl_distances.l6 n (fun y0 y1 y2 y3 y4 y5 => K (mkSt sout6 ((y0, y1, y2, ()), y3, y4, y5, ()))) j x0 x1 x2 x3 x4 x5 x6 x7 x8 x9 x10 = iter (roundK cfg (pick (cal n)) (lam n) fin 6 b6 sin6 sout6 K) j (mkSt sin6 ((x0, x1, x2, ()), x3, x4, x5, x6, x7, x8, x9, x10, ()))
  | 0, _, _, _, _, _, _, _, _, _, _, _ => rfl
  | j + 1, x0, x1, x2, x3, x4, x5, x6, x7, x8, x9, x10 => by
    have ih : impl_distances.l6 n (fun y0 y1 y2 y3 y4 y5 => K (mkSt sout6 ((y0, y1, y2, ()), y3, y4, y5, ()))) j = fun x0 x1 x2 x3 x4 x5 x6 x7 x8 x9 x10 => iter (roundK cfg (pick (cal n)) (lam n) fin 6 b6 sin6 sout6 K) j (mkSt sin6 ((x0, x1, x2, ()), x3, x4, x5, x6, x7, x8, x9, x10, ())) := funext fun x0 => funext fun x1 => funext fun x2 => funext fun x3 => funext fun x4 => funext fun x5 => funext fun x6 => funext fun x7 => funext fun x8 => funext fun x9 => funext fun x10 => l6_eq n K j x0 x1 x2 x3 x4 x5 x6 x7 x8 x9 x10
    rw [impl_distances.l6, ih]
    show _ = roundK cfg (pick (cal n)) (lam n) fin 6 b6 sin6 sout6 K (iter (roundK cfg (pick (cal n)) (lam n) fin 6 b6 sin6 sout6 K) j) (mkSt sin6 ((x0, x1, x2, ()), x3, x4, x5, x6, x7, x8, x9, x10, ()))
    kernel_rfl
noncomputable def b4 : Code := bodyOf lps 4
theorem l4_eq (n : Nat) (K : St → Option R) : ∀ (j : Nat) (x0 : Int) (x1 : List (Int × Int × Int)) (x2 : List (Int)) (x3 : List Int) (x4 : List Int) (x5 : List (Int × Int)), impl_distances.l4 n (fun y0 y1 => K (mkSt sout4 (y0, y1, ()))) j x0 x1 x2 x3 x4 x5 = iter (roundK cfg (pick (cal n)) (lam n) fin 4 b4 sin4 sout4 K) j (mkSt sin4 ((x0, x1, x2, ()), x3, x4, x5, ()))
  | 0, _, _, _, _, _, _ => rfl
  | j + 1, x0, x1, x2, x3, x4, x5 => by
    have ih : impl_distances.l4 n (fun y0 y1 => K (mkSt sout4 (y0, y1, ()))) j = fun x0 x1 x2 x3 x4 x5 => iter (roundK cfg (pick (cal n)) (lam n) fin 4 b4 sin4 sout4 K) j (mkSt sin4 ((x0, x1, x2, ()), x3, x4, x5, ())) := funext fun x0 => funext fun x1 => funext fun x2 => funext fun x3 => funext fun x4 => funext fun x5 => l4_eq n K j x0 x1 x2 x3 x4 x5
    rw [impl_distances.l4, ih]
    show _ = roundK cfg (pick (cal n)) (lam n) fin 4 b4 sin4 sout4 K (iter (roundK cfg (pick (cal n)) (lam n) fin 4 b4 sin4 sout4 K) j) (mkSt sin4 ((x0, x1, x2, ()), x3, x4, x5, ()))
    kernel_rfl
theorem loops (n : Nat) : LoopsOk cfg (pick (cal n)) (lam n) fin (loopsOf cfg.blk code) := by
  have h : loopsOf cfg.blk code = [(0, b0), (2, b2), (4, b4), (6, b6)] := by kernel_rfl
  rw [h]
  intro p hp K st r hr
  simp only [List.mem_cons, List.not_mem_nil, or_false] at hp
  rcases hp with rfl | rfl | rfl | rfl
  · have hr' : (match absSt sin0 st with | some (x, _) => impl_distances.l0 n (fun y0 y1 y2 y3 y4 y5 y6 => K (mkSt sout0 (y0, y1, (y2, y3, y4, ()), y5, y6, ()))) n x.1 x.2.1 x.2.2.1.1 x.2.2.1.2.1 x.2.2.1.2.2.1 x.2.2.2.1 x.2.2.2.2.1 x.2.2.2.2.2.1 | none => none) = some r := hr
    split at hr'
    · rename_i x es hx
      rw [l0_eq] at hr'
      exact ⟨sin0, sout0, n, x, es, hx, hr'⟩
    · cases hr'
  · have hr' : (match absSt sin2 st with | some (x, _) => impl_distances.l2 n (fun y0 y1 y2 y3 y4 y5 y6 y7 => K (mkSt sout2 (y0, y1, (y2, y3, y4, ()), y5, y6, y7, ()))) n x.1 x.2.1 x.2.2.1.1 x.2.2.1.2.1 x.2.2.1.2.2.1 x.2.2.2.1 x.2.2.2.2.1 x.2.2.2.2.2.1 x.2.2.2.2.2.2.1 x.2.2.2.2.2.2.2.1 | none => none) = some r := hr
    split at hr'
    · rename_i x es hx
      rw [l2_eq] at hr'
      exact ⟨sin2, sout2, n, x, es, hx, hr'⟩
    · cases hr'
  · have hr' : (match absSt sin4 st with | some (x, _) => impl_distances.l4 n (fun y0 y1 => K (mkSt sout4 (y0, y1, ()))) n x.1.1 x.1.2.1 x.1.2.2.1 x.2.1 x.2.2.1 x.2.2.2.1 | none => none) = some r := hr
    split at hr'
    · rename_i x es hx
      rw [l4_eq] at hr'
      exact ⟨sin4, sout4, n, x, es, hx, hr'⟩
    · cases hr'
  · have hr' : (match absSt sin6 st with | some (x, _) => impl_distances.l6 n (fun y0 y1 y2 y3 y4 y5 => K (mkSt sout6 ((y0, y1, y2, ()), y3, y4, y5, ()))) n x.1.1 x.1.2.1 x.1.2.2.1 x.2.1 x.2.2.1 x.2.2.2.1 x.2.2.2.2.1 x.2.2.2.2.2.1 x.2.2.2.2.2.2.1 x.2.2.2.2.2.2.2.1 x.2.2.2.2.2.2.2.2.1 | none => none) = some r := hr
    split at hr'
    · rename_i x es hx
      rw [l6_eq] at hr'
      exact ⟨sin6, sout6, n, x, es, hx, hr'⟩
    · cases hr'
theorem F_eq (n : Nat) (x0 : Int) (x1 : List (Int × Int × Int)) (x2 : List (Int)) (x3 : Int) (x4 : Int) : impl_distances.F n x0 x1 x2 x3 x4 = exK cfg (pick (cal n)) (lam n) fin code (fun _ _ => none) (mkSt shp ((x0, x1, x2, ()), x3, x4, ())) fin := by
  kernel_rfl
def pfn (n : Nat) : PFn := mkFn shp outs (fun x => impl_distances.F n x.1.1 x.1.2.1 x.1.2.2.1 x.2.1 x.2.2.1) out
theorem ok (n : Nat) : (pfn n).Ok Go.Proofs.Tryz.prog 79 :=
  mkFn_ok (fn := Go.Proofs.Tryz.f79) (code := code) Go.Proofs.Tryz.func79 (by kernel_rfl) (by decide) (C := cfg) (Φ := pick (cal n)) (Λ := lam n) (into := into) hT (cal_ok n) (by kernel_rfl) rfl (by decide) rfl (fun _ => rfl) (loops n)
    (fun x r h => by
      have e := F_eq n x.1.1 x.1.2.1 x.1.2.2.1 x.2.1 x.2.2.1
      exact e.symm.trans h)
end impl_distances
end
/-! ### loop.example/g01158/impl.fromStart -/
section
namespace impl_fromStart
noncomputable def code : Code := (Go.Proofs.Tryz.f54.body).getD .skip
abbrev shp : Shape := [(0, .agg [.int .i64, .row (.t3) false, .row (.int .i64) false])]
abbrev outs : List KD := [.ints 768]
abbrev R : Type := (List Int)
def out : R → denL outs := fun r => (r, ())
def into : denL outs → R := fun y => y.1
def cfg : Cfg := ⟨ty, 9, [], fun _ => .plain, fun _ => none⟩
def cal (n : Nat) : List (Nat × PFn) := [(79, impl_distances.pfn n)]
theorem cal_ok (n : Nat) : ∀ g, (pick (cal n) g).Ok Go.Proofs.Tryz.prog g := pick_ok (by
  intro p hp
  simp only [cal, List.mem_cons, List.not_mem_nil, or_false] at hp
  rcases hp with rfl
  · exact impl_distances.ok n)
def fin : St → Option R := finOf ty [.cell 2 68] outs into
def lam (n : Nat) : Nat → (St → Option R) → St → Option R := fun _ => fun _ _ => none
theorem loops (n : Nat) : LoopsOk cfg (pick (cal n)) (lam n) fin (loopsOf cfg.blk code) := by
  have h : loopsOf cfg.blk code = [] := by kernel_rfl
  rw [h]
  intro p hp
  cases hp
theorem F_eq (n : Nat) (x0 : Int) (x1 : List (Int × Int × Int)) (x2 : List (Int)) : impl_fromStart.F n x0 x1 x2 = exK cfg (pick (cal n)) (lam n) fin code (fun _ _ => none) (mkSt shp ((x0, x1, x2, ()), ())) fin := by
  kernel_rfl
def pfn (n : Nat) : PFn := mkFn shp outs (fun x => impl_fromStart.F n x.1.1 x.1.2.1 x.1.2.2.1) out
theorem ok (n : Nat) : (pfn n).Ok Go.Proofs.Tryz.prog 54 :=
  mkFn_ok (fn := Go.Proofs.Tryz.f54) (code := code) Go.Proofs.Tryz.func54 (by kernel_rfl) (by decide) (C := cfg) (Φ := pick (cal n)) (Λ := lam n) (into := into) hT (cal_ok n) (by kernel_rfl) rfl (by decide) rfl (fun _ => rfl) (loops n)
    (fun x r h => by
      have e := F_eq n x.1.1 x.1.2.1 x.1.2.2.1
      exact e.symm.trans h)
end impl_fromStart
end
/-! ### loop.example/g01158/impl.anySet -/
section
namespace impl_anySet
noncomputable def code : Code := (Go.Proofs.Tryz.f56.body).getD .skip
abbrev shp : Shape := [(0, .one (.int .i64))]
abbrev outs : List KD := [.one (.bool)]
abbrev R : Type := Bool
def out : R → denL outs := fun r => (r, ())
def into : denL outs → R := fun y => y.1
def cfg : Cfg := ⟨ty, 3, [], fun _ => .plain, fun _ => none⟩
def cal (n : Nat) : List (Nat × PFn) := []
theorem cal_ok (n : Nat) : ∀ g, (pick (cal n) g).Ok Go.Proofs.Tryz.prog g := pick_ok (by
  intro p hp
  cases hp)
def fin : St → Option R := finOf ty [.tmp 2] outs into
def lam (n : Nat) : Nat → (St → Option R) → St → Option R := fun _ => fun _ _ => none
theorem loops (n : Nat) : LoopsOk cfg (pick (cal n)) (lam n) fin (loopsOf cfg.blk code) := by
  have h : loopsOf cfg.blk code = [] := by kernel_rfl
  rw [h]
  intro p hp
  cases hp
theorem F_eq (n : Nat) (x0 : Int) : impl_anySet.F n x0 = exK cfg (pick (cal n)) (lam n) fin code (fun _ _ => none) (mkSt shp (x0, ())) fin := by
  kernel_rfl
def pfn (n : Nat) : PFn := mkFn shp outs (fun x => impl_anySet.F n x.1) out
theorem ok (n : Nat) : (pfn n).Ok Go.Proofs.Tryz.prog 56 :=
  mkFn_ok (fn := Go.Proofs.Tryz.f56) (code := code) Go.Proofs.Tryz.func56 (by kernel_rfl) (by decide) (C := cfg) (Φ := pick (cal n)) (Λ := lam n) (into := into) hT (cal_ok n) (by kernel_rfl) rfl (by decide) rfl (fun _ => rfl) (loops n)
    (fun x r h => by
      have e := F_eq n x.1
      exact e.symm.trans h)
end impl_anySet
end
/-! ### loop.example/g01158/impl.better -/
section
namespace impl_better
noncomputable def code : Code := (Go.Proofs.Tryz.f80.body).getD .skip
abbrev shp : Shape := [(0, .one (.int .i64)), (1, .one (.int .i64))]
abbrev outs : List KD := [.one (.bool)]
abbrev R : Type := Bool
def out : R → denL outs := fun r => (r, ())
def into : denL outs → R := fun y => y.1
def cfg : Cfg := ⟨ty, 16, [], fun _ => .plain, fun _ => none⟩
def cal (n : Nat) : List (Nat × PFn) := []
theorem cal_ok (n : Nat) : ∀ g, (pick (cal n) g).Ok Go.Proofs.Tryz.prog g := pick_ok (by
  intro p hp
  cases hp)
def fin : St → Option R := finOf ty [.tmp 4] outs into
def lam (n : Nat) : Nat → (St → Option R) → St → Option R := fun _ => fun _ _ => none
theorem loops (n : Nat) : LoopsOk cfg (pick (cal n)) (lam n) fin (loopsOf cfg.blk code) := by
  have h : loopsOf cfg.blk code = [] := by kernel_rfl
  rw [h]
  intro p hp
  cases hp
theorem F_eq (n : Nat) (x0 : Int) (x1 : Int) : impl_better.F n x0 x1 = exK cfg (pick (cal n)) (lam n) fin code (fun _ _ => none) (mkSt shp (x0, x1, ())) fin := by
  kernel_rfl
def pfn (n : Nat) : PFn := mkFn shp outs (fun x => impl_better.F n x.1 x.2.1) out
theorem ok (n : Nat) : (pfn n).Ok Go.Proofs.Tryz.prog 80 :=
  mkFn_ok (fn := Go.Proofs.Tryz.f80) (code := code) Go.Proofs.Tryz.func80 (by kernel_rfl) (by decide) (C := cfg) (Φ := pick (cal n)) (Λ := lam n) (into := into) hT (cal_ok n) (by kernel_rfl) rfl (by decide) rfl (fun _ => rfl) (loops n)
    (fun x r h => by
      have e := F_eq n x.1 x.2.1
      exact e.symm.trans h)
end impl_better
end
/-! ### (loop.example/g01158/impl.grid).least -/
section
namespace impl_grid_least_canySet
noncomputable def code : Code := (Go.Proofs.Tryz.f55.body).getD .skip
abbrev shp : Shape := [(0, .ints 768), (1, .one (.int .i64)), (2, .fn 56 [])]
abbrev outs : List KD := [.one (.int .i64)]
abbrev R : Type := Int
def out : R → denL outs := fun r => (r, ())
def into : denL outs → R := fun y => y.1
def cfg : Cfg := ⟨ty, 28, [], fun i => match Nat.beq i 0 with | true => .loop | false => .plain, fun _ => none⟩
def cal (n : Nat) : List (Nat × PFn) := [(56, impl_anySet.pfn n), (80, impl_better.pfn n)]
theorem cal_ok (n : Nat) : ∀ g, (pick (cal n) g).Ok Go.Proofs.Tryz.prog g := pick_ok (by
  intro p hp
  simp only [cal, List.mem_cons, List.not_mem_nil, or_false] at hp
  rcases hp with rfl | rfl
  · exact impl_anySet.ok n
  · exact impl_better.ok n)
def fin : St → Option R := finOf ty [.tmp 6] outs into
abbrev sin0 : Shape := [(2, .fn 56 []), (7, .one (.int .i64)), (12, .ints 64), (13, .one (.int .i64))]
abbrev sout0 : Shape := [(7, .one (.int .i64))]
def lam (n : Nat) : Nat → (St → Option R) → St → Option R := fun i => match Nat.beq i 0 with | true => (fun K st => match absSt sin0 st with | some (x, _) => impl_grid_least_canySet.l0 n (fun y0 => K (mkSt sout0 (y0, ()))) n x.2.1 x.2.2.1 x.2.2.2.1 | none => none) | false => fun _ _ => none
noncomputable def lps : List (Nat × Code) := loopsOf cfg.blk code
noncomputable def b0 : Code := bodyOf lps 0
theorem l0_eq (n : Nat) (K : St → Option R) : ∀ (j : Nat) (x0 : Int) (x1 : List Int) (x2 : Int), impl_grid_least_canySet.l0 n (fun y0 => K (mkSt sout0 (y0, ()))) j x0 x1 x2 = iter (roundK cfg (pick (cal n)) (lam n) fin 0 b0 sin0 sout0 K) j (mkSt sin0 ((), x0, x1, x2, ()))
  | 0, _, _, _ => rfl
  | j + 1, x0, x1, x2 => by
    have ih : impl_grid_least_canySet.l0 n (fun y0 => K (mkSt sout0 (y0, ()))) j = fun x0 x1 x2 => iter (roundK cfg (pick (cal n)) (lam n) fin 0 b0 sin0 sout0 K) j (mkSt sin0 ((), x0, x1, x2, ())) := funext fun x0 => funext fun x1 => funext fun x2 => l0_eq n K j x0 x1 x2
    rw [impl_grid_least_canySet.l0, ih]
    show _ = roundK cfg (pick (cal n)) (lam n) fin 0 b0 sin0 sout0 K (iter (roundK cfg (pick (cal n)) (lam n) fin 0 b0 sin0 sout0 K) j) (mkSt sin0 ((), x0, x1, x2, ()))
    kernel_rfl
theorem loops (n : Nat) : LoopsOk cfg (pick (cal n)) (lam n) fin (loopsOf cfg.blk code) := by
  have h : loopsOf cfg.blk code = [(0, b0)] := by kernel_rfl
  rw [h]
  intro p hp K st r hr
  simp only [List.mem_cons, List.not_mem_nil, or_false] at hp
  rcases hp with rfl
  · have hr' : (match absSt sin0 st with | some (x, _) => impl_grid_least_canySet.l0 n (fun y0 => K (mkSt sout0 (y0, ()))) n x.2.1 x.2.2.1 x.2.2.2.1 | none => none) = some r := hr
    split at hr'
    · rename_i x es hx
      rw [l0_eq] at hr'
      exact ⟨sin0, sout0, n, x, es, hx, hr'⟩
    · cases hr'
theorem F_eq (n : Nat) (x0 : List Int) (x1 : Int) : impl_grid_least_canySet.F n x0 x1 = exK cfg (pick (cal n)) (lam n) fin code (fun _ _ => none) (mkSt shp (x0, x1, (), ())) fin := by
  kernel_rfl
def pfn (n : Nat) : PFn := mkFn shp outs (fun x => impl_grid_least_canySet.F n x.1 x.2.1) out
theorem ok (n : Nat) : (pfn n).Ok Go.Proofs.Tryz.prog 55 :=
  mkFn_ok (fn := Go.Proofs.Tryz.f55) (code := code) Go.Proofs.Tryz.func55 (by kernel_rfl) (by decide) (C := cfg) (Φ := pick (cal n)) (Λ := lam n) (into := into) hT (cal_ok n) (by kernel_rfl) rfl (by decide) rfl (fun _ => rfl) (loops n)
    (fun x r h => by
      have e := F_eq n x.1 x.2.1
      exact e.symm.trans h)
end impl_grid_least_canySet
end
/-! ### loop.example/g01158/impl.told -/
section
namespace impl_told
noncomputable def code : Code := (Go.Proofs.Tryz.f53.body).getD .skip
abbrev shp : Shape := [(0, .one (.int .i64))]
abbrev outs : List KD := [.one (.int .i64), .one (.bool)]
abbrev R : Type := Int × Bool
def out : R → denL outs := fun r => (r.1, r.2, ())
def into : denL outs → R := fun y => (y.1, y.2.1)
def cfg : Cfg := ⟨ty, 8, [], fun _ => .plain, fun _ => none⟩
def cal (n : Nat) : List (Nat × PFn) := []
theorem cal_ok (n : Nat) : ∀ g, (pick (cal n) g).Ok Go.Proofs.Tryz.prog g := pick_ok (by
  intro p hp
  cases hp)
def fin : St → Option R := finOf ty [.tmp 2, .tmp 3] outs into
def lam (n : Nat) : Nat → (St → Option R) → St → Option R := fun _ => fun _ _ => none
theorem loops (n : Nat) : LoopsOk cfg (pick (cal n)) (lam n) fin (loopsOf cfg.blk code) := by
  have h : loopsOf cfg.blk code = [] := by kernel_rfl
  rw [h]
  intro p hp
  cases hp
theorem F_eq (n : Nat) (x0 : Int) : impl_told.F n x0 = exK cfg (pick (cal n)) (lam n) fin code (fun _ _ => none) (mkSt shp (x0, ())) fin := by
  kernel_rfl
def pfn (n : Nat) : PFn := mkFn shp outs (fun x => impl_told.F n x.1) out
theorem ok (n : Nat) : (pfn n).Ok Go.Proofs.Tryz.prog 53 :=
  mkFn_ok (fn := Go.Proofs.Tryz.f53) (code := code) Go.Proofs.Tryz.func53 (by kernel_rfl) (by decide) (C := cfg) (Φ := pick (cal n)) (Λ := lam n) (into := into) hT (cal_ok n) (by kernel_rfl) rfl (by decide) rfl (fun _ => rfl) (loops n)
    (fun x r h => by
      have e := F_eq n x.1
      exact e.symm.trans h)
end impl_told
end
/-! ### loop.example/g01158/impl.FewestSteps -/
section
namespace impl_FewestSteps
noncomputable def code : Code := (Go.Proofs.Tryz.f25.body).getD .skip
abbrev shp : Shape := [(0, .agg [.int .i64, .row (.t3) false, .row (.int .i64) false])]
abbrev outs : List KD := [.one (.int .i64), .one (.bool)]
abbrev R : Type := Int × Bool
def out : R → denL outs := fun r => (r.1, r.2, ())
def into : denL outs → R := fun y => (y.1, y.2.1)
def cfg : Cfg := ⟨ty, 16, [], fun _ => .plain, fun _ => none⟩
def cal (n : Nat) : List (Nat × PFn) := [(27, impl_IsMaze.pfn n), (53, impl_told.pfn n), (54, impl_fromStart.pfn n), (55, impl_grid_least_canySet.pfn n)]
theorem cal_ok (n : Nat) : ∀ g, (pick (cal n) g).Ok Go.Proofs.Tryz.prog g := pick_ok (by
  intro p hp
  simp only [cal, List.mem_cons, List.not_mem_nil, or_false] at hp
  rcases hp with rfl | rfl | rfl | rfl
  · exact impl_IsMaze.ok n
  · exact impl_told.ok n
  · exact impl_fromStart.ok n
  · exact impl_grid_least_canySet.ok n)
def fin : St → Option R := finOf ty [.tmp 2, .tmp 3] outs into
def lam (n : Nat) : Nat → (St → Option R) → St → Option R := fun _ => fun _ _ => none
theorem loops (n : Nat) : LoopsOk cfg (pick (cal n)) (lam n) fin (loopsOf cfg.blk code) := by
  have h : loopsOf cfg.blk code = [] := by kernel_rfl
  rw [h]
  intro p hp
  cases hp
theorem F_eq (n : Nat) (x0 : Int) (x1 : List (Int × Int × Int)) (x2 : List (Int)) : impl_FewestSteps.F n x0 x1 x2 = exK cfg (pick (cal n)) (lam n) fin code (fun _ _ => none) (mkSt shp ((x0, x1, x2, ()), ())) fin := by
  kernel_rfl
def pfn (n : Nat) : PFn := mkFn shp outs (fun x => impl_FewestSteps.F n x.1.1 x.1.2.1 x.1.2.2.1) out
theorem ok (n : Nat) : (pfn n).Ok Go.Proofs.Tryz.prog 25 :=
  mkFn_ok (fn := Go.Proofs.Tryz.f25) (code := code) Go.Proofs.Tryz.func25 (by kernel_rfl) (by decide) (C := cfg) (Φ := pick (cal n)) (Λ := lam n) (into := into) hT (cal_ok n) (by kernel_rfl) rfl (by decide) rfl (fun _ => rfl) (loops n)
    (fun x r h => by
      have e := F_eq n x.1.1 x.1.2.1 x.1.2.2.1
      exact e.symm.trans h)
end impl_FewestSteps
end
/-! ### loop.example/g01158/laws.FnKeyWalks -/
section
namespace laws_FnKeyWalks
noncomputable def code : Code := (Go.Proofs.Tryz.f3.body).getD .skip
abbrev shp : Shape := [(0, .one (.row (.int .u8) false))]
abbrev outs : List KD := [.one (.bool)]
abbrev R : Type := Bool
def out : R → denL outs := fun r => (r, ())
def into : denL outs → R := fun y => y.1
def cfg : Cfg := ⟨ty, 346, [], fun i => match Nat.beq i 0 with | true => .loop | false => .plain, fun i => match Nat.beq i 8 with | true => some [(0, .one (.row (.int .u8) false)), (3, .box true [.int .i64, .row (.t3) true, .row (.int .i64) true]), (4, .one (.row (.int .i64) true)), (5, .one (.row (.int .i64) true)), (6, .one (.bool))] | false => match Nat.beq i 12 with | true => some [(0, .one (.row (.int .u8) false)), (3, .box true [.int .i64, .row (.t3) true, .row (.int .i64) true]), (4, .one (.row (.int .i64) true)), (5, .one (.row (.int .i64) true))] | false => match Nat.beq i 17 with | true => some [(0, .one (.row (.int .u8) false)), (3, .box true [.int .i64, .row (.t3) true, .row (.int .i64) true]), (4, .one (.row (.int .i64) true)), (5, .one (.row (.int .i64) true)), (13, .box true [.int .i64, .row (.t3) true, .row (.int .i64) true]), (15, .box true [.int .i64, .row (.t3) true, .row (.int .i64) true]), (16, .one (.bool))] | false => match Nat.beq i 22 with | true => some [(0, .one (.row (.int .u8) false)), (3, .box true [.int .i64, .row (.t3) true, .row (.int .i64) true]), (4, .one (.row (.int .i64) true)), (5, .one (.row (.int .i64) true)), (13, .box true [.int .i64, .row (.t3) true, .row (.int .i64) true]), (15, .box true [.int .i64, .row (.t3) true, .row (.int .i64) true]), (16, .one (.bool)), (19, .box true [.int .i64, .row (.t3) true, .row (.int .i64) true])] | false => match Nat.beq i 27 with | true => some [(3, .box true [.int .i64, .row (.t3) true, .row (.int .i64) true]), (4, .one (.row (.int .i64) true)), (5, .one (.row (.int .i64) true)), (13, .box true [.int .i64, .row (.t3) true, .row (.int .i64) true]), (15, .box true [.int .i64, .row (.t3) true, .row (.int .i64) true]), (16, .one (.bool)), (19, .box true [.int .i64, .row (.t3) true, .row (.int .i64) true]), (25, .box true [.int .i64, .row (.t3) true, .row (.int .i64) true]), (26, .one (.int .i64)), (27, .box true [.int .i64, .row (.t3) true, .row (.int .i64) true]), (28, .one (.bool))] | false => match Nat.beq i 31 with | true => some [(3, .box true [.int .i64, .row (.t3) true, .row (.int .i64) true]), (4, .one (.row (.int .i64) true)), (5, .one (.row (.int .i64) true)), (13, .box true [.int .i64, .row (.t3) true, .row (.int .i64) true]), (15, .box true [.int .i64, .row (.t3) true, .row (.int .i64) true]), (16, .one (.bool)), (19, .box true [.int .i64, .row (.t3) true, .row (.int .i64) true]), (25, .box true [.int .i64, .row (.t3) true, .row (.int .i64) true]), (27, .box true [.int .i64, .row (.t3) true, .row (.int .i64) true]), (28, .one (.bool)), (31, .box true [.int .i64, .row (.t3) true, .row (.int .i64) true])] | false => match Nat.beq i 35 with | true => some [(3, .box true [.int .i64, .row (.t3) true, .row (.int .i64) true]), (4, .one (.row (.int .i64) true)), (5, .one (.row (.int .i64) true)), (13, .box true [.int .i64, .row (.t3) true, .row (.int .i64) true]), (15, .box true [.int .i64, .row (.t3) true, .row (.int .i64) true]), (16, .one (.bool)), (19, .box true [.int .i64, .row (.t3) true, .row (.int .i64) true]), (25, .box true [.int .i64, .row (.t3) true, .row (.int .i64) true]), (27, .box true [.int .i64, .row (.t3) true, .row (.int .i64) true]), (28, .one (.bool)), (31, .box true [.int .i64, .row (.t3) true, .row (.int .i64) true]), (35, .box true [.int .i64, .row (.t3) true, .row (.int .i64) true]), (36, .one (.bool))] | false => match Nat.beq i 39 with | true => some [(3, .box true [.int .i64, .row (.t3) true, .row (.int .i64) true]), (4, .one (.row (.int .i64) true)), (5, .one (.row (.int .i64) true)), (13, .box true [.int .i64, .row (.t3) true, .row (.int .i64) true]), (15, .box true [.int .i64, .row (.t3) true, .row (.int .i64) true]), (16, .one (.bool)), (25, .box true [.int .i64, .row (.t3) true, .row (.int .i64) true]), (27, .box true [.int .i64, .row (.t3) true, .row (.int .i64) true]), (28, .one (.bool)), (31, .box true [.int .i64, .row (.t3) true, .row (.int .i64) true])] | false => match Nat.beq i 45 with | true => some [(3, .box true [.int .i64, .row (.t3) true, .row (.int .i64) true]), (4, .one (.row (.int .i64) true)), (5, .one (.row (.int .i64) true)), (13, .box true [.int .i64, .row (.t3) true, .row (.int .i64) true]), (15, .box true [.int .i64, .row (.t3) true, .row (.int .i64) true]), (16, .one (.bool))] | false => match Nat.beq i 50 with | true => some [(3, .box true [.int .i64, .row (.t3) true, .row (.int .i64) true]), (4, .one (.row (.int .i64) true)), (5, .one (.row (.int .i64) true))] | false => none⟩
def cal (n : Nat) : List (Nat × PFn) := [(4, laws_rBig.pfn n), (5, spec_DrawTakenOn.pfn n), (6, impl_TakenOn.pfn n), (7, spec_TakenOn.pfn n), (8, laws_rInts.pfn n), (9, impl_IsKeyWalk.pfn n), (10, spec_IsKeyWalk.pfn n), (11, spec_DrawRepaintMaze.pfn n), (12, impl_RepaintMaze.pfn n), (13, spec_RepaintMaze.pfn n), (14, laws_rMaze.pfn n), (15, spec_DrawNumberMaze.pfn n), (16, impl_NumberMaze.pfn n), (17, spec_NumberMaze.pfn n), (18, spec_DrawFreeColours.pfn n), (19, impl_FreeColours.pfn n), (20, spec_FreeColours.pfn n), (21, impl_BarColours.pfn n), (22, spec_BarColours.pfn n), (23, impl_MirrorMaze.pfn n), (24, spec_MirrorMaze.pfn n), (25, impl_FewestSteps.pfn n)]
theorem cal_ok (n : Nat) : ∀ g, (pick (cal n) g).Ok Go.Proofs.Tryz.prog g := pick_ok (by
  intro p hp
  simp only [cal, List.mem_cons, List.not_mem_nil, or_false] at hp
  rcases hp with rfl | rfl | rfl | rfl | rfl | rfl | rfl | rfl | rfl | rfl | rfl | rfl | rfl | rfl | rfl | rfl | rfl | rfl | rfl | rfl | rfl | rfl
  · exact laws_rBig.ok n
  · exact spec_DrawTakenOn.ok n
  · exact impl_TakenOn.ok n
  · exact spec_TakenOn.ok n
  · exact laws_rInts.ok n
  · exact impl_IsKeyWalk.ok n
  · exact spec_IsKeyWalk.ok n
  · exact spec_DrawRepaintMaze.ok n
  · exact impl_RepaintMaze.ok n
  · exact spec_RepaintMaze.ok n
  · exact laws_rMaze.ok n
  · exact spec_DrawNumberMaze.ok n
  · exact impl_NumberMaze.ok n
  · exact spec_NumberMaze.ok n
  · exact spec_DrawFreeColours.ok n
  · exact impl_FreeColours.ok n
  · exact spec_FreeColours.ok n
  · exact impl_BarColours.ok n
  · exact spec_BarColours.ok n
  · exact impl_MirrorMaze.ok n
  · exact spec_MirrorMaze.ok n
  · exact impl_FewestSteps.ok n)
def fin : St → Option R := finOf ty [.tmp 2] outs into
abbrev sin0 : Shape := [(3, .box true [.int .i64, .row (.t3) true, .row (.int .i64) true]), (4, .one (.row (.int .i64) true)), (5, .one (.row (.int .i64) true)), (51, .one (.int .i64))]
abbrev sout0 : Shape := []
def lam (n : Nat) : Nat → (St → Option R) → St → Option R := fun i => match Nat.beq i 0 with | true => (fun K st => match absSt sin0 st with | some (x, _) => laws_FnKeyWalks.l0 n (fun _ => K (mkSt sout0 ())) n x.1.1 x.1.2.1 x.1.2.2.1 x.2.1 x.2.2.1 x.2.2.2.1 | none => none) | false => fun _ _ => none
noncomputable def lps : List (Nat × Code) := loopsOf cfg.blk code
noncomputable def b0 : Code := bodyOf lps 0
theorem l0_eq (n : Nat) (K : St → Option R) : ∀ (j : Nat) (x0 : Int) (x1 : List (Int × Int × Int)) (x2 : List (Int)) (x3 : List (Int)) (x4 : List (Int)) (x5 : Int), laws_FnKeyWalks.l0 n (fun _ => K (mkSt sout0 ())) j x0 x1 x2 x3 x4 x5 = iter (roundK cfg (pick (cal n)) (lam n) fin 0 b0 sin0 sout0 K) j (mkSt sin0 ((x0, x1, x2, ()), x3, x4, x5, ()))
  | 0, _, _, _, _, _, _ => rfl
  | j + 1, x0, x1, x2, x3, x4, x5 => by
    have ih : laws_FnKeyWalks.l0 n (fun _ => K (mkSt sout0 ())) j = fun x0 x1 x2 x3 x4 x5 => iter (roundK cfg (pick (cal n)) (lam n) fin 0 b0 sin0 sout0 K) j (mkSt sin0 ((x0, x1, x2, ()), x3, x4, x5, ())) := funext fun x0 => funext fun x1 => funext fun x2 => funext fun x3 => funext fun x4 => funext fun x5 => l0_eq n K j x0 x1 x2 x3 x4 x5
    rw [laws_FnKeyWalks.l0, ih]
    show _ = roundK cfg (pick (cal n)) (lam n) fin 0 b0 sin0 sout0 K (iter (roundK cfg (pick (cal n)) (lam n) fin 0 b0 sin0 sout0 K) j) (mkSt sin0 ((x0, x1, x2, ()), x3, x4, x5, ()))
    kernel_rfl
theorem loops (n : Nat) : LoopsOk cfg (pick (cal n)) (lam n) fin (loopsOf cfg.blk code) := by
  have h : loopsOf cfg.blk code = [(0, b0)] := by kernel_rfl
  rw [h]
  intro p hp K st r hr
  simp only [List.mem_cons, List.not_mem_nil, or_false] at hp
  rcases hp with rfl
  · have hr' : (match absSt sin0 st with | some (x, _) => laws_FnKeyWalks.l0 n (fun _ => K (mkSt sout0 ())) n x.1.1 x.1.2.1 x.1.2.2.1 x.2.1 x.2.2.1 x.2.2.2.1 | none => none) = some r := hr
    split at hr'
    · rename_i x es hx
      rw [l0_eq] at hr'
      exact ⟨sin0, sout0, n, x, es, hx, hr'⟩
    · cases hr'
noncomputable def code8 : Code := spineAt 5 code
abbrev cut8 : Shape := [(0, .one (.row (.int .u8) false)), (3, .box true [.int .i64, .row (.t3) true, .row (.int .i64) true]), (4, .one (.row (.int .i64) true)), (5, .one (.row (.int .i64) true)), (6, .one (.bool))]
noncomputable def code12 : Code := spineAt 2 code8
abbrev cut12 : Shape := [(0, .one (.row (.int .u8) false)), (3, .box true [.int .i64, .row (.t3) true, .row (.int .i64) true]), (4, .one (.row (.int .i64) true)), (5, .one (.row (.int .i64) true))]
noncomputable def code17 : Code := spineAt 3 code12
abbrev cut17 : Shape := [(0, .one (.row (.int .u8) false)), (3, .box true [.int .i64, .row (.t3) true, .row (.int .i64) true]), (4, .one (.row (.int .i64) true)), (5, .one (.row (.int .i64) true)), (13, .box true [.int .i64, .row (.t3) true, .row (.int .i64) true]), (15, .box true [.int .i64, .row (.t3) true, .row (.int .i64) true]), (16, .one (.bool))]
noncomputable def code22 : Code := spineAt 3 code17
abbrev cut22 : Shape := [(0, .one (.row (.int .u8) false)), (3, .box true [.int .i64, .row (.t3) true, .row (.int .i64) true]), (4, .one (.row (.int .i64) true)), (5, .one (.row (.int .i64) true)), (13, .box true [.int .i64, .row (.t3) true, .row (.int .i64) true]), (15, .box true [.int .i64, .row (.t3) true, .row (.int .i64) true]), (16, .one (.bool)), (19, .box true [.int .i64, .row (.t3) true, .row (.int .i64) true])]
noncomputable def code27 : Code := spineAt 3 code22
abbrev cut27 : Shape := [(3, .box true [.int .i64, .row (.t3) true, .row (.int .i64) true]), (4, .one (.row (.int .i64) true)), (5, .one (.row (.int .i64) true)), (13, .box true [.int .i64, .row (.t3) true, .row (.int .i64) true]), (15, .box true [.int .i64, .row (.t3) true, .row (.int .i64) true]), (16, .one (.bool)), (19, .box true [.int .i64, .row (.t3) true, .row (.int .i64) true]), (25, .box true [.int .i64, .row (.t3) true, .row (.int .i64) true]), (26, .one (.int .i64)), (27, .box true [.int .i64, .row (.t3) true, .row (.int .i64) true]), (28, .one (.bool))]
noncomputable def code31 : Code := spineAt 2 code27
abbrev cut31 : Shape := [(3, .box true [.int .i64, .row (.t3) true, .row (.int .i64) true]), (4, .one (.row (.int .i64) true)), (5, .one (.row (.int .i64) true)), (13, .box true [.int .i64, .row (.t3) true, .row (.int .i64) true]), (15, .box true [.int .i64, .row (.t3) true, .row (.int .i64) true]), (16, .one (.bool)), (19, .box true [.int .i64, .row (.t3) true, .row (.int .i64) true]), (25, .box true [.int .i64, .row (.t3) true, .row (.int .i64) true]), (27, .box true [.int .i64, .row (.t3) true, .row (.int .i64) true]), (28, .one (.bool)), (31, .box true [.int .i64, .row (.t3) true, .row (.int .i64) true])]
noncomputable def code35 : Code := spineAt 2 code31
abbrev cut35 : Shape := [(3, .box true [.int .i64, .row (.t3) true, .row (.int .i64) true]), (4, .one (.row (.int .i64) true)), (5, .one (.row (.int .i64) true)), (13, .box true [.int .i64, .row (.t3) true, .row (.int .i64) true]), (15, .box true [.int .i64, .row (.t3) true, .row (.int .i64) true]), (16, .one (.bool)), (19, .box true [.int .i64, .row (.t3) true, .row (.int .i64) true]), (25, .box true [.int .i64, .row (.t3) true, .row (.int .i64) true]), (27, .box true [.int .i64, .row (.t3) true, .row (.int .i64) true]), (28, .one (.bool)), (31, .box true [.int .i64, .row (.t3) true, .row (.int .i64) true]), (35, .box true [.int .i64, .row (.t3) true, .row (.int .i64) true]), (36, .one (.bool))]
noncomputable def code39 : Code := spineAt 1 code35
abbrev cut39 : Shape := [(3, .box true [.int .i64, .row (.t3) true, .row (.int .i64) true]), (4, .one (.row (.int .i64) true)), (5, .one (.row (.int .i64) true)), (13, .box true [.int .i64, .row (.t3) true, .row (.int .i64) true]), (15, .box true [.int .i64, .row (.t3) true, .row (.int .i64) true]), (16, .one (.bool)), (25, .box true [.int .i64, .row (.t3) true, .row (.int .i64) true]), (27, .box true [.int .i64, .row (.t3) true, .row (.int .i64) true]), (28, .one (.bool)), (31, .box true [.int .i64, .row (.t3) true, .row (.int .i64) true])]
noncomputable def code45 : Code := spineAt 1 code39
abbrev cut45 : Shape := [(3, .box true [.int .i64, .row (.t3) true, .row (.int .i64) true]), (4, .one (.row (.int .i64) true)), (5, .one (.row (.int .i64) true)), (13, .box true [.int .i64, .row (.t3) true, .row (.int .i64) true]), (15, .box true [.int .i64, .row (.t3) true, .row (.int .i64) true]), (16, .one (.bool))]
noncomputable def code50 : Code := spineAt 1 code45
abbrev cut50 : Shape := [(3, .box true [.int .i64, .row (.t3) true, .row (.int .i64) true]), (4, .one (.row (.int .i64) true)), (5, .one (.row (.int .i64) true))]
theorem c50_eq (n : Nat) (x0 : Int) (x1 : List (Int × Int × Int)) (x2 : List (Int)) (x3 : List (Int)) (x4 : List (Int)) : laws_FnKeyWalks.c50 n x0 x1 x2 x3 x4 = exK cfg (pick (cal n)) (lam n) fin code50 (fun _ _ => none) (mkSt cut50 ((x0, x1, x2, ()), x3, x4, ())) fin := by
  kernel_rfl
theorem c45_seg (n : Nat) (x0 : Int) (x1 : List (Int × Int × Int)) (x2 : List (Int)) (x3 : List (Int)) (x4 : List (Int)) (x5 : Int) (x6 : List (Int × Int × Int)) (x7 : List (Int)) (x8 : Int) (x9 : List (Int × Int × Int)) (x10 : List (Int)) (x11 : Bool) : laws_FnKeyWalks.c45 n x0 x1 x2 x3 x4 x5 x6 x7 x8 x9 x10 x11 = exSeg cfg (pick (cal n)) (lam n) fin (fun _ _ => none) cut50 (fun x => laws_FnKeyWalks.c50 n x.1.1 x.1.2.1 x.1.2.2.1 x.2.1 x.2.2.1) 0 code45 (mkSt cut45 ((x0, x1, x2, ()), x3, x4, (x5, x6, x7, ()), (x8, x9, x10, ()), x11, ())) := by
  kernel_rfl
theorem c45_eq (n : Nat) (x0 : Int) (x1 : List (Int × Int × Int)) (x2 : List (Int)) (x3 : List (Int)) (x4 : List (Int)) (x5 : Int) (x6 : List (Int × Int × Int)) (x7 : List (Int)) (x8 : Int) (x9 : List (Int × Int × Int)) (x10 : List (Int)) (x11 : Bool) : laws_FnKeyWalks.c45 n x0 x1 x2 x3 x4 x5 x6 x7 x8 x9 x10 x11 = exK cfg (pick (cal n)) (lam n) fin code45 (fun _ _ => none) (mkSt cut45 ((x0, x1, x2, ()), x3, x4, (x5, x6, x7, ()), (x8, x9, x10, ()), x11, ())) fin := 
  (c45_seg n x0 x1 x2 x3 x4 x5 x6 x7 x8 x9 x10 x11).trans (seg_eq 0 (by kernel_rfl) rfl (by kernel_rfl) (fun x => c50_eq n x.1.1 x.1.2.1 x.1.2.2.1 x.2.1 x.2.2.1))
theorem c39_seg (n : Nat) (x0 : Int) (x1 : List (Int × Int × Int)) (x2 : List (Int)) (x3 : List (Int)) (x4 : List (Int)) (x5 : Int) (x6 : List (Int × Int × Int)) (x7 : List (Int)) (x8 : Int) (x9 : List (Int × Int × Int)) (x10 : List (Int)) (x11 : Bool) (x12 : Int) (x13 : List (Int × Int × Int)) (x14 : List (Int)) (x15 : Int) (x16 : List (Int × Int × Int)) (x17 : List (Int)) (x18 : Bool) (x19 : Int) (x20 : List (Int × Int × Int)) (x21 : List (Int)) : laws_FnKeyWalks.c39 n x0 x1 x2 x3 x4 x5 x6 x7 x8 x9 x10 x11 x12 x13 x14 x15 x16 x17 x18 x19 x20 x21 = exSeg cfg (pick (cal n)) (lam n) fin (fun _ _ => none) cut45 (fun x => laws_FnKeyWalks.c45 n x.1.1 x.1.2.1 x.1.2.2.1 x.2.1 x.2.2.1 x.2.2.2.1.1 x.2.2.2.1.2.1 x.2.2.2.1.2.2.1 x.2.2.2.2.1.1 x.2.2.2.2.1.2.1 x.2.2.2.2.1.2.2.1 x.2.2.2.2.2.1) 0 code39 (mkSt cut39 ((x0, x1, x2, ()), x3, x4, (x5, x6, x7, ()), (x8, x9, x10, ()), x11, (x12, x13, x14, ()), (x15, x16, x17, ()), x18, (x19, x20, x21, ()), ())) := by
  kernel_rfl
theorem c39_eq (n : Nat) (x0 : Int) (x1 : List (Int × Int × Int)) (x2 : List (Int)) (x3 : List (Int)) (x4 : List (Int)) (x5 : Int) (x6 : List (Int × Int × Int)) (x7 : List (Int)) (x8 : Int) (x9 : List (Int × Int × Int)) (x10 : List (Int)) (x11 : Bool) (x12 : Int) (x13 : List (Int × Int × Int)) (x14 : List (Int)) (x15 : Int) (x16 : List (Int × Int × Int)) (x17 : List (Int)) (x18 : Bool) (x19 : Int) (x20 : List (Int × Int × Int)) (x21 : List (Int)) : laws_FnKeyWalks.c39 n x0 x1 x2 x3 x4 x5 x6 x7 x8 x9 x10 x11 x12 x13 x14 x15 x16 x17 x18 x19 x20 x21 = exK cfg (pick (cal n)) (lam n) fin code39 (fun _ _ => none) (mkSt cut39 ((x0, x1, x2, ()), x3, x4, (x5, x6, x7, ()), (x8, x9, x10, ()), x11, (x12, x13, x14, ()), (x15, x16, x17, ()), x18, (x19, x20, x21, ()), ())) fin := 
  (c39_seg n x0 x1 x2 x3 x4 x5 x6 x7 x8 x9 x10 x11 x12 x13 x14 x15 x16 x17 x18 x19 x20 x21).trans (seg_eq 0 (by kernel_rfl) rfl (by kernel_rfl) (fun x => c45_eq n x.1.1 x.1.2.1 x.1.2.2.1 x.2.1 x.2.2.1 x.2.2.2.1.1 x.2.2.2.1.2.1 x.2.2.2.1.2.2.1 x.2.2.2.2.1.1 x.2.2.2.2.1.2.1 x.2.2.2.2.1.2.2.1 x.2.2.2.2.2.1))
theorem c35_seg (n : Nat) (x0 : Int) (x1 : List (Int × Int × Int)) (x2 : List (Int)) (x3 : List (Int)) (x4 : List (Int)) (x5 : Int) (x6 : List (Int × Int × Int)) (x7 : List (Int)) (x8 : Int) (x9 : List (Int × Int × Int)) (x10 : List (Int)) (x11 : Bool) (x12 : Int) (x13 : List (Int × Int × Int)) (x14 : List (Int)) (x15 : Int) (x16 : List (Int × Int × Int)) (x17 : List (Int)) (x18 : Int) (x19 : List (Int × Int × Int)) (x20 : List (Int)) (x21 : Bool) (x22 : Int) (x23 : List (Int × Int × Int)) (x24 : List (Int)) (x25 : Int) (x26 : List (Int × Int × Int)) (x27 : List (Int)) (x28 : Bool) : laws_FnKeyWalks.c35 n x0 x1 x2 x3 x4 x5 x6 x7 x8 x9 x10 x11 x12 x13 x14 x15 x16 x17 x18 x19 x20 x21 x22 x23 x24 x25 x26 x27 x28 = exSeg cfg (pick (cal n)) (lam n) fin (fun _ _ => none) cut39 (fun x => laws_FnKeyWalks.c39 n x.1.1 x.1.2.1 x.1.2.2.1 x.2.1 x.2.2.1 x.2.2.2.1.1 x.2.2.2.1.2.1 x.2.2.2.1.2.2.1 x.2.2.2.2.1.1 x.2.2.2.2.1.2.1 x.2.2.2.2.1.2.2.1 x.2.2.2.2.2.1 x.2.2.2.2.2.2.1.1 x.2.2.2.2.2.2.1.2.1 x.2.2.2.2.2.2.1.2.2.1 x.2.2.2.2.2.2.2.1.1 x.2.2.2.2.2.2.2.1.2.1 x.2.2.2.2.2.2.2.1.2.2.1 x.2.2.2.2.2.2.2.2.1 x.2.2.2.2.2.2.2.2.2.1.1 x.2.2.2.2.2.2.2.2.2.1.2.1 x.2.2.2.2.2.2.2.2.2.1.2.2.1) 0 code35 (mkSt cut35 ((x0, x1, x2, ()), x3, x4, (x5, x6, x7, ()), (x8, x9, x10, ()), x11, (x12, x13, x14, ()), (x15, x16, x17, ()), (x18, x19, x20, ()), x21, (x22, x23, x24, ()), (x25, x26, x27, ()), x28, ())) := by
  kernel_rfl
theorem c35_eq (n : Nat) (x0 : Int) (x1 : List (Int × Int × Int)) (x2 : List (Int)) (x3 : List (Int)) (x4 : List (Int)) (x5 : Int) (x6 : List (Int × Int × Int)) (x7 : List (Int)) (x8 : Int) (x9 : List (Int × Int × Int)) (x10 : List (Int)) (x11 : Bool) (x12 : Int) (x13 : List (Int × Int × Int)) (x14 : List (Int)) (x15 : Int) (x16 : List (Int × Int × Int)) (x17 : List (Int)) (x18 : Int) (x19 : List (Int × Int × Int)) (x20 : List (Int)) (x21 : Bool) (x22 : Int) (x23 : List (Int × Int × Int)) (x24 : List (Int)) (x25 : Int) (x26 : List (Int × Int × Int)) (x27 : List (Int)) (x28 : Bool) : laws_FnKeyWalks.c35 n x0 x1 x2 x3 x4 x5 x6 x7 x8 x9 x10 x11 x12 x13 x14 x15 x16 x17 x18 x19 x20 x21 x22 x23 x24 x25 x26 x27 x28 = exK cfg (pick (cal n)) (lam n) fin code35 (fun _ _ => none) (mkSt cut35 ((x0, x1, x2, ()), x3, x4, (x5, x6, x7, ()), (x8, x9, x10, ()), x11, (x12, x13, x14, ()), (x15, x16, x17, ()), (x18, x19, x20, ()), x21, (x22, x23, x24, ()), (x25, x26, x27, ()), x28, ())) fin := 
  (c35_seg n x0 x1 x2 x3 x4 x5 x6 x7 x8 x9 x10 x11 x12 x13 x14 x15 x16 x17 x18 x19 x20 x21 x22 x23 x24 x25 x26 x27 x28).trans (seg_eq 0 (by kernel_rfl) rfl (by kernel_rfl) (fun x => c39_eq n x.1.1 x.1.2.1 x.1.2.2.1 x.2.1 x.2.2.1 x.2.2.2.1.1 x.2.2.2.1.2.1 x.2.2.2.1.2.2.1 x.2.2.2.2.1.1 x.2.2.2.2.1.2.1 x.2.2.2.2.1.2.2.1 x.2.2.2.2.2.1 x.2.2.2.2.2.2.1.1 x.2.2.2.2.2.2.1.2.1 x.2.2.2.2.2.2.1.2.2.1 x.2.2.2.2.2.2.2.1.1 x.2.2.2.2.2.2.2.1.2.1 x.2.2.2.2.2.2.2.1.2.2.1 x.2.2.2.2.2.2.2.2.1 x.2.2.2.2.2.2.2.2.2.1.1 x.2.2.2.2.2.2.2.2.2.1.2.1 x.2.2.2.2.2.2.2.2.2.1.2.2.1))
theorem c31_seg (n : Nat) (x0 : Int) (x1 : List (Int × Int × Int)) (x2 : List (Int)) (x3 : List (Int)) (x4 : List (Int)) (x5 : Int) (x6 : List (Int × Int × Int)) (x7 : List (Int)) (x8 : Int) (x9 : List (Int × Int × Int)) (x10 : List (Int)) (x11 : Bool) (x12 : Int) (x13 : List (Int × Int × Int)) (x14 : List (Int)) (x15 : Int) (x16 : List (Int × Int × Int)) (x17 : List (Int)) (x18 : Int) (x19 : List (Int × Int × Int)) (x20 : List (Int)) (x21 : Bool) (x22 : Int) (x23 : List (Int × Int × Int)) (x24 : List (Int)) : laws_FnKeyWalks.c31 n x0 x1 x2 x3 x4 x5 x6 x7 x8 x9 x10 x11 x12 x13 x14 x15 x16 x17 x18 x19 x20 x21 x22 x23 x24 = exSeg cfg (pick (cal n)) (lam n) fin (fun _ _ => none) cut35 (fun x => laws_FnKeyWalks.c35 n x.1.1 x.1.2.1 x.1.2.2.1 x.2.1 x.2.2.1 x.2.2.2.1.1 x.2.2.2.1.2.1 x.2.2.2.1.2.2.1 x.2.2.2.2.1.1 x.2.2.2.2.1.2.1 x.2.2.2.2.1.2.2.1 x.2.2.2.2.2.1 x.2.2.2.2.2.2.1.1 x.2.2.2.2.2.2.1.2.1 x.2.2.2.2.2.2.1.2.2.1 x.2.2.2.2.2.2.2.1.1 x.2.2.2.2.2.2.2.1.2.1 x.2.2.2.2.2.2.2.1.2.2.1 x.2.2.2.2.2.2.2.2.1.1 x.2.2.2.2.2.2.2.2.1.2.1 x.2.2.2.2.2.2.2.2.1.2.2.1 x.2.2.2.2.2.2.2.2.2.1 x.2.2.2.2.2.2.2.2.2.2.1.1 x.2.2.2.2.2.2.2.2.2.2.1.2.1 x.2.2.2.2.2.2.2.2.2.2.1.2.2.1 x.2.2.2.2.2.2.2.2.2.2.2.1.1 x.2.2.2.2.2.2.2.2.2.2.2.1.2.1 x.2.2.2.2.2.2.2.2.2.2.2.1.2.2.1 x.2.2.2.2.2.2.2.2.2.2.2.2.1) 1 code31 (mkSt cut31 ((x0, x1, x2, ()), x3, x4, (x5, x6, x7, ()), (x8, x9, x10, ()), x11, (x12, x13, x14, ()), (x15, x16, x17, ()), (x18, x19, x20, ()), x21, (x22, x23, x24, ()), ())) := by
  kernel_rfl
theorem c31_eq (n : Nat) (x0 : Int) (x1 : List (Int × Int × Int)) (x2 : List (Int)) (x3 : List (Int)) (x4 : List (Int)) (x5 : Int) (x6 : List (Int × Int × Int)) (x7 : List (Int)) (x8 : Int) (x9 : List (Int × Int × Int)) (x10 : List (Int)) (x11 : Bool) (x12 : Int) (x13 : List (Int × Int × Int)) (x14 : List (Int)) (x15 : Int) (x16 : List (Int × Int × Int)) (x17 : List (Int)) (x18 : Int) (x19 : List (Int × Int × Int)) (x20 : List (Int)) (x21 : Bool) (x22 : Int) (x23 : List (Int × Int × Int)) (x24 : List (Int)) : laws_FnKeyWalks.c31 n x0 x1 x2 x3 x4 x5 x6 x7 x8 x9 x10 x11 x12 x13 x14 x15 x16 x17 x18 x19 x20 x21 x22 x23 x24 = exK cfg (pick (cal n)) (lam n) fin code31 (fun _ _ => none) (mkSt cut31 ((x0, x1, x2, ()), x3, x4, (x5, x6, x7, ()), (x8, x9, x10, ()), x11, (x12, x13, x14, ()), (x15, x16, x17, ()), (x18, x19, x20, ()), x21, (x22, x23, x24, ()), ())) fin := 
  (c31_seg n x0 x1 x2 x3 x4 x5 x6 x7 x8 x9 x10 x11 x12 x13 x14 x15 x16 x17 x18 x19 x20 x21 x22 x23 x24).trans (seg_eq 1 (by kernel_rfl) rfl (by kernel_rfl) (fun x => c35_eq n x.1.1 x.1.2.1 x.1.2.2.1 x.2.1 x.2.2.1 x.2.2.2.1.1 x.2.2.2.1.2.1 x.2.2.2.1.2.2.1 x.2.2.2.2.1.1 x.2.2.2.2.1.2.1 x.2.2.2.2.1.2.2.1 x.2.2.2.2.2.1 x.2.2.2.2.2.2.1.1 x.2.2.2.2.2.2.1.2.1 x.2.2.2.2.2.2.1.2.2.1 x.2.2.2.2.2.2.2.1.1 x.2.2.2.2.2.2.2.1.2.1 x.2.2.2.2.2.2.2.1.2.2.1 x.2.2.2.2.2.2.2.2.1.1 x.2.2.2.2.2.2.2.2.1.2.1 x.2.2.2.2.2.2.2.2.1.2.2.1 x.2.2.2.2.2.2.2.2.2.1 x.2.2.2.2.2.2.2.2.2.2.1.1 x.2.2.2.2.2.2.2.2.2.2.1.2.1 x.2.2.2.2.2.2.2.2.2.2.1.2.2.1 x.2.2.2.2.2.2.2.2.2.2.2.1.1 x.2.2.2.2.2.2.2.2.2.2.2.1.2.1 x.2.2.2.2.2.2.2.2.2.2.2.1.2.2.1 x.2.2.2.2.2.2.2.2.2.2.2.2.1))
theorem c27_seg (n : Nat) (x0 : Int) (x1 : List (Int × Int × Int)) (x2 : List (Int)) (x3 : List (Int)) (x4 : List (Int)) (x5 : Int) (x6 : List (Int × Int × Int)) (x7 : List (Int)) (x8 : Int) (x9 : List (Int × Int × Int)) (x10 : List (Int)) (x11 : Bool) (x12 : Int) (x13 : List (Int × Int × Int)) (x14 : List (Int)) (x15 : Int) (x16 : List (Int × Int × Int)) (x17 : List (Int)) (x18 : Int) (x19 : Int) (x20 : List (Int × Int × Int)) (x21 : List (Int)) (x22 : Bool) : laws_FnKeyWalks.c27 n x0 x1 x2 x3 x4 x5 x6 x7 x8 x9 x10 x11 x12 x13 x14 x15 x16 x17 x18 x19 x20 x21 x22 = exSeg cfg (pick (cal n)) (lam n) fin (fun _ _ => none) cut31 (fun x => laws_FnKeyWalks.c31 n x.1.1 x.1.2.1 x.1.2.2.1 x.2.1 x.2.2.1 x.2.2.2.1.1 x.2.2.2.1.2.1 x.2.2.2.1.2.2.1 x.2.2.2.2.1.1 x.2.2.2.2.1.2.1 x.2.2.2.2.1.2.2.1 x.2.2.2.2.2.1 x.2.2.2.2.2.2.1.1 x.2.2.2.2.2.2.1.2.1 x.2.2.2.2.2.2.1.2.2.1 x.2.2.2.2.2.2.2.1.1 x.2.2.2.2.2.2.2.1.2.1 x.2.2.2.2.2.2.2.1.2.2.1 x.2.2.2.2.2.2.2.2.1.1 x.2.2.2.2.2.2.2.2.1.2.1 x.2.2.2.2.2.2.2.2.1.2.2.1 x.2.2.2.2.2.2.2.2.2.1 x.2.2.2.2.2.2.2.2.2.2.1.1 x.2.2.2.2.2.2.2.2.2.2.1.2.1 x.2.2.2.2.2.2.2.2.2.2.1.2.2.1) 1 code27 (mkSt cut27 ((x0, x1, x2, ()), x3, x4, (x5, x6, x7, ()), (x8, x9, x10, ()), x11, (x12, x13, x14, ()), (x15, x16, x17, ()), x18, (x19, x20, x21, ()), x22, ())) := by
  kernel_rfl
theorem c27_eq (n : Nat) (x0 : Int) (x1 : List (Int × Int × Int)) (x2 : List (Int)) (x3 : List (Int)) (x4 : List (Int)) (x5 : Int) (x6 : List (Int × Int × Int)) (x7 : List (Int)) (x8 : Int) (x9 : List (Int × Int × Int)) (x10 : List (Int)) (x11 : Bool) (x12 : Int) (x13 : List (Int × Int × Int)) (x14 : List (Int)) (x15 : Int) (x16 : List (Int × Int × Int)) (x17 : List (Int)) (x18 : Int) (x19 : Int) (x20 : List (Int × Int × Int)) (x21 : List (Int)) (x22 : Bool) : laws_FnKeyWalks.c27 n x0 x1 x2 x3 x4 x5 x6 x7 x8 x9 x10 x11 x12 x13 x14 x15 x16 x17 x18 x19 x20 x21 x22 = exK cfg (pick (cal n)) (lam n) fin code27 (fun _ _ => none) (mkSt cut27 ((x0, x1, x2, ()), x3, x4, (x5, x6, x7, ()), (x8, x9, x10, ()), x11, (x12, x13, x14, ()), (x15, x16, x17, ()), x18, (x19, x20, x21, ()), x22, ())) fin := 
  (c27_seg n x0 x1 x2 x3 x4 x5 x6 x7 x8 x9 x10 x11 x12 x13 x14 x15 x16 x17 x18 x19 x20 x21 x22).trans (seg_eq 1 (by kernel_rfl) rfl (by kernel_rfl) (fun x => c31_eq n x.1.1 x.1.2.1 x.1.2.2.1 x.2.1 x.2.2.1 x.2.2.2.1.1 x.2.2.2.1.2.1 x.2.2.2.1.2.2.1 x.2.2.2.2.1.1 x.2.2.2.2.1.2.1 x.2.2.2.2.1.2.2.1 x.2.2.2.2.2.1 x.2.2.2.2.2.2.1.1 x.2.2.2.2.2.2.1.2.1 x.2.2.2.2.2.2.1.2.2.1 x.2.2.2.2.2.2.2.1.1 x.2.2.2.2.2.2.2.1.2.1 x.2.2.2.2.2.2.2.1.2.2.1 x.2.2.2.2.2.2.2.2.1.1 x.2.2.2.2.2.2.2.2.1.2.1 x.2.2.2.2.2.2.2.2.1.2.2.1 x.2.2.2.2.2.2.2.2.2.1 x.2.2.2.2.2.2.2.2.2.2.1.1 x.2.2.2.2.2.2.2.2.2.2.1.2.1 x.2.2.2.2.2.2.2.2.2.2.1.2.2.1))
theorem c22_seg (n : Nat) (x0 : List (Int)) (x1 : Int) (x2 : List (Int × Int × Int)) (x3 : List (Int)) (x4 : List (Int)) (x5 : List (Int)) (x6 : Int) (x7 : List (Int × Int × Int)) (x8 : List (Int)) (x9 : Int) (x10 : List (Int × Int × Int)) (x11 : List (Int)) (x12 : Bool) (x13 : Int) (x14 : List (Int × Int × Int)) (x15 : List (Int)) : laws_FnKeyWalks.c22 n x0 x1 x2 x3 x4 x5 x6 x7 x8 x9 x10 x11 x12 x13 x14 x15 = exSeg cfg (pick (cal n)) (lam n) fin (fun _ _ => none) cut27 (fun x => laws_FnKeyWalks.c27 n x.1.1 x.1.2.1 x.1.2.2.1 x.2.1 x.2.2.1 x.2.2.2.1.1 x.2.2.2.1.2.1 x.2.2.2.1.2.2.1 x.2.2.2.2.1.1 x.2.2.2.2.1.2.1 x.2.2.2.2.1.2.2.1 x.2.2.2.2.2.1 x.2.2.2.2.2.2.1.1 x.2.2.2.2.2.2.1.2.1 x.2.2.2.2.2.2.1.2.2.1 x.2.2.2.2.2.2.2.1.1 x.2.2.2.2.2.2.2.1.2.1 x.2.2.2.2.2.2.2.1.2.2.1 x.2.2.2.2.2.2.2.2.1 x.2.2.2.2.2.2.2.2.2.1.1 x.2.2.2.2.2.2.2.2.2.1.2.1 x.2.2.2.2.2.2.2.2.2.1.2.2.1 x.2.2.2.2.2.2.2.2.2.2.1) 2 code22 (mkSt cut22 (x0, (x1, x2, x3, ()), x4, x5, (x6, x7, x8, ()), (x9, x10, x11, ()), x12, (x13, x14, x15, ()), ())) := by
  kernel_rfl
theorem c22_eq (n : Nat) (x0 : List (Int)) (x1 : Int) (x2 : List (Int × Int × Int)) (x3 : List (Int)) (x4 : List (Int)) (x5 : List (Int)) (x6 : Int) (x7 : List (Int × Int × Int)) (x8 : List (Int)) (x9 : Int) (x10 : List (Int × Int × Int)) (x11 : List (Int)) (x12 : Bool) (x13 : Int) (x14 : List (Int × Int × Int)) (x15 : List (Int)) : laws_FnKeyWalks.c22 n x0 x1 x2 x3 x4 x5 x6 x7 x8 x9 x10 x11 x12 x13 x14 x15 = exK cfg (pick (cal n)) (lam n) fin code22 (fun _ _ => none) (mkSt cut22 (x0, (x1, x2, x3, ()), x4, x5, (x6, x7, x8, ()), (x9, x10, x11, ()), x12, (x13, x14, x15, ()), ())) fin := 
  (c22_seg n x0 x1 x2 x3 x4 x5 x6 x7 x8 x9 x10 x11 x12 x13 x14 x15).trans (seg_eq 2 (by kernel_rfl) rfl (by kernel_rfl) (fun x => c27_eq n x.1.1 x.1.2.1 x.1.2.2.1 x.2.1 x.2.2.1 x.2.2.2.1.1 x.2.2.2.1.2.1 x.2.2.2.1.2.2.1 x.2.2.2.2.1.1 x.2.2.2.2.1.2.1 x.2.2.2.2.1.2.2.1 x.2.2.2.2.2.1 x.2.2.2.2.2.2.1.1 x.2.2.2.2.2.2.1.2.1 x.2.2.2.2.2.2.1.2.2.1 x.2.2.2.2.2.2.2.1.1 x.2.2.2.2.2.2.2.1.2.1 x.2.2.2.2.2.2.2.1.2.2.1 x.2.2.2.2.2.2.2.2.1 x.2.2.2.2.2.2.2.2.2.1.1 x.2.2.2.2.2.2.2.2.2.1.2.1 x.2.2.2.2.2.2.2.2.2.1.2.2.1 x.2.2.2.2.2.2.2.2.2.2.1))
theorem c17_seg (n : Nat) (x0 : List (Int)) (x1 : Int) (x2 : List (Int × Int × Int)) (x3 : List (Int)) (x4 : List (Int)) (x5 : List (Int)) (x6 : Int) (x7 : List (Int × Int × Int)) (x8 : List (Int)) (x9 : Int) (x10 : List (Int × Int × Int)) (x11 : List (Int)) (x12 : Bool) : laws_FnKeyWalks.c17 n x0 x1 x2 x3 x4 x5 x6 x7 x8 x9 x10 x11 x12 = exSeg cfg (pick (cal n)) (lam n) fin (fun _ _ => none) cut22 (fun x => laws_FnKeyWalks.c22 n x.1 x.2.1.1 x.2.1.2.1 x.2.1.2.2.1 x.2.2.1 x.2.2.2.1 x.2.2.2.2.1.1 x.2.2.2.2.1.2.1 x.2.2.2.2.1.2.2.1 x.2.2.2.2.2.1.1 x.2.2.2.2.2.1.2.1 x.2.2.2.2.2.1.2.2.1 x.2.2.2.2.2.2.1 x.2.2.2.2.2.2.2.1.1 x.2.2.2.2.2.2.2.1.2.1 x.2.2.2.2.2.2.2.1.2.2.1) 2 code17 (mkSt cut17 (x0, (x1, x2, x3, ()), x4, x5, (x6, x7, x8, ()), (x9, x10, x11, ()), x12, ())) := by
  kernel_rfl
theorem c17_eq (n : Nat) (x0 : List (Int)) (x1 : Int) (x2 : List (Int × Int × Int)) (x3 : List (Int)) (x4 : List (Int)) (x5 : List (Int)) (x6 : Int) (x7 : List (Int × Int × Int)) (x8 : List (Int)) (x9 : Int) (x10 : List (Int × Int × Int)) (x11 : List (Int)) (x12 : Bool) : laws_FnKeyWalks.c17 n x0 x1 x2 x3 x4 x5 x6 x7 x8 x9 x10 x11 x12 = exK cfg (pick (cal n)) (lam n) fin code17 (fun _ _ => none) (mkSt cut17 (x0, (x1, x2, x3, ()), x4, x5, (x6, x7, x8, ()), (x9, x10, x11, ()), x12, ())) fin := 
  (c17_seg n x0 x1 x2 x3 x4 x5 x6 x7 x8 x9 x10 x11 x12).trans (seg_eq 2 (by kernel_rfl) rfl (by kernel_rfl) (fun x => c22_eq n x.1 x.2.1.1 x.2.1.2.1 x.2.1.2.2.1 x.2.2.1 x.2.2.2.1 x.2.2.2.2.1.1 x.2.2.2.2.1.2.1 x.2.2.2.2.1.2.2.1 x.2.2.2.2.2.1.1 x.2.2.2.2.2.1.2.1 x.2.2.2.2.2.1.2.2.1 x.2.2.2.2.2.2.1 x.2.2.2.2.2.2.2.1.1 x.2.2.2.2.2.2.2.1.2.1 x.2.2.2.2.2.2.2.1.2.2.1))
theorem c12_seg (n : Nat) (x0 : List (Int)) (x1 : Int) (x2 : List (Int × Int × Int)) (x3 : List (Int)) (x4 : List (Int)) (x5 : List (Int)) : laws_FnKeyWalks.c12 n x0 x1 x2 x3 x4 x5 = exSeg cfg (pick (cal n)) (lam n) fin (fun _ _ => none) cut17 (fun x => laws_FnKeyWalks.c17 n x.1 x.2.1.1 x.2.1.2.1 x.2.1.2.2.1 x.2.2.1 x.2.2.2.1 x.2.2.2.2.1.1 x.2.2.2.2.1.2.1 x.2.2.2.2.1.2.2.1 x.2.2.2.2.2.1.1 x.2.2.2.2.2.1.2.1 x.2.2.2.2.2.1.2.2.1 x.2.2.2.2.2.2.1) 2 code12 (mkSt cut12 (x0, (x1, x2, x3, ()), x4, x5, ())) := by
  kernel_rfl
theorem c12_eq (n : Nat) (x0 : List (Int)) (x1 : Int) (x2 : List (Int × Int × Int)) (x3 : List (Int)) (x4 : List (Int)) (x5 : List (Int)) : laws_FnKeyWalks.c12 n x0 x1 x2 x3 x4 x5 = exK cfg (pick (cal n)) (lam n) fin code12 (fun _ _ => none) (mkSt cut12 (x0, (x1, x2, x3, ()), x4, x5, ())) fin := 
  (c12_seg n x0 x1 x2 x3 x4 x5).trans (seg_eq 2 (by kernel_rfl) rfl (by kernel_rfl) (fun x => c17_eq n x.1 x.2.1.1 x.2.1.2.1 x.2.1.2.2.1 x.2.2.1 x.2.2.2.1 x.2.2.2.2.1.1 x.2.2.2.2.1.2.1 x.2.2.2.2.1.2.2.1 x.2.2.2.2.2.1.1 x.2.2.2.2.2.1.2.1 x.2.2.2.2.2.1.2.2.1 x.2.2.2.2.2.2.1))
theorem c8_seg (n : Nat) (x0 : List (Int)) (x1 : Int) (x2 : List (Int × Int × Int)) (x3 : List (Int)) (x4 : List (Int)) (x5 : List (Int)) (x6 : Bool) : laws_FnKeyWalks.c8 n x0 x1 x2 x3 x4 x5 x6 = exSeg cfg (pick (cal n)) (lam n) fin (fun _ _ => none) cut12 (fun x => laws_FnKeyWalks.c12 n x.1 x.2.1.1 x.2.1.2.1 x.2.1.2.2.1 x.2.2.1 x.2.2.2.1) 1 code8 (mkSt cut8 (x0, (x1, x2, x3, ()), x4, x5, x6, ())) := by
  kernel_rfl
theorem c8_eq (n : Nat) (x0 : List (Int)) (x1 : Int) (x2 : List (Int × Int × Int)) (x3 : List (Int)) (x4 : List (Int)) (x5 : List (Int)) (x6 : Bool) : laws_FnKeyWalks.c8 n x0 x1 x2 x3 x4 x5 x6 = exK cfg (pick (cal n)) (lam n) fin code8 (fun _ _ => none) (mkSt cut8 (x0, (x1, x2, x3, ()), x4, x5, x6, ())) fin := 
  (c8_seg n x0 x1 x2 x3 x4 x5 x6).trans (seg_eq 1 (by kernel_rfl) rfl (by kernel_rfl) (fun x => c12_eq n x.1 x.2.1.1 x.2.1.2.1 x.2.1.2.2.1 x.2.2.1 x.2.2.2.1))
theorem F_seg (n : Nat) (x0 : List (Int)) : laws_FnKeyWalks.F n x0 = exSeg cfg (pick (cal n)) (lam n) fin (fun _ _ => none) cut8 (fun x => laws_FnKeyWalks.c8 n x.1 x.2.1.1 x.2.1.2.1 x.2.1.2.2.1 x.2.2.1 x.2.2.2.1 x.2.2.2.2.1) 4 code (mkSt shp (x0, ())) := by
  kernel_rfl
theorem F_eq (n : Nat) (x0 : List (Int)) : laws_FnKeyWalks.F n x0 = exK cfg (pick (cal n)) (lam n) fin code (fun _ _ => none) (mkSt shp (x0, ())) fin :=
  (F_seg n x0).trans (seg_eq 4 (by kernel_rfl) rfl (by kernel_rfl) (fun x => c8_eq n x.1 x.2.1.1 x.2.1.2.1 x.2.1.2.2.1 x.2.2.1 x.2.2.2.1 x.2.2.2.2.1))
def pfn (n : Nat) : PFn := mkFn shp outs (fun x => laws_FnKeyWalks.F n x.1) out
theorem ok (n : Nat) : (pfn n).Ok Go.Proofs.Tryz.prog 3 :=
  mkFn_ok (fn := Go.Proofs.Tryz.f3) (code := code) Go.Proofs.Tryz.func3 (by kernel_rfl) (by decide) (C := cfg) (Φ := pick (cal n)) (Λ := lam n) (into := into) hT (cal_ok n) (by kernel_rfl) rfl (by decide) rfl (fun _ => rfl) (loops n)
    (fun x r h => by
      have e := F_eq n x.1
      exact e.symm.trans h)
end laws_FnKeyWalks
end
end
end Go.Pf
