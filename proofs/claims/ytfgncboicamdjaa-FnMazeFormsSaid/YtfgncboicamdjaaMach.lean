/- The Go functions of this seat do what their pure functions tell; printed by a program of mine (mach.py). -/
import Derived.Test.YtfgncboicamdjaaMach1
set_option linter.unusedVariables false
set_option autoImplicit false
set_option maxRecDepth 100000
set_option maxHeartbeats 4000000
namespace Go.Pf
open Go Go.Fx
noncomputable section

/-! ### loop.example/g01158/impl.remain -/
section
namespace impl_remain
noncomputable def code : Code := (Go.Proofs.Try.f74.body).getD .skip
abbrev shp : Shape := [(0, .agg [.int .i64, .row (.t3) false, .row (.int .i64) false])]
abbrev outs : List KD := [.ints 768]
abbrev R : Type := (List Int)
def out : R → denL outs := fun r => (r, ())
def into : denL outs → R := fun y => y.1
def cfg : Cfg := ⟨ty, 98, [], fun i => match Nat.beq i 2 with | true => .loop | false => match Nat.beq i 0 with | true => .loop | false => match Nat.beq i 13 with | true => .loop | false => match Nat.beq i 11 with | true => .loop | false => match Nat.beq i 9 with | true => .loop | false => match Nat.beq i 7 with | true => .loop | false => match Nat.beq i 5 with | true => .loop | false => match Nat.beq i 4 with | true => .loop | false => .plain, fun i => match Nat.beq i 23 with | true => some [(1, .box true [.int .i64, .row (.t3) false, .row (.int .i64) false]), (2, .arr 768 true), (3, .arr 768 true)] | false => none⟩
def cal (n : Nat) : List (Nat × PFn) := [(76, impl_members.pfn n), (77, impl_steps.pfn n), (132, impl_better.pfn n)]
theorem cal_ok (n : Nat) : ∀ g, (pick (cal n) g).Ok Go.Proofs.Try.prog g := pick_ok (by
  intro p hp
  simp only [cal, List.mem_cons, List.not_mem_nil, or_false] at hp
  rcases hp with rfl | rfl | rfl
  · exact impl_members.ok n
  · exact impl_steps.ok n
  · exact impl_better.ok n)
def fin : St → Option R := finOf ty [.cell 2 76] outs into
abbrev sin2 : Shape := [(1, .box true [.int .i64, .row (.t3) false, .row (.int .i64) false]), (2, .arr 768 true), (3, .arr 768 true), (4, .one (.int .i64)), (14, .one (.int .i64)), (17, .one (.int .i64))]
abbrev sout2 : Shape := [(1, .box true [.int .i64, .row (.t3) false, .row (.int .i64) false]), (2, .arr 768 true), (3, .arr 768 true), (14, .one (.int .i64))]
abbrev sin0 : Shape := [(1, .box true [.int .i64, .row (.t3) false, .row (.int .i64) false]), (2, .arr 768 true), (3, .arr 768 true), (14, .one (.int .i64))]
abbrev sout0 : Shape := [(1, .box true [.int .i64, .row (.t3) false, .row (.int .i64) false]), (2, .arr 768 true), (3, .arr 768 true)]
abbrev sin13 : Shape := [(1, .box true [.int .i64, .row (.t3) false, .row (.int .i64) false]), (2, .arr 768 true), (3, .arr 768 true), (7, .one (.bool)), (8, .one (.int .i64)), (9, .one (.int .i64)), (48, .one (.int .i64)), (49, .one (.int .i64)), (52, .one (.int .i64)), (59, .one (.row (.int .i64) true)), (60, .one (.int .i64)), (61, .one (.int .i64))]
abbrev sout13 : Shape := [(1, .box true [.int .i64, .row (.t3) false, .row (.int .i64) false]), (2, .arr 768 true), (3, .arr 768 true), (7, .one (.bool)), (8, .one (.int .i64)), (48, .one (.int .i64)), (49, .one (.int .i64)), (52, .one (.int .i64))]
abbrev sin11 : Shape := [(1, .box true [.int .i64, .row (.t3) false, .row (.int .i64) false]), (2, .arr 768 true), (3, .arr 768 true), (7, .one (.bool)), (8, .one (.int .i64)), (48, .one (.int .i64)), (49, .one (.int .i64)), (52, .one (.int .i64))]
abbrev sout11 : Shape := [(1, .box true [.int .i64, .row (.t3) false, .row (.int .i64) false]), (2, .arr 768 true), (3, .arr 768 true), (7, .one (.bool)), (48, .one (.int .i64)), (49, .one (.int .i64))]
abbrev sin9 : Shape := [(1, .box true [.int .i64, .row (.t3) false, .row (.int .i64) false]), (2, .arr 768 true), (3, .arr 768 true), (7, .one (.bool)), (48, .one (.int .i64)), (49, .one (.int .i64))]
abbrev sout9 : Shape := [(1, .box true [.int .i64, .row (.t3) false, .row (.int .i64) false]), (2, .arr 768 true), (3, .arr 768 true), (7, .one (.bool))]
abbrev sin7 : Shape := [(1, .box true [.int .i64, .row (.t3) false, .row (.int .i64) false]), (2, .arr 768 true), (3, .arr 768 true), (7, .one (.bool))]
abbrev sout7 : Shape := [(2, .arr 768 true), (3, .arr 768 true)]
abbrev sin5 : Shape := [(1, .box true [.int .i64, .row (.t3) false, .row (.int .i64) false]), (2, .arr 768 true), (3, .arr 768 true), (36, .one (.int .i64))]
abbrev sout5 : Shape := [(1, .box true [.int .i64, .row (.t3) false, .row (.int .i64) false]), (2, .arr 768 true), (3, .arr 768 true)]
abbrev sin4 : Shape := [(1, .box true [.int .i64, .row (.t3) false, .row (.int .i64) false]), (2, .arr 768 true), (3, .arr 768 true), (30, .one (.int .i64)), (31, .one (.int .i64))]
abbrev sout4 : Shape := [(1, .box true [.int .i64, .row (.t3) false, .row (.int .i64) false]), (2, .arr 768 true), (3, .arr 768 true)]
def lam (n : Nat) : Nat → (St → Option R) → St → Option R := fun i => match Nat.beq i 2 with | true => (fun K st => match absSt sin2 st with | some (x, _) => impl_remain.l2 n (fun y0 y1 y2 y3 y4 y5 => K (mkSt sout2 ((y0, y1, y2, ()), y3, y4, y5, ()))) n x.1.1 x.1.2.1 x.1.2.2.1 x.2.1 x.2.2.1 x.2.2.2.1 x.2.2.2.2.1 x.2.2.2.2.2.1 | none => none) | false => match Nat.beq i 0 with | true => (fun K st => match absSt sin0 st with | some (x, _) => impl_remain.l0 n (fun y0 y1 y2 y3 y4 => K (mkSt sout0 ((y0, y1, y2, ()), y3, y4, ()))) n x.1.1 x.1.2.1 x.1.2.2.1 x.2.1 x.2.2.1 x.2.2.2.1 | none => none) | false => match Nat.beq i 13 with | true => (fun K st => match absSt sin13 st with | some (x, _) => impl_remain.l13 n (fun y0 y1 y2 y3 y4 y5 y6 y7 y8 y9 => K (mkSt sout13 ((y0, y1, y2, ()), y3, y4, y5, y6, y7, y8, y9, ()))) n x.1.1 x.1.2.1 x.1.2.2.1 x.2.1 x.2.2.1 x.2.2.2.1 x.2.2.2.2.1 x.2.2.2.2.2.1 x.2.2.2.2.2.2.1 x.2.2.2.2.2.2.2.1 x.2.2.2.2.2.2.2.2.1 x.2.2.2.2.2.2.2.2.2.1 x.2.2.2.2.2.2.2.2.2.2.1 x.2.2.2.2.2.2.2.2.2.2.2.1 | none => none) | false => match Nat.beq i 11 with | true => (fun K st => match absSt sin11 st with | some (x, _) => impl_remain.l11 n (fun y0 y1 y2 y3 y4 y5 y6 y7 => K (mkSt sout11 ((y0, y1, y2, ()), y3, y4, y5, y6, y7, ()))) n x.1.1 x.1.2.1 x.1.2.2.1 x.2.1 x.2.2.1 x.2.2.2.1 x.2.2.2.2.1 x.2.2.2.2.2.1 x.2.2.2.2.2.2.1 x.2.2.2.2.2.2.2.1 | none => none) | false => match Nat.beq i 9 with | true => (fun K st => match absSt sin9 st with | some (x, _) => impl_remain.l9 n (fun y0 y1 y2 y3 y4 y5 => K (mkSt sout9 ((y0, y1, y2, ()), y3, y4, y5, ()))) n x.1.1 x.1.2.1 x.1.2.2.1 x.2.1 x.2.2.1 x.2.2.2.1 x.2.2.2.2.1 x.2.2.2.2.2.1 | none => none) | false => match Nat.beq i 7 with | true => (fun K st => match absSt sin7 st with | some (x, _) => impl_remain.l7 n (fun y0 y1 => K (mkSt sout7 (y0, y1, ()))) n x.1.1 x.1.2.1 x.1.2.2.1 x.2.1 x.2.2.1 x.2.2.2.1 | none => none) | false => match Nat.beq i 5 with | true => (fun K st => match absSt sin5 st with | some (x, _) => impl_remain.l5 n (fun y0 y1 y2 y3 y4 => K (mkSt sout5 ((y0, y1, y2, ()), y3, y4, ()))) n x.1.1 x.1.2.1 x.1.2.2.1 x.2.1 x.2.2.1 x.2.2.2.1 | none => none) | false => match Nat.beq i 4 with | true => (fun K st => match absSt sin4 st with | some (x, _) => impl_remain.l4 n (fun y0 y1 y2 y3 y4 => K (mkSt sout4 ((y0, y1, y2, ()), y3, y4, ()))) n x.1.1 x.1.2.1 x.1.2.2.1 x.2.1 x.2.2.1 x.2.2.2.1 x.2.2.2.2.1 | none => none) | false => fun _ _ => none
noncomputable def lps : List (Nat × Code) := loopsOf cfg.blk code
noncomputable def b2 : Code := bodyOf lps 2
theorem l2_eq (n : Nat) (K : St → Option R) : ∀ (j : Nat) (x0 : Int) (x1 : List (Int × Int × Int)) (x2 : List (Int)) (x3 : List Int) (x4 : List Int) (x5 : Int) (x6 : Int) (x7 : Int), impl_remain.l2 n (fun y0 y1 y2 y3 y4 y5 => K (mkSt sout2 ((y0, y1, y2, ()), y3, y4, y5, ()))) j x0 x1 x2 x3 x4 x5 x6 x7 = iter (roundK cfg (pick (cal n)) (lam n) fin 2 b2 sin2 sout2 K) j (mkSt sin2 ((x0, x1, x2, ()), x3, x4, x5, x6, x7, ()))
  | 0, _, _, _, _, _, _, _, _ => rfl
  | j + 1, x0, x1, x2, x3, x4, x5, x6, x7 => by
    have ih : impl_remain.l2 n (fun y0 y1 y2 y3 y4 y5 => K (mkSt sout2 ((y0, y1, y2, ()), y3, y4, y5, ()))) j = fun x0 x1 x2 x3 x4 x5 x6 x7 => iter (roundK cfg (pick (cal n)) (lam n) fin 2 b2 sin2 sout2 K) j (mkSt sin2 ((x0, x1, x2, ()), x3, x4, x5, x6, x7, ())) := funext fun x0 => funext fun x1 => funext fun x2 => funext fun x3 => funext fun x4 => funext fun x5 => funext fun x6 => funext fun x7 => l2_eq n K j x0 x1 x2 x3 x4 x5 x6 x7
    rw [impl_remain.l2, ih]
    show _ = roundK cfg (pick (cal n)) (lam n) fin 2 b2 sin2 sout2 K (iter (roundK cfg (pick (cal n)) (lam n) fin 2 b2 sin2 sout2 K) j) (mkSt sin2 ((x0, x1, x2, ()), x3, x4, x5, x6, x7, ()))
    kernel_rfl
noncomputable def b0 : Code := bodyOf lps 0
theorem l0_eq (n : Nat) (K : St → Option R) : ∀ (j : Nat) (x0 : Int) (x1 : List (Int × Int × Int)) (x2 : List (Int)) (x3 : List Int) (x4 : List Int) (x5 : Int), impl_remain.l0 n (fun y0 y1 y2 y3 y4 => K (mkSt sout0 ((y0, y1, y2, ()), y3, y4, ()))) j x0 x1 x2 x3 x4 x5 = iter (roundK cfg (pick (cal n)) (lam n) fin 0 b0 sin0 sout0 K) j (mkSt sin0 ((x0, x1, x2, ()), x3, x4, x5, ()))
  | 0, _, _, _, _, _, _ => rfl
  | j + 1, x0, x1, x2, x3, x4, x5 => by
    have ih : impl_remain.l0 n (fun y0 y1 y2 y3 y4 => K (mkSt sout0 ((y0, y1, y2, ()), y3, y4, ()))) j = fun x0 x1 x2 x3 x4 x5 => iter (roundK cfg (pick (cal n)) (lam n) fin 0 b0 sin0 sout0 K) j (mkSt sin0 ((x0, x1, x2, ()), x3, x4, x5, ())) := funext fun x0 => funext fun x1 => funext fun x2 => funext fun x3 => funext fun x4 => funext fun x5 => l0_eq n K j x0 x1 x2 x3 x4 x5
    rw [impl_remain.l0, ih]
    show _ = roundK cfg (pick (cal n)) (lam n) fin 0 b0 sin0 sout0 K (iter (roundK cfg (pick (cal n)) (lam n) fin 0 b0 sin0 sout0 K) j) (mkSt sin0 ((x0, x1, x2, ()), x3, x4, x5, ()))
    kernel_rfl
noncomputable def b13 : Code := bodyOf lps 13
theorem l13_eq (n : Nat) (K : St → Option R) : ∀ (j : Nat) (x0 : Int) (x1 : List (Int × Int × Int)) (x2 : List (Int)) (x3 : List Int) (x4 : List Int) (x5 : Bool) (x6 : Int) (x7 : Int) (x8 : Int) (x9 : Int) (x10 : Int) (x11 : List (Int)) (x12 : Int) (x13 : Int), impl_remain.l13 n (fun y0 y1 y2 y3 y4 y5 y6 y7 y8 y9 => K (mkSt sout13 ((y0, y1, y2, ()), y3, y4, y5, y6, y7, y8, y9, ()))) j x0 x1 x2 x3 x4 x5 x6 x7 x8 x9 x10 x11 x12 x13 = iter (roundK cfg (pick (cal n)) (lam n) fin 13 b13 sin13 sout13 K) j (mkSt sin13 ((x0, x1, x2, ()), x3, x4, x5, x6, x7, x8, x9, x10, x11, x12, x13, ()))
  | 0, _, _, _, _, _, _, _, _, _, _, _, _, _, _ => rfl
  | j + 1, x0, x1, x2, x3, x4, x5, x6, x7, x8, x9, x10, x11, x12, x13 => by
    have ih : impl_remain.l13 n (fun y0 y1 y2 y3 y4 y5 y6 y7 y8 y9 => K (mkSt sout13 ((y0, y1, y2, ()), y3, y4, y5, y6, y7, y8, y9, ()))) j = fun x0 x1 x2 x3 x4 x5 x6 x7 x8 x9 x10 x11 x12 x13 => iter (roundK cfg (pick (cal n)) (lam n) fin 13 b13 sin13 sout13 K) j (mkSt sin13 ((x0, x1, x2, ()), x3, x4, x5, x6, x7, x8, x9, x10, x11, x12, x13, ())) := funext fun x0 => funext fun x1 => funext fun x2 => funext fun x3 => funext fun x4 => funext fun x5 => funext fun x6 => funext fun x7 => funext fun x8 => funext fun x9 => funext fun x10 => funext fun x11 => funext fun x12 => funext fun x13 => l13_eq n K j x0 x1 x2 x3 x4 x5 x6 x7 x8 x9 x10 x11 x12 x13
    rw [impl_remain.l13, ih]
    show _ = roundK cfg (pick (cal n)) (lam n) fin 13 b13 sin13 sout13 K (iter (roundK cfg (pick (cal n)) (lam n) fin 13 b13 sin13 sout13 K) j) (mkSt sin13 ((x0, x1, x2, ()), x3, x4, x5, x6, x7, x8, x9, x10, x11, x12, x13, ()))
    kernel_rfl
noncomputable def b11 : Code := bodyOf lps 11
theorem l11_eq (n : Nat) (K : St → Option R) : ∀ (j : Nat) (x0 : Int) (x1 : List (Int × Int × Int)) (x2 : List (Int)) (x3 : List Int) (x4 : List Int) (x5 : Bool) (x6 : Int) (x7 : Int) (x8 : Int) (x9 : Int), impl_remain.l11 n (fun y0 y1 y2 y3 y4 y5 y6 y7 => K (mkSt sout11 ((y0, y1, y2, ()), y3, y4, y5, y6, y7, ()))) j x0 x1 x2 x3 x4 x5 x6 x7 x8 x9 = iter (roundK cfg (pick (cal n)) (lam n) fin 11 b11 sin11 sout11 K) j (mkSt sin11 ((x0, x1, x2, ()), x3, x4, x5, x6, x7, x8, x9, ()))
  | 0, _, _, _, _, _, _, _, _, _, _ => rfl
  | j + 1, x0, x1, x2, x3, x4, x5, x6, x7, x8, x9 => by
    have ih : impl_remain.l11 n (fun y0 y1 y2 y3 y4 y5 y6 y7 => K (mkSt sout11 ((y0, y1, y2, ()), y3, y4, y5, y6, y7, ()))) j = fun x0 x1 x2 x3 x4 x5 x6 x7 x8 x9 => iter (roundK cfg (pick (cal n)) (lam n) fin 11 b11 sin11 sout11 K) j (mkSt sin11 ((x0, x1, x2, ()), x3, x4, x5, x6, x7, x8, x9, ())) := funext fun x0 => funext fun x1 => funext fun x2 => funext fun x3 => funext fun x4 => funext fun x5 => funext fun x6 => funext fun x7 => funext fun x8 => funext fun x9 => l11_eq n K j x0 x1 x2 x3 x4 x5 x6 x7 x8 x9
    rw [impl_remain.l11, ih]
    show _ = roundK cfg (pick (cal n)) (lam n) fin 11 b11 sin11 sout11 K (iter (roundK cfg (pick (cal n)) (lam n) fin 11 b11 sin11 sout11 K) j) (mkSt sin11 ((x0, x1, x2, ()), x3, x4, x5, x6, x7, x8, x9, ()))
    kernel_rfl
noncomputable def b9 : Code := bodyOf lps 9
theorem l9_eq (n : Nat) (K : St → Option R) : ∀ (j : Nat) (x0 : Int) (x1 : List (Int × Int × Int)) (x2 : List (Int)) (x3 : List Int) (x4 : List Int) (x5 : Bool) (x6 : Int) (x7 : Int), impl_remain.l9 n (fun y0 y1 y2 y3 y4 y5 => K (mkSt sout9 ((y0, y1, y2, ()), y3, y4, y5, ()))) j x0 x1 x2 x3 x4 x5 x6 x7 = iter (roundK cfg (pick (cal n)) (lam n) fin 9 b9 sin9 sout9 K) j (mkSt sin9 ((x0, x1, x2, ()), x3, x4, x5, x6, x7, ()))
  | 0, _, _, _, _, _, _, _, _ => rfl
  | j + 1, x0, x1, x2, x3, x4, x5, x6, x7 => by
    have ih : impl_remain.l9 n (fun y0 y1 y2 y3 y4 y5 => K (mkSt sout9 ((y0, y1, y2, ()), y3, y4, y5, ()))) j = fun x0 x1 x2 x3 x4 x5 x6 x7 => iter (roundK cfg (pick (cal n)) (lam n) fin 9 b9 sin9 sout9 K) j (mkSt sin9 ((x0, x1, x2, ()), x3, x4, x5, x6, x7, ())) := funext fun x0 => funext fun x1 => funext fun x2 => funext fun x3 => funext fun x4 => funext fun x5 => funext fun x6 => funext fun x7 => l9_eq n K j x0 x1 x2 x3 x4 x5 x6 x7
    rw [impl_remain.l9, ih]
    show _ = roundK cfg (pick (cal n)) (lam n) fin 9 b9 sin9 sout9 K (iter (roundK cfg (pick (cal n)) (lam n) fin 9 b9 sin9 sout9 K) j) (mkSt sin9 ((x0, x1, x2, ()), x3, x4, x5, x6, x7, ()))
    kernel_rfl
noncomputable def b7 : Code := bodyOf lps 7
theorem l7_eq (n : Nat) (K : St → Option R) : ∀ (j : Nat) (x0 : Int) (x1 : List (Int × Int × Int)) (x2 : List (Int)) (x3 : List Int) (x4 : List Int) (x5 : Bool), impl_remain.l7 n (fun y0 y1 => K (mkSt sout7 (y0, y1, ()))) j x0 x1 x2 x3 x4 x5 = iter (roundK cfg (pick (cal n)) (lam n) fin 7 b7 sin7 sout7 K) j (mkSt sin7 ((x0, x1, x2, ()), x3, x4, x5, ()))
  | 0, _, _, _, _, _, _ => rfl
  | j + 1, x0, x1, x2, x3, x4, x5 => by
    have ih : impl_remain.l7 n (fun y0 y1 => K (mkSt sout7 (y0, y1, ()))) j = fun x0 x1 x2 x3 x4 x5 => iter (roundK cfg (pick (cal n)) (lam n) fin 7 b7 sin7 sout7 K) j (mkSt sin7 ((x0, x1, x2, ()), x3, x4, x5, ())) := funext fun x0 => funext fun x1 => funext fun x2 => funext fun x3 => funext fun x4 => funext fun x5 => l7_eq n K j x0 x1 x2 x3 x4 x5
    rw [impl_remain.l7, ih]
    show _ = roundK cfg (pick (cal n)) (lam n) fin 7 b7 sin7 sout7 K (iter (roundK cfg (pick (cal n)) (lam n) fin 7 b7 sin7 sout7 K) j) (mkSt sin7 ((x0, x1, x2, ()), x3, x4, x5, ()))
    kernel_rfl
noncomputable def b5 : Code := bodyOf lps 5
theorem l5_eq (n : Nat) (K : St → Option R) : ∀ (j : Nat) (x0 : Int) (x1 : List (Int × Int × Int)) (x2 : List (Int)) (x3 : List Int) (x4 : List Int) (x5 : Int), impl_remain.l5 n (fun y0 y1 y2 y3 y4 => K (mkSt sout5 ((y0, y1, y2, ()), y3, y4, ()))) j x0 x1 x2 x3 x4 x5 = iter (roundK cfg (pick (cal n)) (lam n) fin 5 b5 sin5 sout5 K) j (mkSt sin5 ((x0, x1, x2, ()), x3, x4, x5, ()))
  | 0, _, _, _, _, _, _ => rfl
  | j + 1, x0, x1, x2, x3, x4, x5 => by
    have ih : impl_remain.l5 n (fun y0 y1 y2 y3 y4 => K (mkSt sout5 ((y0, y1, y2, ()), y3, y4, ()))) j = fun x0 x1 x2 x3 x4 x5 => iter (roundK cfg (pick (cal n)) (lam n) fin 5 b5 sin5 sout5 K) j (mkSt sin5 ((x0, x1, x2, ()), x3, x4, x5, ())) := funext fun x0 => funext fun x1 => funext fun x2 => funext fun x3 => funext fun x4 => funext fun x5 => l5_eq n K j x0 x1 x2 x3 x4 x5
    rw [impl_remain.l5, ih]
    show _ = roundK cfg (pick (cal n)) (lam n) fin 5 b5 sin5 sout5 K (iter (roundK cfg (pick (cal n)) (lam n) fin 5 b5 sin5 sout5 K) j) (mkSt sin5 ((x0, x1, x2, ()), x3, x4, x5, ()))
    kernel_rfl
noncomputable def b4 : Code := bodyOf lps 4
theorem l4_eq (n : Nat) (K : St → Option R) : ∀ (j : Nat) (x0 : Int) (x1 : List (Int × Int × Int)) (x2 : List (Int)) (x3 : List Int) (x4 : List Int) (x5 : Int) (x6 : Int), impl_remain.l4 n (fun y0 y1 y2 y3 y4 => K (mkSt sout4 ((y0, y1, y2, ()), y3, y4, ()))) j x0 x1 x2 x3 x4 x5 x6 = iter (roundK cfg (pick (cal n)) (lam n) fin 4 b4 sin4 sout4 K) j (mkSt sin4 ((x0, x1, x2, ()), x3, x4, x5, x6, ()))
  | 0, _, _, _, _, _, _, _ => rfl
  | j + 1, x0, x1, x2, x3, x4, x5, x6 => by
    have ih : impl_remain.l4 n (fun y0 y1 y2 y3 y4 => K (mkSt sout4 ((y0, y1, y2, ()), y3, y4, ()))) j = fun x0 x1 x2 x3 x4 x5 x6 => iter (roundK cfg (pick (cal n)) (lam n) fin 4 b4 sin4 sout4 K) j (mkSt sin4 ((x0, x1, x2, ()), x3, x4, x5, x6, ())) := funext fun x0 => funext fun x1 => funext fun x2 => funext fun x3 => funext fun x4 => funext fun x5 => funext fun x6 => l4_eq n K j x0 x1 x2 x3 x4 x5 x6
    rw [impl_remain.l4, ih]
    show _ = roundK cfg (pick (cal n)) (lam n) fin 4 b4 sin4 sout4 K (iter (roundK cfg (pick (cal n)) (lam n) fin 4 b4 sin4 sout4 K) j) (mkSt sin4 ((x0, x1, x2, ()), x3, x4, x5, x6, ()))
    kernel_rfl
theorem loops (n : Nat) : LoopsOk cfg (pick (cal n)) (lam n) fin (loopsOf cfg.blk code) := by
  have h : loopsOf cfg.blk code = [(0, b0), (2, b2), (4, b4), (5, b5), (7, b7), (9, b9), (11, b11), (13, b13)] := by kernel_rfl
  rw [h]
  intro p hp K st r hr
  simp only [List.mem_cons, List.not_mem_nil, or_false] at hp
  rcases hp with rfl | rfl | rfl | rfl | rfl | rfl | rfl | rfl
  · have hr' : (match absSt sin0 st with | some (x, _) => impl_remain.l0 n (fun y0 y1 y2 y3 y4 => K (mkSt sout0 ((y0, y1, y2, ()), y3, y4, ()))) n x.1.1 x.1.2.1 x.1.2.2.1 x.2.1 x.2.2.1 x.2.2.2.1 | none => none) = some r := hr
    split at hr'
    · rename_i x es hx
      rw [l0_eq] at hr'
      exact ⟨sin0, sout0, n, x, es, hx, hr'⟩
    · cases hr'
  · have hr' : (match absSt sin2 st with | some (x, _) => impl_remain.l2 n (fun y0 y1 y2 y3 y4 y5 => K (mkSt sout2 ((y0, y1, y2, ()), y3, y4, y5, ()))) n x.1.1 x.1.2.1 x.1.2.2.1 x.2.1 x.2.2.1 x.2.2.2.1 x.2.2.2.2.1 x.2.2.2.2.2.1 | none => none) = some r := hr
    split at hr'
    · rename_i x es hx
      rw [l2_eq] at hr'
      exact ⟨sin2, sout2, n, x, es, hx, hr'⟩
    · cases hr'
  · have hr' : (match absSt sin4 st with | some (x, _) => impl_remain.l4 n (fun y0 y1 y2 y3 y4 => K (mkSt sout4 ((y0, y1, y2, ()), y3, y4, ()))) n x.1.1 x.1.2.1 x.1.2.2.1 x.2.1 x.2.2.1 x.2.2.2.1 x.2.2.2.2.1 | none => none) = some r := hr
    split at hr'
    · rename_i x es hx
      rw [l4_eq] at hr'
      exact ⟨sin4, sout4, n, x, es, hx, hr'⟩
    · cases hr'
  · have hr' : (match absSt sin5 st with | some (x, _) => impl_remain.l5 n (fun y0 y1 y2 y3 y4 => K (mkSt sout5 ((y0, y1, y2, ()), y3, y4, ()))) n x.1.1 x.1.2.1 x.1.2.2.1 x.2.1 x.2.2.1 x.2.2.2.1 | none => none) = some r := hr
    split at hr'
    · rename_i x es hx
      rw [l5_eq] at hr'
      exact ⟨sin5, sout5, n, x, es, hx, hr'⟩
    · cases hr'
  · have hr' : (match absSt sin7 st with | some (x, _) => impl_remain.l7 n (fun y0 y1 => K (mkSt sout7 (y0, y1, ()))) n x.1.1 x.1.2.1 x.1.2.2.1 x.2.1 x.2.2.1 x.2.2.2.1 | none => none) = some r := hr
    split at hr'
    · rename_i x es hx
      rw [l7_eq] at hr'
      exact ⟨sin7, sout7, n, x, es, hx, hr'⟩
    · cases hr'
  · have hr' : (match absSt sin9 st with | some (x, _) => impl_remain.l9 n (fun y0 y1 y2 y3 y4 y5 => K (mkSt sout9 ((y0, y1, y2, ()), y3, y4, y5, ()))) n x.1.1 x.1.2.1 x.1.2.2.1 x.2.1 x.2.2.1 x.2.2.2.1 x.2.2.2.2.1 x.2.2.2.2.2.1 | none => none) = some r := hr
    split at hr'
    · rename_i x es hx
      rw [l9_eq] at hr'
      exact ⟨sin9, sout9, n, x, es, hx, hr'⟩
    · cases hr'
  · have hr' : (match absSt sin11 st with | some (x, _) => impl_remain.l11 n (fun y0 y1 y2 y3 y4 y5 y6 y7 => K (mkSt sout11 ((y0, y1, y2, ()), y3, y4, y5, y6, y7, ()))) n x.1.1 x.1.2.1 x.1.2.2.1 x.2.1 x.2.2.1 x.2.2.2.1 x.2.2.2.2.1 x.2.2.2.2.2.1 x.2.2.2.2.2.2.1 x.2.2.2.2.2.2.2.1 | none => none) = some r := hr
    split at hr'
    · rename_i x es hx
      rw [l11_eq] at hr'
      exact ⟨sin11, sout11, n, x, es, hx, hr'⟩
    · cases hr'
  · have hr' : (match absSt sin13 st with | some (x, _) => impl_remain.l13 n (fun y0 y1 y2 y3 y4 y5 y6 y7 y8 y9 => K (mkSt sout13 ((y0, y1, y2, ()), y3, y4, y5, y6, y7, y8, y9, ()))) n x.1.1 x.1.2.1 x.1.2.2.1 x.2.1 x.2.2.1 x.2.2.2.1 x.2.2.2.2.1 x.2.2.2.2.2.1 x.2.2.2.2.2.2.1 x.2.2.2.2.2.2.2.1 x.2.2.2.2.2.2.2.2.1 x.2.2.2.2.2.2.2.2.2.1 x.2.2.2.2.2.2.2.2.2.2.1 x.2.2.2.2.2.2.2.2.2.2.2.1 | none => none) = some r := hr
    split at hr'
    · rename_i x es hx
      rw [l13_eq] at hr'
      exact ⟨sin13, sout13, n, x, es, hx, hr'⟩
    · cases hr'
theorem F_eq (n : Nat) (x0 : Int) (x1 : List (Int × Int × Int)) (x2 : List (Int)) : impl_remain.F n x0 x1 x2 = exK cfg (pick (cal n)) (lam n) fin code (fun _ _ => none) (mkSt shp ((x0, x1, x2, ()), ())) fin := by
  kernel_rfl
def pfn (n : Nat) : PFn := mkFn shp outs (fun x => impl_remain.F n x.1.1 x.1.2.1 x.1.2.2.1) out
theorem ok (n : Nat) : (pfn n).Ok Go.Proofs.Try.prog 74 :=
  mkFn_ok (fn := Go.Proofs.Try.f74) (code := code) Go.Proofs.Try.func74 (by kernel_rfl) (by decide) (C := cfg) (Φ := pick (cal n)) (Λ := lam n) (into := into) hT (cal_ok n) (by kernel_rfl) rfl (by decide) rfl (fun _ => rfl) (loops n)
    (fun x r h => by
      have e := F_eq n x.1.1 x.1.2.1 x.1.2.2.1
      exact e.symm.trans h)
end impl_remain
end
/-! ### loop.example/g01158/impl.wayOn -/
section
namespace impl_wayOn
noncomputable def code : Code := (Go.Proofs.Try.f82.body).getD .skip
abbrev shp : Shape := [(0, .agg [.int .i64, .row (.t3) false, .row (.int .i64) false]), (1, .ints 768), (2, .one (.int .i64)), (3, .one (.int .i64))]
abbrev outs : List KD := [.one (.row (.int .i64) true)]
abbrev R : Type := (List (Int))
def out : R → denL outs := fun r => (r, ())
def into : denL outs → R := fun y => y.1
def cfg : Cfg := ⟨ty, 61, [], fun i => match Nat.beq i 2 with | true => .loop | false => match Nat.beq i 0 with | true => .loop | false => .plain, fun _ => none⟩
def cal (n : Nat) : List (Nat × PFn) := [(76, impl_members.pfn n), (77, impl_steps.pfn n)]
theorem cal_ok (n : Nat) : ∀ g, (pick (cal n) g).Ok Go.Proofs.Try.prog g := pick_ok (by
  intro p hp
  simp only [cal, List.mem_cons, List.not_mem_nil, or_false] at hp
  rcases hp with rfl | rfl
  · exact impl_members.ok n
  · exact impl_steps.ok n)
def fin : St → Option R := finOf ty [.tmp 8] outs into
abbrev sin2 : Shape := [(2, .one (.int .i64)), (3, .one (.int .i64)), (4, .box true [.int .i64, .row (.t3) false, .row (.int .i64) false]), (5, .arr 768 true), (9, .one (.row (.int .i64) true)), (23, .one (.row (.int .i64) true)), (24, .one (.int .i64)), (25, .one (.int .i64))]
abbrev sout2 : Shape := [(2, .one (.int .i64)), (3, .one (.int .i64)), (4, .box true [.int .i64, .row (.t3) false, .row (.int .i64) false]), (5, .arr 768 true), (9, .one (.row (.int .i64) true))]
abbrev sin0 : Shape := [(2, .one (.int .i64)), (3, .one (.int .i64)), (4, .box true [.int .i64, .row (.t3) false, .row (.int .i64) false]), (5, .arr 768 true), (9, .one (.row (.int .i64) true))]
abbrev sout0 : Shape := [(9, .one (.row (.int .i64) true))]
def lam (n : Nat) : Nat → (St → Option R) → St → Option R := fun i => match Nat.beq i 2 with | true => (fun K st => match absSt sin2 st with | some (x, _) => impl_wayOn.l2 n (fun y0 y1 y2 y3 y4 y5 y6 => K (mkSt sout2 (y0, y1, (y2, y3, y4, ()), y5, y6, ()))) n x.1 x.2.1 x.2.2.1.1 x.2.2.1.2.1 x.2.2.1.2.2.1 x.2.2.2.1 x.2.2.2.2.1 x.2.2.2.2.2.1 x.2.2.2.2.2.2.1 x.2.2.2.2.2.2.2.1 | none => none) | false => match Nat.beq i 0 with | true => (fun K st => match absSt sin0 st with | some (x, _) => impl_wayOn.l0 n (fun y0 => K (mkSt sout0 (y0, ()))) n x.1 x.2.1 x.2.2.1.1 x.2.2.1.2.1 x.2.2.1.2.2.1 x.2.2.2.1 x.2.2.2.2.1 | none => none) | false => fun _ _ => none
noncomputable def lps : List (Nat × Code) := loopsOf cfg.blk code
noncomputable def b2 : Code := bodyOf lps 2
theorem l2_eq (n : Nat) (K : St → Option R) : ∀ (j : Nat) (x0 : Int) (x1 : Int) (x2 : Int) (x3 : List (Int × Int × Int)) (x4 : List (Int)) (x5 : List Int) (x6 : List (Int)) (x7 : List (Int)) (x8 : Int) (x9 : Int), impl_wayOn.l2 n (fun y0 y1 y2 y3 y4 y5 y6 => K (mkSt sout2 (y0, y1, (y2, y3, y4, ()), y5, y6, ()))) j x0 x1 x2 x3 x4 x5 x6 x7 x8 x9 = iter (roundK cfg (pick (cal n)) (lam n) fin 2 b2 sin2 sout2 K) j (mkSt sin2 (x0, x1, (x2, x3, x4, ()), x5, x6, x7, x8, x9, ()))
  | 0, _, _, _, _, _, _, _, _, _, _ => rfl
  | j + 1, x0, x1, x2, x3, x4, x5, x6, x7, x8, x9 => by
    have ih : impl_wayOn.l2 n (fun y0 y1 y2 y3 y4 y5 y6 => K (mkSt sout2 (y0, y1, (y2, y3, y4, ()), y5, y6, ()))) j = fun x0 x1 x2 x3 x4 x5 x6 x7 x8 x9 => iter (roundK cfg (pick (cal n)) (lam n) fin 2 b2 sin2 sout2 K) j (mkSt sin2 (x0, x1, (x2, x3, x4, ()), x5, x6, x7, x8, x9, ())) := funext fun x0 => funext fun x1 => funext fun x2 => funext fun x3 => funext fun x4 => funext fun x5 => funext fun x6 => funext fun x7 => funext fun x8 => funext fun x9 => l2_eq n K j x0 x1 x2 x3 x4 x5 x6 x7 x8 x9
    rw [impl_wayOn.l2, ih]
    show _ = roundK cfg (pick (cal n)) (lam n) fin 2 b2 sin2 sout2 K (iter (roundK cfg (pick (cal n)) (lam n) fin 2 b2 sin2 sout2 K) j) (mkSt sin2 (x0, x1, (x2, x3, x4, ()), x5, x6, x7, x8, x9, ()))
    kernel_rfl
noncomputable def b0 : Code := bodyOf lps 0
theorem l0_eq (n : Nat) (K : St → Option R) : ∀ (j : Nat) (x0 : Int) (x1 : Int) (x2 : Int) (x3 : List (Int × Int × Int)) (x4 : List (Int)) (x5 : List Int) (x6 : List (Int)), impl_wayOn.l0 n (fun y0 => K (mkSt sout0 (y0, ()))) j x0 x1 x2 x3 x4 x5 x6 = iter (roundK cfg (pick (cal n)) (lam n) fin 0 b0 sin0 sout0 K) j (mkSt sin0 (x0, x1, (x2, x3, x4, ()), x5, x6, ()))
  | 0, _, _, _, _, _, _, _ => rfl
  | j + 1, x0, x1, x2, x3, x4, x5, x6 => by
    have ih : impl_wayOn.l0 n (fun y0 => K (mkSt sout0 (y0, ()))) j = fun x0 x1 x2 x3 x4 x5 x6 => iter (roundK cfg (pick (cal n)) (lam n) fin 0 b0 sin0 sout0 K) j (mkSt sin0 (x0, x1, (x2, x3, x4, ()), x5, x6, ())) := funext fun x0 => funext fun x1 => funext fun x2 => funext fun x3 => funext fun x4 => funext fun x5 => funext fun x6 => l0_eq n K j x0 x1 x2 x3 x4 x5 x6
    rw [impl_wayOn.l0, ih]
    show _ = roundK cfg (pick (cal n)) (lam n) fin 0 b0 sin0 sout0 K (iter (roundK cfg (pick (cal n)) (lam n) fin 0 b0 sin0 sout0 K) j) (mkSt sin0 (x0, x1, (x2, x3, x4, ()), x5, x6, ()))
    kernel_rfl
theorem loops (n : Nat) : LoopsOk cfg (pick (cal n)) (lam n) fin (loopsOf cfg.blk code) := by
  have h : loopsOf cfg.blk code = [(0, b0), (2, b2)] := by kernel_rfl
  rw [h]
  intro p hp K st r hr
  simp only [List.mem_cons, List.not_mem_nil, or_false] at hp
  rcases hp with rfl | rfl
  · have hr' : (match absSt sin0 st with | some (x, _) => impl_wayOn.l0 n (fun y0 => K (mkSt sout0 (y0, ()))) n x.1 x.2.1 x.2.2.1.1 x.2.2.1.2.1 x.2.2.1.2.2.1 x.2.2.2.1 x.2.2.2.2.1 | none => none) = some r := hr
    split at hr'
    · rename_i x es hx
      rw [l0_eq] at hr'
      exact ⟨sin0, sout0, n, x, es, hx, hr'⟩
    · cases hr'
  · have hr' : (match absSt sin2 st with | some (x, _) => impl_wayOn.l2 n (fun y0 y1 y2 y3 y4 y5 y6 => K (mkSt sout2 (y0, y1, (y2, y3, y4, ()), y5, y6, ()))) n x.1 x.2.1 x.2.2.1.1 x.2.2.1.2.1 x.2.2.1.2.2.1 x.2.2.2.1 x.2.2.2.2.1 x.2.2.2.2.2.1 x.2.2.2.2.2.2.1 x.2.2.2.2.2.2.2.1 | none => none) = some r := hr
    split at hr'
    · rename_i x es hx
      rw [l2_eq] at hr'
      exact ⟨sin2, sout2, n, x, es, hx, hr'⟩
    · cases hr'
theorem F_eq (n : Nat) (x0 : Int) (x1 : List (Int × Int × Int)) (x2 : List (Int)) (x3 : List Int) (x4 : Int) (x5 : Int) : impl_wayOn.F n x0 x1 x2 x3 x4 x5 = exK cfg (pick (cal n)) (lam n) fin code (fun _ _ => none) (mkSt shp ((x0, x1, x2, ()), x3, x4, x5, ())) fin := by
  kernel_rfl
def pfn (n : Nat) : PFn := mkFn shp outs (fun x => impl_wayOn.F n x.1.1 x.1.2.1 x.1.2.2.1 x.2.1 x.2.2.1 x.2.2.2.1) out
theorem ok (n : Nat) : (pfn n).Ok Go.Proofs.Try.prog 82 :=
  mkFn_ok (fn := Go.Proofs.Try.f82) (code := code) Go.Proofs.Try.func82 (by kernel_rfl) (by decide) (C := cfg) (Φ := pick (cal n)) (Λ := lam n) (into := into) hT (cal_ok n) (by kernel_rfl) rfl (by decide) rfl (fun _ => rfl) (loops n)
    (fun x r h => by
      have e := F_eq n x.1.1 x.1.2.1 x.1.2.2.1 x.2.1 x.2.2.1 x.2.2.2.1
      exact e.symm.trans h)
end impl_wayOn
end
/-! ### slices.Grow[[]int,int] -/
section
namespace slices_Grow_int_int_c0
noncomputable def code : Code := (Go.Proofs.Try.f134.body).getD .skip
abbrev shp : Shape := [(0, .one (.lit .nil)), (1, .one (.int .i64))]
abbrev outs : List KD := [.one (.row (.int .i64) true)]
abbrev R : Type := (List (Int))
def out : R → denL outs := fun r => (r, ())
def into : denL outs → R := fun y => y.1
def cfg : Cfg := ⟨ty, 27, [], fun _ => .plain, fun _ => none⟩
def cal (n : Nat) : List (Nat × PFn) := []
theorem cal_ok (n : Nat) : ∀ g, (pick (cal n) g).Ok Go.Proofs.Try.prog g := pick_ok (by
  intro p hp
  cases hp)
def fin : St → Option R := finOf ty [.tmp 4] outs into
def lam (n : Nat) : Nat → (St → Option R) → St → Option R := fun _ => fun _ _ => none
theorem loops (n : Nat) : LoopsOk cfg (pick (cal n)) (lam n) fin (loopsOf cfg.blk code) := by
  have h : loopsOf cfg.blk code = [] := by kernel_rfl
  rw [h]
  intro p hp
  cases hp
theorem F_eq (n : Nat) (x0 : Int) : slices_Grow_int_int_c0.F n x0 = exK cfg (pick (cal n)) (lam n) fin code (fun _ _ => none) (mkSt shp ((), x0, ())) fin := by
  kernel_rfl
def pfn (n : Nat) : PFn := mkFn shp outs (fun x => slices_Grow_int_int_c0.F n x.2.1) out
theorem ok (n : Nat) : (pfn n).Ok Go.Proofs.Try.prog 134 :=
  mkFn_ok (fn := Go.Proofs.Try.f134) (code := code) Go.Proofs.Try.func134 (by kernel_rfl) (by decide) (C := cfg) (Φ := pick (cal n)) (Λ := lam n) (into := into) hT (cal_ok n) (by kernel_rfl) rfl (by decide) rfl (fun _ => rfl) (loops n)
    (fun x r h => by
      have e := F_eq n x.2.1
      exact e.symm.trans h)
end slices_Grow_int_int_c0
end
/-! ### slices.Concat[[]int,int] -/
section
namespace slices_Concat_int_int_c0
noncomputable def code : Code := (Go.Proofs.Try.f81.body).getD .skip
abbrev shp : Shape := [(0, .vec false [.row (.int .i64) false, .row (.int .i64) false])]
abbrev outs : List KD := [.one (.row (.int .i64) true)]
abbrev R : Type := (List (Int))
def out : R → denL outs := fun r => (r, ())
def into : denL outs → R := fun y => y.1
def cfg : Cfg := ⟨ty, 36, [], fun i => match Nat.beq i 0 with | true => .unroll 3 | false => match Nat.beq i 2 with | true => .unroll 3 | false => .plain, fun i => match Nat.beq i 14 with | true => some [(6, .one (.row (.int .i64) true)), (25, .vec false [.row (.int .i64) false, .row (.int .i64) false]), (26, .one (.int .i64)), (27, .one (.int .i64))] | false => none⟩
def cal (n : Nat) : List (Nat × PFn) := [(134, slices_Grow_int_int_c0.pfn n)]
theorem cal_ok (n : Nat) : ∀ g, (pick (cal n) g).Ok Go.Proofs.Try.prog g := pick_ok (by
  intro p hp
  simp only [cal, List.mem_cons, List.not_mem_nil, or_false] at hp
  rcases hp with rfl
  · exact slices_Grow_int_int_c0.ok n)
def fin : St → Option R := finOf ty [.tmp 2] outs into
def lam (n : Nat) : Nat → (St → Option R) → St → Option R := fun _ => fun _ _ => none
theorem loops (n : Nat) : LoopsOk cfg (pick (cal n)) (lam n) fin (loopsOf cfg.blk code) := by
  have h : loopsOf cfg.blk code = [] := by kernel_rfl
  rw [h]
  intro p hp
  cases hp
theorem F_eq (n : Nat) (x0 : List (Int)) (x1 : List (Int)) : slices_Concat_int_int_c0.F n x0 x1 = exK cfg (pick (cal n)) (lam n) fin code (fun _ _ => none) (mkSt shp ((x0, x1, ()), ())) fin := by
  kernel_rfl
def pfn (n : Nat) : PFn := mkFn shp outs (fun x => slices_Concat_int_int_c0.F n x.1.1 x.1.2.1) out
theorem ok (n : Nat) : (pfn n).Ok Go.Proofs.Try.prog 81 :=
  mkFn_ok (fn := Go.Proofs.Try.f81) (code := code) Go.Proofs.Try.func81 (by kernel_rfl) (by decide) (C := cfg) (Φ := pick (cal n)) (Λ := lam n) (into := into) hT (cal_ok n) (by kernel_rfl) rfl (by decide) rfl (fun _ => rfl) (loops n)
    (fun x r h => by
      have e := F_eq n x.1.1 x.1.2.1
      exact e.symm.trans h)
end slices_Concat_int_int_c0
end
/-! ### loop.example/g01158/impl.FirstWay -/
section
namespace impl_FirstWay
noncomputable def code : Code := (Go.Proofs.Try.f21.body).getD .skip
abbrev shp : Shape := [(0, .agg [.int .i64, .row (.t3) false, .row (.int .i64) false])]
abbrev outs : List KD := [.one (.row (.int .i64) true), .one (.bool)]
abbrev R : Type := (List (Int)) × Bool
def out : R → denL outs := fun r => (r.1, r.2, ())
def into : denL outs → R := fun y => (y.1, y.2.1)
def cfg : Cfg := ⟨ty, 28, [], fun _ => .plain, fun _ => none⟩
def cal (n : Nat) : List (Nat × PFn) := [(27, impl_IsMaze.pfn n), (74, impl_remain.pfn n), (81, slices_Concat_int_int_c0.pfn n), (82, impl_wayOn.pfn n)]
theorem cal_ok (n : Nat) : ∀ g, (pick (cal n) g).Ok Go.Proofs.Try.prog g := pick_ok (by
  intro p hp
  simp only [cal, List.mem_cons, List.not_mem_nil, or_false] at hp
  rcases hp with rfl | rfl | rfl | rfl
  · exact impl_IsMaze.ok n
  · exact impl_remain.ok n
  · exact slices_Concat_int_int_c0.ok n
  · exact impl_wayOn.ok n)
def fin : St → Option R := finOf ty [.tmp 2, .tmp 3] outs into
def lam (n : Nat) : Nat → (St → Option R) → St → Option R := fun _ => fun _ _ => none
theorem loops (n : Nat) : LoopsOk cfg (pick (cal n)) (lam n) fin (loopsOf cfg.blk code) := by
  have h : loopsOf cfg.blk code = [] := by kernel_rfl
  rw [h]
  intro p hp
  cases hp
theorem F_eq (n : Nat) (x0 : Int) (x1 : List (Int × Int × Int)) (x2 : List (Int)) : impl_FirstWay.F n x0 x1 x2 = exK cfg (pick (cal n)) (lam n) fin code (fun _ _ => none) (mkSt shp ((x0, x1, x2, ()), ())) fin := by
  kernel_rfl
def pfn (n : Nat) : PFn := mkFn shp outs (fun x => impl_FirstWay.F n x.1.1 x.1.2.1 x.1.2.2.1) out
theorem ok (n : Nat) : (pfn n).Ok Go.Proofs.Try.prog 21 :=
  mkFn_ok (fn := Go.Proofs.Try.f21) (code := code) Go.Proofs.Try.func21 (by kernel_rfl) (by decide) (C := cfg) (Φ := pick (cal n)) (Λ := lam n) (into := into) hT (cal_ok n) (by kernel_rfl) rfl (by decide) rfl (fun _ => rfl) (loops n)
    (fun x r h => by
      have e := F_eq n x.1.1 x.1.2.1 x.1.2.2.1
      exact e.symm.trans h)
end impl_FirstWay
end
/-! ### loop.example/g01158/spec.l2Joins -/
section
namespace spec_l2Joins
noncomputable def code : Code := (Go.Proofs.Try.f152.body).getD .skip
abbrev shp : Shape := [(0, .agg [.int .i64, .int .i64, .int .i64]), (1, .one (.int .i64)), (2, .one (.int .i64))]
abbrev outs : List KD := [.one (.bool)]
abbrev R : Type := Bool
def out : R → denL outs := fun r => (r, ())
def into : denL outs → R := fun y => y.1
def cfg : Cfg := ⟨ty, 29, [], fun _ => .plain, fun _ => none⟩
def cal (n : Nat) : List (Nat × PFn) := []
theorem cal_ok (n : Nat) : ∀ g, (pick (cal n) g).Ok Go.Proofs.Try.prog g := pick_ok (by
  intro p hp
  cases hp)
def fin : St → Option R := finOf ty [.tmp 6] outs into
def lam (n : Nat) : Nat → (St → Option R) → St → Option R := fun _ => fun _ _ => none
theorem loops (n : Nat) : LoopsOk cfg (pick (cal n)) (lam n) fin (loopsOf cfg.blk code) := by
  have h : loopsOf cfg.blk code = [] := by kernel_rfl
  rw [h]
  intro p hp
  cases hp
theorem F_eq (n : Nat) (x0 : Int) (x1 : Int) (x2 : Int) (x3 : Int) (x4 : Int) : spec_l2Joins.F n x0 x1 x2 x3 x4 = exK cfg (pick (cal n)) (lam n) fin code (fun _ _ => none) (mkSt shp ((x0, x1, x2, ()), x3, x4, ())) fin := by
  kernel_rfl
def pfn (n : Nat) : PFn := mkFn shp outs (fun x => spec_l2Joins.F n x.1.1 x.1.2.1 x.1.2.2.1 x.2.1 x.2.2.1) out
theorem ok (n : Nat) : (pfn n).Ok Go.Proofs.Try.prog 152 :=
  mkFn_ok (fn := Go.Proofs.Try.f152) (code := code) Go.Proofs.Try.func152 (by kernel_rfl) (by decide) (C := cfg) (Φ := pick (cal n)) (Λ := lam n) (into := into) hT (cal_ok n) (by kernel_rfl) rfl (by decide) rfl (fun _ => rfl) (loops n)
    (fun x r h => by
      have e := F_eq n x.1.1 x.1.2.1 x.1.2.2.1 x.2.1 x.2.2.1
      exact e.symm.trans h)
end spec_l2Joins
end
/-! ### loop.example/g01158/spec.l2Has -/
section
namespace spec_l2Has
noncomputable def code : Code := (Go.Proofs.Try.f139.body).getD .skip
abbrev shp : Shape := [(0, .one (.int .i64)), (1, .one (.int .i64))]
abbrev outs : List KD := [.one (.bool)]
abbrev R : Type := Bool
def out : R → denL outs := fun r => (r, ())
def into : denL outs → R := fun y => y.1
def cfg : Cfg := ⟨ty, 10, [], fun _ => .plain, fun _ => none⟩
def cal (n : Nat) : List (Nat × PFn) := []
theorem cal_ok (n : Nat) : ∀ g, (pick (cal n) g).Ok Go.Proofs.Try.prog g := pick_ok (by
  intro p hp
  cases hp)
def fin : St → Option R := finOf ty [.tmp 4] outs into
def lam (n : Nat) : Nat → (St → Option R) → St → Option R := fun _ => fun _ _ => none
theorem loops (n : Nat) : LoopsOk cfg (pick (cal n)) (lam n) fin (loopsOf cfg.blk code) := by
  have h : loopsOf cfg.blk code = [] := by kernel_rfl
  rw [h]
  intro p hp
  cases hp
theorem F_eq (n : Nat) (x0 : Int) (x1 : Int) : spec_l2Has.F n x0 x1 = exK cfg (pick (cal n)) (lam n) fin code (fun _ _ => none) (mkSt shp (x0, x1, ())) fin := by
  kernel_rfl
def pfn (n : Nat) : PFn := mkFn shp outs (fun x => spec_l2Has.F n x.1 x.2.1) out
theorem ok (n : Nat) : (pfn n).Ok Go.Proofs.Try.prog 139 :=
  mkFn_ok (fn := Go.Proofs.Try.f139) (code := code) Go.Proofs.Try.func139 (by kernel_rfl) (by decide) (C := cfg) (Φ := pick (cal n)) (Λ := lam n) (into := into) hT (cal_ok n) (by kernel_rfl) rfl (by decide) rfl (fun _ => rfl) (loops n)
    (fun x r h => by
      have e := F_eq n x.1 x.2.1
      exact e.symm.trans h)
end spec_l2Has
end
/-! ### loop.example/g01158/spec.l2Open -/
section
namespace spec_l2Open
noncomputable def code : Code := (Go.Proofs.Try.f130.body).getD .skip
abbrev shp : Shape := [(0, .agg [.int .i64, .row (.t3) false, .row (.int .i64) false]), (1, .one (.int .i64)), (2, .one (.int .i64)), (3, .one (.int .i64))]
abbrev outs : List KD := [.one (.bool)]
abbrev R : Type := Bool
def out : R → denL outs := fun r => (r, ())
def into : denL outs → R := fun y => y.1
def cfg : Cfg := ⟨ty, 35, [], fun i => match Nat.beq i 0 with | true => .loop | false => .plain, fun _ => none⟩
def cal (n : Nat) : List (Nat × PFn) := [(139, spec_l2Has.pfn n), (152, spec_l2Joins.pfn n)]
theorem cal_ok (n : Nat) : ∀ g, (pick (cal n) g).Ok Go.Proofs.Try.prog g := pick_ok (by
  intro p hp
  simp only [cal, List.mem_cons, List.not_mem_nil, or_false] at hp
  rcases hp with rfl | rfl
  · exact spec_l2Has.ok n
  · exact spec_l2Joins.ok n)
def fin : St → Option R := finOf ty [.tmp 8] outs into
abbrev sin0 : Shape := [(1, .one (.int .i64)), (2, .one (.int .i64)), (3, .one (.int .i64)), (4, .box true [.int .i64, .row (.t3) false, .row (.int .i64) false]), (9, .one (.int .i64))]
abbrev sout0 : Shape := []
def lam (n : Nat) : Nat → (St → Option R) → St → Option R := fun i => match Nat.beq i 0 with | true => (fun K st => match absSt sin0 st with | some (x, _) => spec_l2Open.l0 n (fun _ => K (mkSt sout0 ())) n x.1 x.2.1 x.2.2.1 x.2.2.2.1.1 x.2.2.2.1.2.1 x.2.2.2.1.2.2.1 x.2.2.2.2.1 | none => none) | false => fun _ _ => none
noncomputable def lps : List (Nat × Code) := loopsOf cfg.blk code
noncomputable def b0 : Code := bodyOf lps 0
theorem l0_eq (n : Nat) (K : St → Option R) : ∀ (j : Nat) (x0 : Int) (x1 : Int) (x2 : Int) (x3 : Int) (x4 : List (Int × Int × Int)) (x5 : List (Int)) (x6 : Int), spec_l2Open.l0 n (fun _ => K (mkSt sout0 ())) j x0 x1 x2 x3 x4 x5 x6 = iter (roundK cfg (pick (cal n)) (lam n) fin 0 b0 sin0 sout0 K) j (mkSt sin0 (x0, x1, x2, (x3, x4, x5, ()), x6, ()))
  | 0, _, _, _, _, _, _, _ => rfl
  | j + 1, x0, x1, x2, x3, x4, x5, x6 => by
    have ih : spec_l2Open.l0 n (fun _ => K (mkSt sout0 ())) j = fun x0 x1 x2 x3 x4 x5 x6 => iter (roundK cfg (pick (cal n)) (lam n) fin 0 b0 sin0 sout0 K) j (mkSt sin0 (x0, x1, x2, (x3, x4, x5, ()), x6, ())) := funext fun x0 => funext fun x1 => funext fun x2 => funext fun x3 => funext fun x4 => funext fun x5 => funext fun x6 => l0_eq n K j x0 x1 x2 x3 x4 x5 x6
    rw [spec_l2Open.l0, ih]
    show _ = roundK cfg (pick (cal n)) (lam n) fin 0 b0 sin0 sout0 K (iter (roundK cfg (pick (cal n)) (lam n) fin 0 b0 sin0 sout0 K) j) (mkSt sin0 (x0, x1, x2, (x3, x4, x5, ()), x6, ()))
    kernel_rfl
theorem loops (n : Nat) : LoopsOk cfg (pick (cal n)) (lam n) fin (loopsOf cfg.blk code) := by
  have h : loopsOf cfg.blk code = [(0, b0)] := by kernel_rfl
  rw [h]
  intro p hp K st r hr
  simp only [List.mem_cons, List.not_mem_nil, or_false] at hp
  rcases hp with rfl
  · have hr' : (match absSt sin0 st with | some (x, _) => spec_l2Open.l0 n (fun _ => K (mkSt sout0 ())) n x.1 x.2.1 x.2.2.1 x.2.2.2.1.1 x.2.2.2.1.2.1 x.2.2.2.1.2.2.1 x.2.2.2.2.1 | none => none) = some r := hr
    split at hr'
    · rename_i x es hx
      rw [l0_eq] at hr'
      exact ⟨sin0, sout0, n, x, es, hx, hr'⟩
    · cases hr'
theorem F_eq (n : Nat) (x0 : Int) (x1 : List (Int × Int × Int)) (x2 : List (Int)) (x3 : Int) (x4 : Int) (x5 : Int) : spec_l2Open.F n x0 x1 x2 x3 x4 x5 = exK cfg (pick (cal n)) (lam n) fin code (fun _ _ => none) (mkSt shp ((x0, x1, x2, ()), x3, x4, x5, ())) fin := by
  kernel_rfl
def pfn (n : Nat) : PFn := mkFn shp outs (fun x => spec_l2Open.F n x.1.1 x.1.2.1 x.1.2.2.1 x.2.1 x.2.2.1 x.2.2.2.1) out
theorem ok (n : Nat) : (pfn n).Ok Go.Proofs.Try.prog 130 :=
  mkFn_ok (fn := Go.Proofs.Try.f130) (code := code) Go.Proofs.Try.func130 (by kernel_rfl) (by decide) (C := cfg) (Φ := pick (cal n)) (Λ := lam n) (into := into) hT (cal_ok n) (by kernel_rfl) rfl (by decide) rfl (fun _ => rfl) (loops n)
    (fun x r h => by
      have e := F_eq n x.1.1 x.1.2.1 x.1.2.2.1 x.2.1 x.2.2.1 x.2.2.2.1
      exact e.symm.trans h)
end spec_l2Open
end
/-! ### loop.example/g01158/spec.l4Id -/
section
namespace spec_l4Id
noncomputable def code : Code := (Go.Proofs.Try.f70.body).getD .skip
abbrev shp : Shape := [(0, .one (.int .i64)), (1, .one (.int .i64))]
abbrev outs : List KD := [.one (.int .i64)]
abbrev R : Type := Int
def out : R → denL outs := fun r => (r, ())
def into : denL outs → R := fun y => y.1
def cfg : Cfg := ⟨ty, 9, [], fun _ => .plain, fun _ => none⟩
def cal (n : Nat) : List (Nat × PFn) := []
theorem cal_ok (n : Nat) : ∀ g, (pick (cal n) g).Ok Go.Proofs.Try.prog g := pick_ok (by
  intro p hp
  cases hp)
def fin : St → Option R := finOf ty [.tmp 4] outs into
def lam (n : Nat) : Nat → (St → Option R) → St → Option R := fun _ => fun _ _ => none
theorem loops (n : Nat) : LoopsOk cfg (pick (cal n)) (lam n) fin (loopsOf cfg.blk code) := by
  have h : loopsOf cfg.blk code = [] := by kernel_rfl
  rw [h]
  intro p hp
  cases hp
theorem F_eq (n : Nat) (x0 : Int) (x1 : Int) : spec_l4Id.F n x0 x1 = exK cfg (pick (cal n)) (lam n) fin code (fun _ _ => none) (mkSt shp (x0, x1, ())) fin := by
  kernel_rfl
def pfn (n : Nat) : PFn := mkFn shp outs (fun x => spec_l4Id.F n x.1 x.2.1) out
theorem ok (n : Nat) : (pfn n).Ok Go.Proofs.Try.prog 70 :=
  mkFn_ok (fn := Go.Proofs.Try.f70) (code := code) Go.Proofs.Try.func70 (by kernel_rfl) (by decide) (C := cfg) (Φ := pick (cal n)) (Λ := lam n) (into := into) hT (cal_ok n) (by kernel_rfl) rfl (by decide) rfl (fun _ => rfl) (loops n)
    (fun x r h => by
      have e := F_eq n x.1 x.2.1
      exact e.symm.trans h)
end spec_l4Id
end
/-! ### loop.example/g01158/spec.l4Step -/
section
namespace spec_l4Step
noncomputable def code : Code := (Go.Proofs.Try.f71.body).getD .skip
abbrev shp : Shape := [(0, .agg [.int .i64, .row (.t3) false, .row (.int .i64) false]), (1, .one (.int .i64)), (2, .one (.int .i64))]
abbrev outs : List KD := [.one (.row (.int .i64) true)]
abbrev R : Type := (List (Int))
def out : R → denL outs := fun r => (r, ())
def into : denL outs → R := fun y => y.1
def cfg : Cfg := ⟨ty, 34, [], fun i => match Nat.beq i 0 with | true => .loop | false => .plain, fun _ => none⟩
def cal (n : Nat) : List (Nat × PFn) := [(70, spec_l4Id.pfn n), (130, spec_l2Open.pfn n)]
theorem cal_ok (n : Nat) : ∀ g, (pick (cal n) g).Ok Go.Proofs.Try.prog g := pick_ok (by
  intro p hp
  simp only [cal, List.mem_cons, List.not_mem_nil, or_false] at hp
  rcases hp with rfl | rfl
  · exact spec_l4Id.ok n
  · exact spec_l2Open.ok n)
def fin : St → Option R := finOf ty [.tmp 6] outs into
abbrev sin0 : Shape := [(1, .one (.int .i64)), (2, .one (.int .i64)), (3, .box true [.int .i64, .row (.t3) false, .row (.int .i64) false]), (7, .one (.row (.int .i64) true)), (8, .one (.int .i64))]
abbrev sout0 : Shape := [(7, .one (.row (.int .i64) true))]
def lam (n : Nat) : Nat → (St → Option R) → St → Option R := fun i => match Nat.beq i 0 with | true => (fun K st => match absSt sin0 st with | some (x, _) => spec_l4Step.l0 n (fun y0 => K (mkSt sout0 (y0, ()))) n x.1 x.2.1 x.2.2.1.1 x.2.2.1.2.1 x.2.2.1.2.2.1 x.2.2.2.1 x.2.2.2.2.1 | none => none) | false => fun _ _ => none
noncomputable def lps : List (Nat × Code) := loopsOf cfg.blk code
noncomputable def b0 : Code := bodyOf lps 0
theorem l0_eq (n : Nat) (K : St → Option R) : ∀ (j : Nat) (x0 : Int) (x1 : Int) (x2 : Int) (x3 : List (Int × Int × Int)) (x4 : List (Int)) (x5 : List (Int)) (x6 : Int), spec_l4Step.l0 n (fun y0 => K (mkSt sout0 (y0, ()))) j x0 x1 x2 x3 x4 x5 x6 = iter (roundK cfg (pick (cal n)) (lam n) fin 0 b0 sin0 sout0 K) j (mkSt sin0 (x0, x1, (x2, x3, x4, ()), x5, x6, ()))
  | 0, _, _, _, _, _, _, _ => rfl
  | j + 1, x0, x1, x2, x3, x4, x5, x6 => by
    have ih : spec_l4Step.l0 n (fun y0 => K (mkSt sout0 (y0, ()))) j = fun x0 x1 x2 x3 x4 x5 x6 => iter (roundK cfg (pick (cal n)) (lam n) fin 0 b0 sin0 sout0 K) j (mkSt sin0 (x0, x1, (x2, x3, x4, ()), x5, x6, ())) := funext fun x0 => funext fun x1 => funext fun x2 => funext fun x3 => funext fun x4 => funext fun x5 => funext fun x6 => l0_eq n K j x0 x1 x2 x3 x4 x5 x6
    rw [spec_l4Step.l0, ih]
    show _ = roundK cfg (pick (cal n)) (lam n) fin 0 b0 sin0 sout0 K (iter (roundK cfg (pick (cal n)) (lam n) fin 0 b0 sin0 sout0 K) j) (mkSt sin0 (x0, x1, (x2, x3, x4, ()), x5, x6, ()))
    kernel_rfl
theorem loops (n : Nat) : LoopsOk cfg (pick (cal n)) (lam n) fin (loopsOf cfg.blk code) := by
  have h : loopsOf cfg.blk code = [(0, b0)] := by kernel_rfl
  rw [h]
  intro p hp K st r hr
  simp only [List.mem_cons, List.not_mem_nil, or_false] at hp
  rcases hp with rfl
  · have hr' : (match absSt sin0 st with | some (x, _) => spec_l4Step.l0 n (fun y0 => K (mkSt sout0 (y0, ()))) n x.1 x.2.1 x.2.2.1.1 x.2.2.1.2.1 x.2.2.1.2.2.1 x.2.2.2.1 x.2.2.2.2.1 | none => none) = some r := hr
    split at hr'
    · rename_i x es hx
      rw [l0_eq] at hr'
      exact ⟨sin0, sout0, n, x, es, hx, hr'⟩
    · cases hr'
theorem F_eq (n : Nat) (x0 : Int) (x1 : List (Int × Int × Int)) (x2 : List (Int)) (x3 : Int) (x4 : Int) : spec_l4Step.F n x0 x1 x2 x3 x4 = exK cfg (pick (cal n)) (lam n) fin code (fun _ _ => none) (mkSt shp ((x0, x1, x2, ()), x3, x4, ())) fin := by
  kernel_rfl
def pfn (n : Nat) : PFn := mkFn shp outs (fun x => spec_l4Step.F n x.1.1 x.1.2.1 x.1.2.2.1 x.2.1 x.2.2.1) out
theorem ok (n : Nat) : (pfn n).Ok Go.Proofs.Try.prog 71 :=
  mkFn_ok (fn := Go.Proofs.Try.f71) (code := code) Go.Proofs.Try.func71 (by kernel_rfl) (by decide) (C := cfg) (Φ := pick (cal n)) (Λ := lam n) (into := into) hT (cal_ok n) (by kernel_rfl) rfl (by decide) rfl (fun _ => rfl) (loops n)
    (fun x r h => by
      have e := F_eq n x.1.1 x.1.2.1 x.1.2.2.1 x.2.1 x.2.2.1
      exact e.symm.trans h)
end spec_l4Step
end
/-! ### loop.example/g01158/spec.l4Remain -/
section
namespace spec_l4Remain
noncomputable def code : Code := (Go.Proofs.Try.f69.body).getD .skip
abbrev shp : Shape := [(0, .agg [.int .i64, .row (.t3) false, .row (.int .i64) false])]
abbrev outs : List KD := [.one (.row (.int .i64) true)]
abbrev R : Type := (List (Int))
def out : R → denL outs := fun r => (r, ())
def into : denL outs → R := fun y => y.1
def cfg : Cfg := ⟨ty, 88, [], fun i => match Nat.beq i 0 with | true => .loop | false => match Nat.beq i 6 with | true => .loop | false => match Nat.beq i 4 with | true => .loop | false => match Nat.beq i 2 with | true => .loop | false => .plain, fun _ => none⟩
def cal (n : Nat) : List (Nat × PFn) := [(71, spec_l4Step.pfn n)]
theorem cal_ok (n : Nat) : ∀ g, (pick (cal n) g).Ok Go.Proofs.Try.prog g := pick_ok (by
  intro p hp
  simp only [cal, List.mem_cons, List.not_mem_nil, or_false] at hp
  rcases hp with rfl
  · exact spec_l4Step.ok n)
def fin : St → Option R := finOf ty [.tmp 2] outs into
abbrev sin0 : Shape := [(1, .box true [.int .i64, .row (.t3) false, .row (.int .i64) false]), (3, .one (.row (.int .i64) true)), (4, .one (.int .i64))]
abbrev sout0 : Shape := [(1, .box true [.int .i64, .row (.t3) false, .row (.int .i64) false]), (3, .one (.row (.int .i64) true))]
abbrev sin6 : Shape := [(1, .box true [.int .i64, .row (.t3) false, .row (.int .i64) false]), (3, .one (.row (.int .i64) true)), (5, .one (.int .i64)), (6, .one (.bool)), (7, .one (.int .i64)), (8, .one (.row (.int .i64) true)), (9, .one (.int .i64))]
abbrev sout6 : Shape := [(1, .box true [.int .i64, .row (.t3) false, .row (.int .i64) false]), (3, .one (.row (.int .i64) true)), (5, .one (.int .i64)), (6, .one (.bool)), (7, .one (.int .i64))]
abbrev sin4 : Shape := [(1, .box true [.int .i64, .row (.t3) false, .row (.int .i64) false]), (3, .one (.row (.int .i64) true)), (5, .one (.int .i64)), (6, .one (.bool)), (7, .one (.int .i64))]
abbrev sout4 : Shape := [(1, .box true [.int .i64, .row (.t3) false, .row (.int .i64) false]), (3, .one (.row (.int .i64) true)), (5, .one (.int .i64)), (6, .one (.bool))]
abbrev sin2 : Shape := [(1, .box true [.int .i64, .row (.t3) false, .row (.int .i64) false]), (3, .one (.row (.int .i64) true)), (5, .one (.int .i64))]
abbrev sout2 : Shape := [(3, .one (.row (.int .i64) true))]
def lam (n : Nat) : Nat → (St → Option R) → St → Option R := fun i => match Nat.beq i 0 with | true => (fun K st => match absSt sin0 st with | some (x, _) => spec_l4Remain.l0 n (fun y0 y1 y2 y3 => K (mkSt sout0 ((y0, y1, y2, ()), y3, ()))) n x.1.1 x.1.2.1 x.1.2.2.1 x.2.1 x.2.2.1 | none => none) | false => match Nat.beq i 6 with | true => (fun K st => match absSt sin6 st with | some (x, _) => spec_l4Remain.l6 n (fun y0 y1 y2 y3 y4 y5 y6 => K (mkSt sout6 ((y0, y1, y2, ()), y3, y4, y5, y6, ()))) n x.1.1 x.1.2.1 x.1.2.2.1 x.2.1 x.2.2.1 x.2.2.2.1 x.2.2.2.2.1 x.2.2.2.2.2.1 x.2.2.2.2.2.2.1 | none => none) | false => match Nat.beq i 4 with | true => (fun K st => match absSt sin4 st with | some (x, _) => spec_l4Remain.l4 n (fun y0 y1 y2 y3 y4 y5 => K (mkSt sout4 ((y0, y1, y2, ()), y3, y4, y5, ()))) n x.1.1 x.1.2.1 x.1.2.2.1 x.2.1 x.2.2.1 x.2.2.2.1 x.2.2.2.2.1 | none => none) | false => match Nat.beq i 2 with | true => (fun K st => match absSt sin2 st with | some (x, _) => spec_l4Remain.l2 n (fun y0 => K (mkSt sout2 (y0, ()))) n x.1.1 x.1.2.1 x.1.2.2.1 x.2.1 x.2.2.1 | none => none) | false => fun _ _ => none
noncomputable def lps : List (Nat × Code) := loopsOf cfg.blk code
noncomputable def b0 : Code := bodyOf lps 0
theorem l0_eq (n : Nat) (K : St → Option R) : ∀ (j : Nat) (x0 : Int) (x1 : List (Int × Int × Int)) (x2 : List (Int)) (x3 : List (Int)) (x4 : Int), spec_l4Remain.l0 n (fun y0 y1 y2 y3 => K (mkSt sout0 ((y0, y1, y2, ()), y3, ()))) j x0 x1 x2 x3 x4 = iter (roundK cfg (pick (cal n)) (lam n) fin 0 b0 sin0 sout0 K) j (mkSt sin0 ((x0, x1, x2, ()), x3, x4, ()))
  | 0, _, _, _, _, _ => rfl
  | j + 1, x0, x1, x2, x3, x4 => by
    have ih : spec_l4Remain.l0 n (fun y0 y1 y2 y3 => K (mkSt sout0 ((y0, y1, y2, ()), y3, ()))) j = fun x0 x1 x2 x3 x4 => iter (roundK cfg (pick (cal n)) (lam n) fin 0 b0 sin0 sout0 K) j (mkSt sin0 ((x0, x1, x2, ()), x3, x4, ())) := funext fun x0 => funext fun x1 => funext fun x2 => funext fun x3 => funext fun x4 => l0_eq n K j x0 x1 x2 x3 x4
    rw [spec_l4Remain.l0, ih]
    show _ = roundK cfg (pick (cal n)) (lam n) fin 0 b0 sin0 sout0 K (iter (roundK cfg (pick (cal n)) (lam n) fin 0 b0 sin0 sout0 K) j) (mkSt sin0 ((x0, x1, x2, ()), x3, x4, ()))
    kernel_rfl
noncomputable def b6 : Code := bodyOf lps 6
theorem l6_eq (n : Nat) (K : St → Option R) : ∀ (j : Nat) (x0 : Int) (x1 : List (Int × Int × Int)) (x2 : List (Int)) (x3 : List (Int)) (x4 : Int) (x5 : Bool) (x6 : Int) (x7 : List (Int)) (x8 : Int), spec_l4Remain.l6 n (fun y0 y1 y2 y3 y4 y5 y6 => K (mkSt sout6 ((y0, y1, y2, ()), y3, y4, y5, y6, ()))) j x0 x1 x2 x3 x4 x5 x6 x7 x8 = iter (roundK cfg (pick (cal n)) (lam n) fin 6 b6 sin6 sout6 K) j (mkSt sin6 ((x0, x1, x2, ()), x3, x4, x5, x6, x7, x8, ()))
  | 0, _, _, _, _, _, _, _, _, _ => rfl
  | j + 1, x0, x1, x2, x3, x4, x5, x6, x7, x8 => by
    have ih : spec_l4Remain.l6 n (fun y0 y1 y2 y3 y4 y5 y6 => K (mkSt sout6 ((y0, y1, y2, ()), y3, y4, y5, y6, ()))) j = fun x0 x1 x2 x3 x4 x5 x6 x7 x8 => iter (roundK cfg (pick (cal n)) (lam n) fin 6 b6 sin6 sout6 K) j (mkSt sin6 ((x0, x1, x2, ()), x3, x4, x5, x6, x7, x8, ())) := funext fun x0 => funext fun x1 => funext fun x2 => funext fun x3 => funext fun x4 => funext fun x5 => funext fun x6 => funext fun x7 => funext fun x8 => l6_eq n K j x0 x1 x2 x3 x4 x5 x6 x7 x8
    rw [spec_l4Remain.l6, ih]
    show _ = roundK cfg (pick (cal n)) (lam n) fin 6 b6 sin6 sout6 K (iter (roundK cfg (pick (cal n)) (lam n) fin 6 b6 sin6 sout6 K) j) (mkSt sin6 ((x0, x1, x2, ()), x3, x4, x5, x6, x7, x8, ()))
    kernel_rfl
noncomputable def b4 : Code := bodyOf lps 4
theorem l4_eq (n : Nat) (K : St → Option R) : ∀ (j : Nat) (x0 : Int) (x1 : List (Int × Int × Int)) (x2 : List (Int)) (x3 : List (Int)) (x4 : Int) (x5 : Bool) (x6 : Int), spec_l4Remain.l4 n (fun y0 y1 y2 y3 y4 y5 => K (mkSt sout4 ((y0, y1, y2, ()), y3, y4, y5, ()))) j x0 x1 x2 x3 x4 x5 x6 = iter (roundK cfg (pick (cal n)) (lam n) fin 4 b4 sin4 sout4 K) j (mkSt sin4 ((x0, x1, x2, ()), x3, x4, x5, x6, ()))
  | 0, _, _, _, _, _, _, _ => rfl
  | j + 1, x0, x1, x2, x3, x4, x5, x6 => by
    have ih : spec_l4Remain.l4 n (fun y0 y1 y2 y3 y4 y5 => K (mkSt sout4 ((y0, y1, y2, ()), y3, y4, y5, ()))) j = fun x0 x1 x2 x3 x4 x5 x6 => iter (roundK cfg (pick (cal n)) (lam n) fin 4 b4 sin4 sout4 K) j (mkSt sin4 ((x0, x1, x2, ()), x3, x4, x5, x6, ())) := funext fun x0 => funext fun x1 => funext fun x2 => funext fun x3 => funext fun x4 => funext fun x5 => funext fun x6 => l4_eq n K j x0 x1 x2 x3 x4 x5 x6
    rw [spec_l4Remain.l4, ih]
    show _ = roundK cfg (pick (cal n)) (lam n) fin 4 b4 sin4 sout4 K (iter (roundK cfg (pick (cal n)) (lam n) fin 4 b4 sin4 sout4 K) j) (mkSt sin4 ((x0, x1, x2, ()), x3, x4, x5, x6, ()))
    kernel_rfl
noncomputable def b2 : Code := bodyOf lps 2
theorem l2_eq (n : Nat) (K : St → Option R) : ∀ (j : Nat) (x0 : Int) (x1 : List (Int × Int × Int)) (x2 : List (Int)) (x3 : List (Int)) (x4 : Int), spec_l4Remain.l2 n (fun y0 => K (mkSt sout2 (y0, ()))) j x0 x1 x2 x3 x4 = iter (roundK cfg (pick (cal n)) (lam n) fin 2 b2 sin2 sout2 K) j (mkSt sin2 ((x0, x1, x2, ()), x3, x4, ()))
  | 0, _, _, _, _, _ => rfl
  | j + 1, x0, x1, x2, x3, x4 => by
    have ih : spec_l4Remain.l2 n (fun y0 => K (mkSt sout2 (y0, ()))) j = fun x0 x1 x2 x3 x4 => iter (roundK cfg (pick (cal n)) (lam n) fin 2 b2 sin2 sout2 K) j (mkSt sin2 ((x0, x1, x2, ()), x3, x4, ())) := funext fun x0 => funext fun x1 => funext fun x2 => funext fun x3 => funext fun x4 => l2_eq n K j x0 x1 x2 x3 x4
    rw [spec_l4Remain.l2, ih]
    show _ = roundK cfg (pick (cal n)) (lam n) fin 2 b2 sin2 sout2 K (iter (roundK cfg (pick (cal n)) (lam n) fin 2 b2 sin2 sout2 K) j) (mkSt sin2 ((x0, x1, x2, ()), x3, x4, ()))
    kernel_rfl
theorem loops (n : Nat) : LoopsOk cfg (pick (cal n)) (lam n) fin (loopsOf cfg.blk code) := by
  have h : loopsOf cfg.blk code = [(0, b0), (2, b2), (4, b4), (6, b6)] := by kernel_rfl
  rw [h]
  intro p hp K st r hr
  simp only [List.mem_cons, List.not_mem_nil, or_false] at hp
  rcases hp with rfl | rfl | rfl | rfl
  · have hr' : (match absSt sin0 st with | some (x, _) => spec_l4Remain.l0 n (fun y0 y1 y2 y3 => K (mkSt sout0 ((y0, y1, y2, ()), y3, ()))) n x.1.1 x.1.2.1 x.1.2.2.1 x.2.1 x.2.2.1 | none => none) = some r := hr
    split at hr'
    · rename_i x es hx
      rw [l0_eq] at hr'
      exact ⟨sin0, sout0, n, x, es, hx, hr'⟩
    · cases hr'
  · have hr' : (match absSt sin2 st with | some (x, _) => spec_l4Remain.l2 n (fun y0 => K (mkSt sout2 (y0, ()))) n x.1.1 x.1.2.1 x.1.2.2.1 x.2.1 x.2.2.1 | none => none) = some r := hr
    split at hr'
    · rename_i x es hx
      rw [l2_eq] at hr'
      exact ⟨sin2, sout2, n, x, es, hx, hr'⟩
    · cases hr'
  · have hr' : (match absSt sin4 st with | some (x, _) => spec_l4Remain.l4 n (fun y0 y1 y2 y3 y4 y5 => K (mkSt sout4 ((y0, y1, y2, ()), y3, y4, y5, ()))) n x.1.1 x.1.2.1 x.1.2.2.1 x.2.1 x.2.2.1 x.2.2.2.1 x.2.2.2.2.1 | none => none) = some r := hr
    split at hr'
    · rename_i x es hx
      rw [l4_eq] at hr'
      exact ⟨sin4, sout4, n, x, es, hx, hr'⟩
    · cases hr'
  · have hr' : (match absSt sin6 st with | some (x, _) => spec_l4Remain.l6 n (fun y0 y1 y2 y3 y4 y5 y6 => K (mkSt sout6 ((y0, y1, y2, ()), y3, y4, y5, y6, ()))) n x.1.1 x.1.2.1 x.1.2.2.1 x.2.1 x.2.2.1 x.2.2.2.1 x.2.2.2.2.1 x.2.2.2.2.2.1 x.2.2.2.2.2.2.1 | none => none) = some r := hr
    split at hr'
    · rename_i x es hx
      rw [l6_eq] at hr'
      exact ⟨sin6, sout6, n, x, es, hx, hr'⟩
    · cases hr'
theorem F_eq (n : Nat) (x0 : Int) (x1 : List (Int × Int × Int)) (x2 : List (Int)) : spec_l4Remain.F n x0 x1 x2 = exK cfg (pick (cal n)) (lam n) fin code (fun _ _ => none) (mkSt shp ((x0, x1, x2, ()), ())) fin := by
  kernel_rfl
def pfn (n : Nat) : PFn := mkFn shp outs (fun x => spec_l4Remain.F n x.1.1 x.1.2.1 x.1.2.2.1) out
theorem ok (n : Nat) : (pfn n).Ok Go.Proofs.Try.prog 69 :=
  mkFn_ok (fn := Go.Proofs.Try.f69) (code := code) Go.Proofs.Try.func69 (by kernel_rfl) (by decide) (C := cfg) (Φ := pick (cal n)) (Λ := lam n) (into := into) hT (cal_ok n) (by kernel_rfl) rfl (by decide) rfl (fun _ => rfl) (loops n)
    (fun x r h => by
      have e := F_eq n x.1.1 x.1.2.1 x.1.2.2.1
      exact e.symm.trans h)
end spec_l4Remain
end
/-! ### loop.example/g01158/spec.FirstWay -/
section
namespace spec_FirstWay
noncomputable def code : Code := (Go.Proofs.Try.f20.body).getD .skip
abbrev shp : Shape := [(0, .agg [.int .i64, .row (.t3) false, .row (.int .i64) false])]
abbrev outs : List KD := [.one (.row (.int .i64) true), .one (.bool)]
abbrev R : Type := (List (Int)) × Bool
def out : R → denL outs := fun r => (r.1, r.2, ())
def into : denL outs → R := fun y => (y.1, y.2.1)
def cfg : Cfg := ⟨ty, 66, [], fun i => match Nat.beq i 2 with | true => .loop | false => match Nat.beq i 0 with | true => .loop | false => .plain, fun _ => none⟩
def cal (n : Nat) : List (Nat × PFn) := [(68, spec_l2Maze.pfn n), (69, spec_l4Remain.pfn n), (70, spec_l4Id.pfn n), (71, spec_l4Step.pfn n)]
theorem cal_ok (n : Nat) : ∀ g, (pick (cal n) g).Ok Go.Proofs.Try.prog g := pick_ok (by
  intro p hp
  simp only [cal, List.mem_cons, List.not_mem_nil, or_false] at hp
  rcases hp with rfl | rfl | rfl | rfl
  · exact spec_l2Maze.ok n
  · exact spec_l4Remain.ok n
  · exact spec_l4Id.ok n
  · exact spec_l4Step.ok n)
def fin : St → Option R := finOf ty [.tmp 2, .tmp 3] outs into
abbrev sin2 : Shape := [(1, .box true [.int .i64, .row (.t3) false, .row (.int .i64) false]), (4, .one (.row (.int .i64) true)), (5, .one (.row (.int .i64) true)), (6, .one (.int .i64)), (7, .one (.row (.int .i64) true)), (8, .one (.int .i64))]
abbrev sout2 : Shape := [(1, .box true [.int .i64, .row (.t3) false, .row (.int .i64) false]), (4, .one (.row (.int .i64) true)), (5, .one (.row (.int .i64) true)), (7, .one (.row (.int .i64) true)), (8, .one (.int .i64))]
abbrev sin0 : Shape := [(1, .box true [.int .i64, .row (.t3) false, .row (.int .i64) false]), (4, .one (.row (.int .i64) true)), (5, .one (.row (.int .i64) true)), (6, .one (.int .i64))]
abbrev sout0 : Shape := [(4, .one (.row (.int .i64) true))]
def lam (n : Nat) : Nat → (St → Option R) → St → Option R := fun i => match Nat.beq i 2 with | true => (fun K st => match absSt sin2 st with | some (x, _) => spec_FirstWay.l2 n (fun y0 y1 y2 y3 y4 y5 y6 => K (mkSt sout2 ((y0, y1, y2, ()), y3, y4, y5, y6, ()))) n x.1.1 x.1.2.1 x.1.2.2.1 x.2.1 x.2.2.1 x.2.2.2.1 x.2.2.2.2.1 x.2.2.2.2.2.1 | none => none) | false => match Nat.beq i 0 with | true => (fun K st => match absSt sin0 st with | some (x, _) => spec_FirstWay.l0 n (fun y0 => K (mkSt sout0 (y0, ()))) n x.1.1 x.1.2.1 x.1.2.2.1 x.2.1 x.2.2.1 x.2.2.2.1 | none => none) | false => fun _ _ => none
noncomputable def lps : List (Nat × Code) := loopsOf cfg.blk code
noncomputable def b2 : Code := bodyOf lps 2
theorem l2_eq (n : Nat) (K : St → Option R) : ∀ (j : Nat) (x0 : Int) (x1 : List (Int × Int × Int)) (x2 : List (Int)) (x3 : List (Int)) (x4 : List (Int)) (x5 : Int) (x6 : List (Int)) (x7 : Int), spec_FirstWay.l2 n (fun y0 y1 y2 y3 y4 y5 y6 => K (mkSt sout2 ((y0, y1, y2, ()), y3, y4, y5, y6, ()))) j x0 x1 x2 x3 x4 x5 x6 x7 = iter (roundK cfg (pick (cal n)) (lam n) fin 2 b2 sin2 sout2 K) j (mkSt sin2 ((x0, x1, x2, ()), x3, x4, x5, x6, x7, ()))
  | 0, _, _, _, _, _, _, _, _ => rfl
  | j + 1, x0, x1, x2, x3, x4, x5, x6, x7 => by
    have ih : spec_FirstWay.l2 n (fun y0 y1 y2 y3 y4 y5 y6 => K (mkSt sout2 ((y0, y1, y2, ()), y3, y4, y5, y6, ()))) j = fun x0 x1 x2 x3 x4 x5 x6 x7 => iter (roundK cfg (pick (cal n)) (lam n) fin 2 b2 sin2 sout2 K) j (mkSt sin2 ((x0, x1, x2, ()), x3, x4, x5, x6, x7, ())) := funext fun x0 => funext fun x1 => funext fun x2 => funext fun x3 => funext fun x4 => funext fun x5 => funext fun x6 => funext fun x7 => l2_eq n K j x0 x1 x2 x3 x4 x5 x6 x7
    rw [spec_FirstWay.l2, ih]
    show _ = roundK cfg (pick (cal n)) (lam n) fin 2 b2 sin2 sout2 K (iter (roundK cfg (pick (cal n)) (lam n) fin 2 b2 sin2 sout2 K) j) (mkSt sin2 ((x0, x1, x2, ()), x3, x4, x5, x6, x7, ()))
    kernel_rfl
noncomputable def b0 : Code := bodyOf lps 0
theorem l0_eq (n : Nat) (K : St → Option R) : ∀ (j : Nat) (x0 : Int) (x1 : List (Int × Int × Int)) (x2 : List (Int)) (x3 : List (Int)) (x4 : List (Int)) (x5 : Int), spec_FirstWay.l0 n (fun y0 => K (mkSt sout0 (y0, ()))) j x0 x1 x2 x3 x4 x5 = iter (roundK cfg (pick (cal n)) (lam n) fin 0 b0 sin0 sout0 K) j (mkSt sin0 ((x0, x1, x2, ()), x3, x4, x5, ()))
  | 0, _, _, _, _, _, _ => rfl
  | j + 1, x0, x1, x2, x3, x4, x5 => by
    have ih : spec_FirstWay.l0 n (fun y0 => K (mkSt sout0 (y0, ()))) j = fun x0 x1 x2 x3 x4 x5 => iter (roundK cfg (pick (cal n)) (lam n) fin 0 b0 sin0 sout0 K) j (mkSt sin0 ((x0, x1, x2, ()), x3, x4, x5, ())) := funext fun x0 => funext fun x1 => funext fun x2 => funext fun x3 => funext fun x4 => funext fun x5 => l0_eq n K j x0 x1 x2 x3 x4 x5
    rw [spec_FirstWay.l0, ih]
    show _ = roundK cfg (pick (cal n)) (lam n) fin 0 b0 sin0 sout0 K (iter (roundK cfg (pick (cal n)) (lam n) fin 0 b0 sin0 sout0 K) j) (mkSt sin0 ((x0, x1, x2, ()), x3, x4, x5, ()))
    kernel_rfl
theorem loops (n : Nat) : LoopsOk cfg (pick (cal n)) (lam n) fin (loopsOf cfg.blk code) := by
  have h : loopsOf cfg.blk code = [(0, b0), (2, b2)] := by kernel_rfl
  rw [h]
  intro p hp K st r hr
  simp only [List.mem_cons, List.not_mem_nil, or_false] at hp
  rcases hp with rfl | rfl
  · have hr' : (match absSt sin0 st with | some (x, _) => spec_FirstWay.l0 n (fun y0 => K (mkSt sout0 (y0, ()))) n x.1.1 x.1.2.1 x.1.2.2.1 x.2.1 x.2.2.1 x.2.2.2.1 | none => none) = some r := hr
    split at hr'
    · rename_i x es hx
      rw [l0_eq] at hr'
      exact ⟨sin0, sout0, n, x, es, hx, hr'⟩
    · cases hr'
  · have hr' : (match absSt sin2 st with | some (x, _) => spec_FirstWay.l2 n (fun y0 y1 y2 y3 y4 y5 y6 => K (mkSt sout2 ((y0, y1, y2, ()), y3, y4, y5, y6, ()))) n x.1.1 x.1.2.1 x.1.2.2.1 x.2.1 x.2.2.1 x.2.2.2.1 x.2.2.2.2.1 x.2.2.2.2.2.1 | none => none) = some r := hr
    split at hr'
    · rename_i x es hx
      rw [l2_eq] at hr'
      exact ⟨sin2, sout2, n, x, es, hx, hr'⟩
    · cases hr'
theorem F_eq (n : Nat) (x0 : Int) (x1 : List (Int × Int × Int)) (x2 : List (Int)) : spec_FirstWay.F n x0 x1 x2 = exK cfg (pick (cal n)) (lam n) fin code (fun _ _ => none) (mkSt shp ((x0, x1, x2, ()), ())) fin := by
  kernel_rfl
def pfn (n : Nat) : PFn := mkFn shp outs (fun x => spec_FirstWay.F n x.1.1 x.1.2.1 x.1.2.2.1) out
theorem ok (n : Nat) : (pfn n).Ok Go.Proofs.Try.prog 20 :=
  mkFn_ok (fn := Go.Proofs.Try.f20) (code := code) Go.Proofs.Try.func20 (by kernel_rfl) (by decide) (C := cfg) (Φ := pick (cal n)) (Λ := lam n) (into := into) hT (cal_ok n) (by kernel_rfl) rfl (by decide) rfl (fun _ => rfl) (loops n)
    (fun x r h => by
      have e := F_eq n x.1.1 x.1.2.1 x.1.2.2.1
      exact e.symm.trans h)
end spec_FirstWay
end
/-! ### loop.example/g01158/impl.taken -/
section
namespace impl_taken
noncomputable def code : Code := (Go.Proofs.Try.f115.body).getD .skip
abbrev shp : Shape := [(0, .agg [.int .i64, .row (.t3) false, .row (.int .i64) false]), (1, .one (.row (.int .i64) false))]
abbrev outs : List KD := [.one (.row (.int .i64) true), .one (.bool)]
abbrev R : Type := (List (Int)) × Bool
def out : R → denL outs := fun r => (r.1, r.2, ())
def into : denL outs → R := fun y => (y.1, y.2.1)
def cfg : Cfg := ⟨ty, 64, [], fun i => match Nat.beq i 0 with | true => .loop | false => .plain, fun i => match Nat.beq i 3 with | true => some [(1, .one (.row (.int .i64) false)), (2, .box true [.int .i64, .row (.t3) false, .row (.int .i64) false])] | false => none⟩
def cal (n : Nat) : List (Nat × PFn) := [(77, impl_steps.pfn n), (84, impl_within.pfn n)]
theorem cal_ok (n : Nat) : ∀ g, (pick (cal n) g).Ok Go.Proofs.Try.prog g := pick_ok (by
  intro p hp
  simp only [cal, List.mem_cons, List.not_mem_nil, or_false] at hp
  rcases hp with rfl | rfl
  · exact impl_steps.ok n
  · exact impl_within.ok n)
def fin : St → Option R := finOf ty [.tmp 4, .tmp 5] outs into
abbrev sin0 : Shape := [(1, .one (.row (.int .i64) false)), (2, .box true [.int .i64, .row (.t3) false, .row (.int .i64) false]), (6, .one (.row (.int .i64) true)), (7, .one (.int .i64)), (20, .one (.ref 0)), (21, .one (.int .i64)), (22, .one (.int .i64))]
abbrev sout0 : Shape := [(6, .one (.row (.int .i64) true))]
def lam (n : Nat) : Nat → (St → Option R) → St → Option R := fun i => match Nat.beq i 0 with | true => (fun K st => match absSt sin0 st with | some (x, _) => impl_taken.l0 n (fun y0 => K (mkSt sout0 (y0, ()))) n x.1 x.2.1.1 x.2.1.2.1 x.2.1.2.2.1 x.2.2.1 x.2.2.2.1 x.2.2.2.2.2.1 x.2.2.2.2.2.2.1 | none => none) | false => fun _ _ => none
noncomputable def lps : List (Nat × Code) := loopsOf cfg.blk code
noncomputable def b0 : Code := bodyOf lps 0
theorem l0_eq (n : Nat) (K : St → Option R) : ∀ (j : Nat) (x0 : List (Int)) (x1 : Int) (x2 : List (Int × Int × Int)) (x3 : List (Int)) (x4 : List (Int)) (x5 : Int) (x6 : Int) (x7 : Int), impl_taken.l0 n (fun y0 => K (mkSt sout0 (y0, ()))) j x0 x1 x2 x3 x4 x5 x6 x7 = iter (roundK cfg (pick (cal n)) (lam n) fin 0 b0 sin0 sout0 K) j (mkSt sin0 (x0, (x1, x2, x3, ()), x4, x5, (), x6, x7, ()))
  | 0, _, _, _, _, _, _, _, _ => rfl
  | j + 1, x0, x1, x2, x3, x4, x5, x6, x7 => by
    have ih : impl_taken.l0 n (fun y0 => K (mkSt sout0 (y0, ()))) j = fun x0 x1 x2 x3 x4 x5 x6 x7 => iter (roundK cfg (pick (cal n)) (lam n) fin 0 b0 sin0 sout0 K) j (mkSt sin0 (x0, (x1, x2, x3, ()), x4, x5, (), x6, x7, ())) := funext fun x0 => funext fun x1 => funext fun x2 => funext fun x3 => funext fun x4 => funext fun x5 => funext fun x6 => funext fun x7 => l0_eq n K j x0 x1 x2 x3 x4 x5 x6 x7
    rw [impl_taken.l0, ih]
    show _ = roundK cfg (pick (cal n)) (lam n) fin 0 b0 sin0 sout0 K (iter (roundK cfg (pick (cal n)) (lam n) fin 0 b0 sin0 sout0 K) j) (mkSt sin0 (x0, (x1, x2, x3, ()), x4, x5, (), x6, x7, ()))
    kernel_rfl
theorem loops (n : Nat) : LoopsOk cfg (pick (cal n)) (lam n) fin (loopsOf cfg.blk code) := by
  have h : loopsOf cfg.blk code = [(0, b0)] := by kernel_rfl
  rw [h]
  intro p hp K st r hr
  simp only [List.mem_cons, List.not_mem_nil, or_false] at hp
  rcases hp with rfl
  · have hr' : (match absSt sin0 st with | some (x, _) => impl_taken.l0 n (fun y0 => K (mkSt sout0 (y0, ()))) n x.1 x.2.1.1 x.2.1.2.1 x.2.1.2.2.1 x.2.2.1 x.2.2.2.1 x.2.2.2.2.2.1 x.2.2.2.2.2.2.1 | none => none) = some r := hr
    split at hr'
    · rename_i x es hx
      rw [l0_eq] at hr'
      exact ⟨sin0, sout0, n, x, es, hx, hr'⟩
    · cases hr'
theorem F_eq (n : Nat) (x0 : Int) (x1 : List (Int × Int × Int)) (x2 : List (Int)) (x3 : List (Int)) : impl_taken.F n x0 x1 x2 x3 = exK cfg (pick (cal n)) (lam n) fin code (fun _ _ => none) (mkSt shp ((x0, x1, x2, ()), x3, ())) fin := by
  kernel_rfl
def pfn (n : Nat) : PFn := mkFn shp outs (fun x => impl_taken.F n x.1.1 x.1.2.1 x.1.2.2.1 x.2.1) out
theorem ok (n : Nat) : (pfn n).Ok Go.Proofs.Try.prog 115 :=
  mkFn_ok (fn := Go.Proofs.Try.f115) (code := code) Go.Proofs.Try.func115 (by kernel_rfl) (by decide) (C := cfg) (Φ := pick (cal n)) (Λ := lam n) (into := into) hT (cal_ok n) (by kernel_rfl) rfl (by decide) rfl (fun _ => rfl) (loops n)
    (fun x r h => by
      have e := F_eq n x.1.1 x.1.2.1 x.1.2.2.1 x.2.1
      exact e.symm.trans h)
end impl_taken
end
/-! ### loop.example/g01158/impl.IsKeyWalk -/
section
namespace impl_IsKeyWalk
noncomputable def code : Code := (Go.Proofs.Try.f52.body).getD .skip
abbrev shp : Shape := [(0, .agg [.int .i64, .row (.t3) false, .row (.int .i64) false]), (1, .one (.row (.int .i64) false))]
abbrev outs : List KD := [.one (.bool), .one (.bool)]
abbrev R : Type := Bool × Bool
def out : R → denL outs := fun r => (r.1, r.2, ())
def into : denL outs → R := fun y => (y.1, y.2.1)
def cfg : Cfg := ⟨ty, 18, [], fun _ => .plain, fun _ => none⟩
def cal (n : Nat) : List (Nat × PFn) := [(27, impl_IsMaze.pfn n), (115, impl_taken.pfn n)]
theorem cal_ok (n : Nat) : ∀ g, (pick (cal n) g).Ok Go.Proofs.Try.prog g := pick_ok (by
  intro p hp
  simp only [cal, List.mem_cons, List.not_mem_nil, or_false] at hp
  rcases hp with rfl | rfl
  · exact impl_IsMaze.ok n
  · exact impl_taken.ok n)
def fin : St → Option R := finOf ty [.tmp 4, .tmp 5] outs into
def lam (n : Nat) : Nat → (St → Option R) → St → Option R := fun _ => fun _ _ => none
theorem loops (n : Nat) : LoopsOk cfg (pick (cal n)) (lam n) fin (loopsOf cfg.blk code) := by
  have h : loopsOf cfg.blk code = [] := by kernel_rfl
  rw [h]
  intro p hp
  cases hp
theorem F_eq (n : Nat) (x0 : Int) (x1 : List (Int × Int × Int)) (x2 : List (Int)) (x3 : List (Int)) : impl_IsKeyWalk.F n x0 x1 x2 x3 = exK cfg (pick (cal n)) (lam n) fin code (fun _ _ => none) (mkSt shp ((x0, x1, x2, ()), x3, ())) fin := by
  kernel_rfl
def pfn (n : Nat) : PFn := mkFn shp outs (fun x => impl_IsKeyWalk.F n x.1.1 x.1.2.1 x.1.2.2.1 x.2.1) out
theorem ok (n : Nat) : (pfn n).Ok Go.Proofs.Try.prog 52 :=
  mkFn_ok (fn := Go.Proofs.Try.f52) (code := code) Go.Proofs.Try.func52 (by kernel_rfl) (by decide) (C := cfg) (Φ := pick (cal n)) (Λ := lam n) (into := into) hT (cal_ok n) (by kernel_rfl) rfl (by decide) rfl (fun _ => rfl) (loops n)
    (fun x r h => by
      have e := F_eq n x.1.1 x.1.2.1 x.1.2.2.1 x.2.1
      exact e.symm.trans h)
end impl_IsKeyWalk
end
/-! ### loop.example/g01158/laws.FnMazeForms -/
section
namespace laws_FnMazeForms
noncomputable def code : Code := (Go.Proofs.Try.f8.body).getD .skip
abbrev shp : Shape := [(0, .one (.row (.int .u8) false))]
abbrev outs : List KD := [.one (.bool)]
abbrev R : Type := Bool
def out : R → denL outs := fun r => (r, ())
def into : denL outs → R := fun y => y.1
def cfg : Cfg := ⟨ty, 298, [], fun i => match Nat.beq i 0 with | true => .loop | false => .plain, fun i => match Nat.beq i 8 with | true => some [(0, .one (.row (.int .u8) false)), (3, .box true [.int .i64, .row (.t3) true, .row (.int .i64) true]), (7, .box true [.int .i64, .row (.t3) true, .row (.int .i64) true]), (8, .one (.bool))] | false => match Nat.beq i 13 with | true => some [(0, .one (.row (.int .u8) false)), (3, .box true [.int .i64, .row (.t3) true, .row (.int .i64) true]), (7, .box true [.int .i64, .row (.t3) true, .row (.int .i64) true]), (8, .one (.bool)), (11, .box true [.int .i64, .row (.t3) true, .row (.int .i64) true]), (12, .one (.int .i64)), (13, .box true [.int .i64, .row (.t3) true, .row (.int .i64) true]), (14, .one (.bool))] | false => match Nat.beq i 18 with | true => some [(0, .one (.row (.int .u8) false)), (3, .box true [.int .i64, .row (.t3) true, .row (.int .i64) true]), (7, .box true [.int .i64, .row (.t3) true, .row (.int .i64) true]), (8, .one (.bool)), (11, .box true [.int .i64, .row (.t3) true, .row (.int .i64) true]), (12, .one (.int .i64)), (13, .box true [.int .i64, .row (.t3) true, .row (.int .i64) true]), (14, .one (.bool)), (17, .box true [.int .i64, .row (.t3) true, .row (.int .i64) true]), (18, .one (.int .i64)), (19, .one (.int .i64)), (20, .box true [.int .i64, .row (.t3) true, .row (.int .i64) true]), (21, .one (.bool))] | false => match Nat.beq i 23 with | true => some [(3, .box true [.int .i64, .row (.t3) true, .row (.int .i64) true]), (7, .box true [.int .i64, .row (.t3) true, .row (.int .i64) true]), (8, .one (.bool)), (11, .box true [.int .i64, .row (.t3) true, .row (.int .i64) true]), (12, .one (.int .i64)), (13, .box true [.int .i64, .row (.t3) true, .row (.int .i64) true]), (14, .one (.bool)), (17, .box true [.int .i64, .row (.t3) true, .row (.int .i64) true]), (18, .one (.int .i64)), (19, .one (.int .i64)), (20, .box true [.int .i64, .row (.t3) true, .row (.int .i64) true]), (21, .one (.bool)), (24, .box true [.int .i64, .row (.t3) true, .row (.int .i64) true]), (25, .box true [.int .i64, .row (.t3) true, .row (.int .i64) true]), (26, .box true [.int .i64, .row (.t3) true, .row (.int .i64) true]), (27, .one (.bool))] | false => match Nat.beq i 33 with | true => some [(11, .box true [.int .i64, .row (.t3) true, .row (.int .i64) true]), (12, .one (.int .i64)), (13, .box true [.int .i64, .row (.t3) true, .row (.int .i64) true]), (14, .one (.bool)), (17, .box true [.int .i64, .row (.t3) true, .row (.int .i64) true]), (18, .one (.int .i64)), (19, .one (.int .i64)), (20, .box true [.int .i64, .row (.t3) true, .row (.int .i64) true]), (21, .one (.bool)), (24, .box true [.int .i64, .row (.t3) true, .row (.int .i64) true]), (25, .box true [.int .i64, .row (.t3) true, .row (.int .i64) true]), (26, .box true [.int .i64, .row (.t3) true, .row (.int .i64) true]), (27, .one (.bool))] | false => match Nat.beq i 38 with | true => some [(17, .box true [.int .i64, .row (.t3) true, .row (.int .i64) true]), (18, .one (.int .i64)), (19, .one (.int .i64)), (20, .box true [.int .i64, .row (.t3) true, .row (.int .i64) true]), (21, .one (.bool)), (24, .box true [.int .i64, .row (.t3) true, .row (.int .i64) true]), (25, .box true [.int .i64, .row (.t3) true, .row (.int .i64) true]), (26, .box true [.int .i64, .row (.t3) true, .row (.int .i64) true]), (27, .one (.bool))] | false => match Nat.beq i 42 with | true => some [(24, .box true [.int .i64, .row (.t3) true, .row (.int .i64) true]), (25, .box true [.int .i64, .row (.t3) true, .row (.int .i64) true]), (26, .box true [.int .i64, .row (.t3) true, .row (.int .i64) true]), (27, .one (.bool))] | false => match Nat.beq i 48 with | true => some [(24, .box true [.int .i64, .row (.t3) true, .row (.int .i64) true]), (25, .box true [.int .i64, .row (.t3) true, .row (.int .i64) true]), (26, .box true [.int .i64, .row (.t3) true, .row (.int .i64) true]), (39, .one (.row (.int .i64) true)), (40, .one (.bool))] | false => none⟩
def cal (n : Nat) : List (Nat × PFn) := [(20, spec_FirstWay.pfn n), (21, impl_FirstWay.pfn n), (25, laws_rBig.pfn n), (31, laws_rInts.pfn n), (52, impl_IsKeyWalk.pfn n), (53, spec_DrawAddDoor.pfn n), (54, impl_AddDoor.pfn n), (55, spec_AddDoor.pfn n), (56, laws_rMaze.pfn n), (57, spec_DrawDropDoor.pfn n), (58, impl_DropDoor.pfn n), (59, spec_DropDoor.pfn n), (60, spec_DrawPutKeys.pfn n), (61, impl_PutKeys.pfn n), (62, spec_PutKeys.pfn n), (63, spec_DrawJoinMazes.pfn n), (64, impl_JoinMazes.pfn n), (65, spec_JoinMazes.pfn n)]
theorem cal_ok (n : Nat) : ∀ g, (pick (cal n) g).Ok Go.Proofs.Try.prog g := pick_ok (by
  intro p hp
  simp only [cal, List.mem_cons, List.not_mem_nil, or_false] at hp
  rcases hp with rfl | rfl | rfl | rfl | rfl | rfl | rfl | rfl | rfl | rfl | rfl | rfl | rfl | rfl | rfl | rfl | rfl | rfl
  · exact spec_FirstWay.ok n
  · exact impl_FirstWay.ok n
  · exact laws_rBig.ok n
  · exact laws_rInts.ok n
  · exact impl_IsKeyWalk.ok n
  · exact spec_DrawAddDoor.ok n
  · exact impl_AddDoor.ok n
  · exact spec_AddDoor.ok n
  · exact laws_rMaze.ok n
  · exact spec_DrawDropDoor.ok n
  · exact impl_DropDoor.ok n
  · exact spec_DropDoor.ok n
  · exact spec_DrawPutKeys.ok n
  · exact impl_PutKeys.ok n
  · exact spec_PutKeys.ok n
  · exact spec_DrawJoinMazes.ok n
  · exact impl_JoinMazes.ok n
  · exact spec_JoinMazes.ok n)
def fin : St → Option R := finOf ty [.tmp 2] outs into
abbrev sin0 : Shape := [(3, .box true [.int .i64, .row (.t3) true, .row (.int .i64) true]), (7, .box true [.int .i64, .row (.t3) true, .row (.int .i64) true]), (11, .box true [.int .i64, .row (.t3) true, .row (.int .i64) true]), (12, .one (.int .i64)), (13, .box true [.int .i64, .row (.t3) true, .row (.int .i64) true]), (14, .one (.bool)), (17, .box true [.int .i64, .row (.t3) true, .row (.int .i64) true]), (18, .one (.int .i64)), (19, .one (.int .i64)), (20, .box true [.int .i64, .row (.t3) true, .row (.int .i64) true]), (21, .one (.bool)), (24, .box true [.int .i64, .row (.t3) true, .row (.int .i64) true]), (25, .box true [.int .i64, .row (.t3) true, .row (.int .i64) true]), (26, .box true [.int .i64, .row (.t3) true, .row (.int .i64) true]), (27, .one (.bool)), (30, .one (.bool)), (31, .one (.int .i64))]
abbrev sout0 : Shape := [(3, .box true [.int .i64, .row (.t3) true, .row (.int .i64) true]), (7, .box true [.int .i64, .row (.t3) true, .row (.int .i64) true]), (11, .box true [.int .i64, .row (.t3) true, .row (.int .i64) true]), (12, .one (.int .i64)), (13, .box true [.int .i64, .row (.t3) true, .row (.int .i64) true]), (14, .one (.bool)), (17, .box true [.int .i64, .row (.t3) true, .row (.int .i64) true]), (18, .one (.int .i64)), (19, .one (.int .i64)), (20, .box true [.int .i64, .row (.t3) true, .row (.int .i64) true]), (21, .one (.bool)), (24, .box true [.int .i64, .row (.t3) true, .row (.int .i64) true]), (25, .box true [.int .i64, .row (.t3) true, .row (.int .i64) true]), (26, .box true [.int .i64, .row (.t3) true, .row (.int .i64) true]), (27, .one (.bool)), (30, .one (.bool))]
def lam (n : Nat) : Nat → (St → Option R) → St → Option R := fun i => match Nat.beq i 0 with | true => (fun K st => match absSt sin0 st with | some (x, _) => laws_FnMazeForms.l0 n (fun y0 y1 y2 y3 y4 y5 y6 y7 y8 y9 y10 y11 y12 y13 y14 y15 y16 y17 y18 y19 y20 y21 y22 y23 y24 y25 y26 y27 y28 y29 y30 y31 y32 y33 => K (mkSt sout0 ((y0, y1, y2, ()), (y3, y4, y5, ()), (y6, y7, y8, ()), y9, (y10, y11, y12, ()), y13, (y14, y15, y16, ()), y17, y18, (y19, y20, y21, ()), y22, (y23, y24, y25, ()), (y26, y27, y28, ()), (y29, y30, y31, ()), y32, y33, ()))) n x.1.1 x.1.2.1 x.1.2.2.1 x.2.1.1 x.2.1.2.1 x.2.1.2.2.1 x.2.2.1.1 x.2.2.1.2.1 x.2.2.1.2.2.1 x.2.2.2.1 x.2.2.2.2.1.1 x.2.2.2.2.1.2.1 x.2.2.2.2.1.2.2.1 x.2.2.2.2.2.1 x.2.2.2.2.2.2.1.1 x.2.2.2.2.2.2.1.2.1 x.2.2.2.2.2.2.1.2.2.1 x.2.2.2.2.2.2.2.1 x.2.2.2.2.2.2.2.2.1 x.2.2.2.2.2.2.2.2.2.1.1 x.2.2.2.2.2.2.2.2.2.1.2.1 x.2.2.2.2.2.2.2.2.2.1.2.2.1 x.2.2.2.2.2.2.2.2.2.2.1 x.2.2.2.2.2.2.2.2.2.2.2.1.1 x.2.2.2.2.2.2.2.2.2.2.2.1.2.1 x.2.2.2.2.2.2.2.2.2.2.2.1.2.2.1 x.2.2.2.2.2.2.2.2.2.2.2.2.1.1 x.2.2.2.2.2.2.2.2.2.2.2.2.1.2.1 x.2.2.2.2.2.2.2.2.2.2.2.2.1.2.2.1 x.2.2.2.2.2.2.2.2.2.2.2.2.2.1.1 x.2.2.2.2.2.2.2.2.2.2.2.2.2.1.2.1 x.2.2.2.2.2.2.2.2.2.2.2.2.2.1.2.2.1 x.2.2.2.2.2.2.2.2.2.2.2.2.2.2.1 x.2.2.2.2.2.2.2.2.2.2.2.2.2.2.2.1 x.2.2.2.2.2.2.2.2.2.2.2.2.2.2.2.2.1 | none => none) | false => fun _ _ => none
noncomputable def lps : List (Nat × Code) := loopsOf cfg.blk code
noncomputable def b0 : Code := bodyOf lps 0
theorem l0_eq (n : Nat) (K : St → Option R) : ∀ (j : Nat) (x0 : Int) (x1 : List (Int × Int × Int)) (x2 : List (Int)) (x3 : Int) (x4 : List (Int × Int × Int)) (x5 : List (Int)) (x6 : Int) (x7 : List (Int × Int × Int)) (x8 : List (Int)) (x9 : Int) (x10 : Int) (x11 : List (Int × Int × Int)) (x12 : List (Int)) (x13 : Bool) (x14 : Int) (x15 : List (Int × Int × Int)) (x16 : List (Int)) (x17 : Int) (x18 : Int) (x19 : Int) (x20 : List (Int × Int × Int)) (x21 : List (Int)) (x22 : Bool) (x23 : Int) (x24 : List (Int × Int × Int)) (x25 : List (Int)) (x26 : Int) (x27 : List (Int × Int × Int)) (x28 : List (Int)) (x29 : Int) (x30 : List (Int × Int × Int)) (x31 : List (Int)) (x32 : Bool) (x33 : Bool) (x34 : Int), laws_FnMazeForms.l0 n (fun y0 y1 y2 y3 y4 y5 y6 y7 y8 y9 y10 y11 y12 y13 y14 y15 y16 y17 y18 y19 y20 y21 y22 y23 y24 y25 y26 y27 y28 y29 y30 y31 y32 y33 => K (mkSt sout0 ((y0, y1, y2, ()), (y3, y4, y5, ()), (y6, y7, y8, ()), y9, (y10, y11, y12, ()), y13, (y14, y15, y16, ()), y17, y18, (y19, y20, y21, ()), y22, (y23, y24, y25, ()), (y26, y27, y28, ()), (y29, y30, y31, ()), y32, y33, ()))) j x0 x1 x2 x3 x4 x5 x6 x7 x8 x9 x10 x11 x12 x13 x14 x15 x16 x17 x18 x19 x20 x21 x22 x23 x24 x25 x26 x27 x28 x29 x30 x31 x32 x33 x34 = iter (roundK cfg (pick (cal n)) (lam n) fin 0 b0 sin0 sout0 K) j (mkSt sin0 ((x0, x1, x2, ()), (x3, x4, x5, ()), (x6, x7, x8, ()), x9, (x10, x11, x12, ()), x13, (x14, x15, x16, ()), x17, x18, (x19, x20, x21, ()), x22, (x23, x24, x25, ()), (x26, x27, x28, ()), (x29, x30, x31, ()), x32, x33, x34, ()))
  | 0, _, _, _, _, _, _, _, _, _, _, _, _, _, _, _, _, _, _, _, _, _, _, _, _, _, _, _, _, _, _, _, _, _, _, _ => rfl
  | j + 1, x0, x1, x2, x3, x4, x5, x6, x7, x8, x9, x10, x11, x12, x13, x14, x15, x16, x17, x18, x19, x20, x21, x22, x23, x24, x25, x26, x27, x28, x29, x30, x31, x32, x33, x34 => by
    have ih : laws_FnMazeForms.l0 n (fun y0 y1 y2 y3 y4 y5 y6 y7 y8 y9 y10 y11 y12 y13 y14 y15 y16 y17 y18 y19 y20 y21 y22 y23 y24 y25 y26 y27 y28 y29 y30 y31 y32 y33 => K (mkSt sout0 ((y0, y1, y2, ()), (y3, y4, y5, ()), (y6, y7, y8, ()), y9, (y10, y11, y12, ()), y13, (y14, y15, y16, ()), y17, y18, (y19, y20, y21, ()), y22, (y23, y24, y25, ()), (y26, y27, y28, ()), (y29, y30, y31, ()), y32, y33, ()))) j = fun x0 x1 x2 x3 x4 x5 x6 x7 x8 x9 x10 x11 x12 x13 x14 x15 x16 x17 x18 x19 x20 x21 x22 x23 x24 x25 x26 x27 x28 x29 x30 x31 x32 x33 x34 => iter (roundK cfg (pick (cal n)) (lam n) fin 0 b0 sin0 sout0 K) j (mkSt sin0 ((x0, x1, x2, ()), (x3, x4, x5, ()), (x6, x7, x8, ()), x9, (x10, x11, x12, ()), x13, (x14, x15, x16, ()), x17, x18, (x19, x20, x21, ()), x22, (x23, x24, x25, ()), (x26, x27, x28, ()), (x29, x30, x31, ()), x32, x33, x34, ())) := funext fun x0 => funext fun x1 => funext fun x2 => funext fun x3 => funext fun x4 => funext fun x5 => funext fun x6 => funext fun x7 => funext fun x8 => funext fun x9 => funext fun x10 => funext fun x11 => funext fun x12 => funext fun x13 => funext fun x14 => funext fun x15 => funext fun x16 => funext fun x17 => funext fun x18 => funext fun x19 => funext fun x20 => funext fun x21 => funext fun x22 => funext fun x23 => funext fun x24 => funext fun x25 => funext fun x26 => funext fun x27 => funext fun x28 => funext fun x29 => funext fun x30 => funext fun x31 => funext fun x32 => funext fun x33 => funext fun x34 => l0_eq n K j x0 x1 x2 x3 x4 x5 x6 x7 x8 x9 x10 x11 x12 x13 x14 x15 x16 x17 x18 x19 x20 x21 x22 x23 x24 x25 x26 x27 x28 x29 x30 x31 x32 x33 x34
    rw [laws_FnMazeForms.l0, ih]
    refine Eq.trans ?_ (iter_s _ _ _).symm
    kernel_rfl
theorem loops (n : Nat) : LoopsOk cfg (pick (cal n)) (lam n) fin (loopsOf cfg.blk code) := by
  have h : loopsOf cfg.blk code = [(0, b0)] := by kernel_rfl
  rw [h]
  intro p hp K st r hr
  simp only [List.mem_cons, List.not_mem_nil, or_false] at hp
  rcases hp with rfl
  · have hr' : (match absSt sin0 st with | some (x, _) => laws_FnMazeForms.l0 n (fun y0 y1 y2 y3 y4 y5 y6 y7 y8 y9 y10 y11 y12 y13 y14 y15 y16 y17 y18 y19 y20 y21 y22 y23 y24 y25 y26 y27 y28 y29 y30 y31 y32 y33 => K (mkSt sout0 ((y0, y1, y2, ()), (y3, y4, y5, ()), (y6, y7, y8, ()), y9, (y10, y11, y12, ()), y13, (y14, y15, y16, ()), y17, y18, (y19, y20, y21, ()), y22, (y23, y24, y25, ()), (y26, y27, y28, ()), (y29, y30, y31, ()), y32, y33, ()))) n x.1.1 x.1.2.1 x.1.2.2.1 x.2.1.1 x.2.1.2.1 x.2.1.2.2.1 x.2.2.1.1 x.2.2.1.2.1 x.2.2.1.2.2.1 x.2.2.2.1 x.2.2.2.2.1.1 x.2.2.2.2.1.2.1 x.2.2.2.2.1.2.2.1 x.2.2.2.2.2.1 x.2.2.2.2.2.2.1.1 x.2.2.2.2.2.2.1.2.1 x.2.2.2.2.2.2.1.2.2.1 x.2.2.2.2.2.2.2.1 x.2.2.2.2.2.2.2.2.1 x.2.2.2.2.2.2.2.2.2.1.1 x.2.2.2.2.2.2.2.2.2.1.2.1 x.2.2.2.2.2.2.2.2.2.1.2.2.1 x.2.2.2.2.2.2.2.2.2.2.1 x.2.2.2.2.2.2.2.2.2.2.2.1.1 x.2.2.2.2.2.2.2.2.2.2.2.1.2.1 x.2.2.2.2.2.2.2.2.2.2.2.1.2.2.1 x.2.2.2.2.2.2.2.2.2.2.2.2.1.1 x.2.2.2.2.2.2.2.2.2.2.2.2.1.2.1 x.2.2.2.2.2.2.2.2.2.2.2.2.1.2.2.1 x.2.2.2.2.2.2.2.2.2.2.2.2.2.1.1 x.2.2.2.2.2.2.2.2.2.2.2.2.2.1.2.1 x.2.2.2.2.2.2.2.2.2.2.2.2.2.1.2.2.1 x.2.2.2.2.2.2.2.2.2.2.2.2.2.2.1 x.2.2.2.2.2.2.2.2.2.2.2.2.2.2.2.1 x.2.2.2.2.2.2.2.2.2.2.2.2.2.2.2.2.1 | none => none) = some r := hr
    split at hr'
    · rename_i x es hx
      rw [l0_eq] at hr'
      exact ⟨sin0, sout0, n, x, es, hx, hr'⟩
    · cases hr'
noncomputable def code8 : Code := spineAt 5 code
abbrev cut8 : Shape := [(0, .one (.row (.int .u8) false)), (3, .box true [.int .i64, .row (.t3) true, .row (.int .i64) true]), (7, .box true [.int .i64, .row (.t3) true, .row (.int .i64) true]), (8, .one (.bool))]
noncomputable def code13 : Code := spineAt 3 code8
abbrev cut13 : Shape := [(0, .one (.row (.int .u8) false)), (3, .box true [.int .i64, .row (.t3) true, .row (.int .i64) true]), (7, .box true [.int .i64, .row (.t3) true, .row (.int .i64) true]), (8, .one (.bool)), (11, .box true [.int .i64, .row (.t3) true, .row (.int .i64) true]), (12, .one (.int .i64)), (13, .box true [.int .i64, .row (.t3) true, .row (.int .i64) true]), (14, .one (.bool))]
noncomputable def code18 : Code := spineAt 3 code13
abbrev cut18 : Shape := [(0, .one (.row (.int .u8) false)), (3, .box true [.int .i64, .row (.t3) true, .row (.int .i64) true]), (7, .box true [.int .i64, .row (.t3) true, .row (.int .i64) true]), (8, .one (.bool)), (11, .box true [.int .i64, .row (.t3) true, .row (.int .i64) true]), (12, .one (.int .i64)), (13, .box true [.int .i64, .row (.t3) true, .row (.int .i64) true]), (14, .one (.bool)), (17, .box true [.int .i64, .row (.t3) true, .row (.int .i64) true]), (18, .one (.int .i64)), (19, .one (.int .i64)), (20, .box true [.int .i64, .row (.t3) true, .row (.int .i64) true]), (21, .one (.bool))]
noncomputable def code23 : Code := spineAt 3 code18
abbrev cut23 : Shape := [(3, .box true [.int .i64, .row (.t3) true, .row (.int .i64) true]), (7, .box true [.int .i64, .row (.t3) true, .row (.int .i64) true]), (8, .one (.bool)), (11, .box true [.int .i64, .row (.t3) true, .row (.int .i64) true]), (12, .one (.int .i64)), (13, .box true [.int .i64, .row (.t3) true, .row (.int .i64) true]), (14, .one (.bool)), (17, .box true [.int .i64, .row (.t3) true, .row (.int .i64) true]), (18, .one (.int .i64)), (19, .one (.int .i64)), (20, .box true [.int .i64, .row (.t3) true, .row (.int .i64) true]), (21, .one (.bool)), (24, .box true [.int .i64, .row (.t3) true, .row (.int .i64) true]), (25, .box true [.int .i64, .row (.t3) true, .row (.int .i64) true]), (26, .box true [.int .i64, .row (.t3) true, .row (.int .i64) true]), (27, .one (.bool))]
noncomputable def code33 : Code := spineAt 1 code23
abbrev cut33 : Shape := [(11, .box true [.int .i64, .row (.t3) true, .row (.int .i64) true]), (12, .one (.int .i64)), (13, .box true [.int .i64, .row (.t3) true, .row (.int .i64) true]), (14, .one (.bool)), (17, .box true [.int .i64, .row (.t3) true, .row (.int .i64) true]), (18, .one (.int .i64)), (19, .one (.int .i64)), (20, .box true [.int .i64, .row (.t3) true, .row (.int .i64) true]), (21, .one (.bool)), (24, .box true [.int .i64, .row (.t3) true, .row (.int .i64) true]), (25, .box true [.int .i64, .row (.t3) true, .row (.int .i64) true]), (26, .box true [.int .i64, .row (.t3) true, .row (.int .i64) true]), (27, .one (.bool))]
noncomputable def code38 : Code := spineAt 1 code33
abbrev cut38 : Shape := [(17, .box true [.int .i64, .row (.t3) true, .row (.int .i64) true]), (18, .one (.int .i64)), (19, .one (.int .i64)), (20, .box true [.int .i64, .row (.t3) true, .row (.int .i64) true]), (21, .one (.bool)), (24, .box true [.int .i64, .row (.t3) true, .row (.int .i64) true]), (25, .box true [.int .i64, .row (.t3) true, .row (.int .i64) true]), (26, .box true [.int .i64, .row (.t3) true, .row (.int .i64) true]), (27, .one (.bool))]
noncomputable def code42 : Code := spineAt 1 code38
abbrev cut42 : Shape := [(24, .box true [.int .i64, .row (.t3) true, .row (.int .i64) true]), (25, .box true [.int .i64, .row (.t3) true, .row (.int .i64) true]), (26, .box true [.int .i64, .row (.t3) true, .row (.int .i64) true]), (27, .one (.bool))]
noncomputable def code48 : Code := spineAt 3 code42
abbrev cut48 : Shape := [(24, .box true [.int .i64, .row (.t3) true, .row (.int .i64) true]), (25, .box true [.int .i64, .row (.t3) true, .row (.int .i64) true]), (26, .box true [.int .i64, .row (.t3) true, .row (.int .i64) true]), (39, .one (.row (.int .i64) true)), (40, .one (.bool))]
theorem c48_eq (n : Nat) (x0 : Int) (x1 : List (Int × Int × Int)) (x2 : List (Int)) (x3 : Int) (x4 : List (Int × Int × Int)) (x5 : List (Int)) (x6 : Int) (x7 : List (Int × Int × Int)) (x8 : List (Int)) (x9 : List (Int)) (x10 : Bool) : laws_FnMazeForms.c48 n x0 x1 x2 x3 x4 x5 x6 x7 x8 x9 x10 = exK cfg (pick (cal n)) (lam n) fin code48 (fun _ _ => none) (mkSt cut48 ((x0, x1, x2, ()), (x3, x4, x5, ()), (x6, x7, x8, ()), x9, x10, ())) fin := by
  kernel_rfl
theorem c42_seg (n : Nat) (x0 : Int) (x1 : List (Int × Int × Int)) (x2 : List (Int)) (x3 : Int) (x4 : List (Int × Int × Int)) (x5 : List (Int)) (x6 : Int) (x7 : List (Int × Int × Int)) (x8 : List (Int)) (x9 : Bool) : laws_FnMazeForms.c42 n x0 x1 x2 x3 x4 x5 x6 x7 x8 x9 = exSeg cfg (pick (cal n)) (lam n) fin (fun _ _ => none) cut48 (fun x => laws_FnMazeForms.c48 n x.1.1 x.1.2.1 x.1.2.2.1 x.2.1.1 x.2.1.2.1 x.2.1.2.2.1 x.2.2.1.1 x.2.2.1.2.1 x.2.2.1.2.2.1 x.2.2.2.1 x.2.2.2.2.1) 2 code42 (mkSt cut42 ((x0, x1, x2, ()), (x3, x4, x5, ()), (x6, x7, x8, ()), x9, ())) := by
  kernel_rfl
theorem c42_eq (n : Nat) (x0 : Int) (x1 : List (Int × Int × Int)) (x2 : List (Int)) (x3 : Int) (x4 : List (Int × Int × Int)) (x5 : List (Int)) (x6 : Int) (x7 : List (Int × Int × Int)) (x8 : List (Int)) (x9 : Bool) : laws_FnMazeForms.c42 n x0 x1 x2 x3 x4 x5 x6 x7 x8 x9 = exK cfg (pick (cal n)) (lam n) fin code42 (fun _ _ => none) (mkSt cut42 ((x0, x1, x2, ()), (x3, x4, x5, ()), (x6, x7, x8, ()), x9, ())) fin := 
  (c42_seg n x0 x1 x2 x3 x4 x5 x6 x7 x8 x9).trans (seg_eq 2 (by kernel_rfl) rfl (by kernel_rfl) (fun x => c48_eq n x.1.1 x.1.2.1 x.1.2.2.1 x.2.1.1 x.2.1.2.1 x.2.1.2.2.1 x.2.2.1.1 x.2.2.1.2.1 x.2.2.1.2.2.1 x.2.2.2.1 x.2.2.2.2.1))
theorem c38_seg (n : Nat) (x0 : Int) (x1 : List (Int × Int × Int)) (x2 : List (Int)) (x3 : Int) (x4 : Int) (x5 : Int) (x6 : List (Int × Int × Int)) (x7 : List (Int)) (x8 : Bool) (x9 : Int) (x10 : List (Int × Int × Int)) (x11 : List (Int)) (x12 : Int) (x13 : List (Int × Int × Int)) (x14 : List (Int)) (x15 : Int) (x16 : List (Int × Int × Int)) (x17 : List (Int)) (x18 : Bool) : laws_FnMazeForms.c38 n x0 x1 x2 x3 x4 x5 x6 x7 x8 x9 x10 x11 x12 x13 x14 x15 x16 x17 x18 = exSeg cfg (pick (cal n)) (lam n) fin (fun _ _ => none) cut42 (fun x => laws_FnMazeForms.c42 n x.1.1 x.1.2.1 x.1.2.2.1 x.2.1.1 x.2.1.2.1 x.2.1.2.2.1 x.2.2.1.1 x.2.2.1.2.1 x.2.2.1.2.2.1 x.2.2.2.1) 0 code38 (mkSt cut38 ((x0, x1, x2, ()), x3, x4, (x5, x6, x7, ()), x8, (x9, x10, x11, ()), (x12, x13, x14, ()), (x15, x16, x17, ()), x18, ())) := by
  kernel_rfl
theorem c38_eq (n : Nat) (x0 : Int) (x1 : List (Int × Int × Int)) (x2 : List (Int)) (x3 : Int) (x4 : Int) (x5 : Int) (x6 : List (Int × Int × Int)) (x7 : List (Int)) (x8 : Bool) (x9 : Int) (x10 : List (Int × Int × Int)) (x11 : List (Int)) (x12 : Int) (x13 : List (Int × Int × Int)) (x14 : List (Int)) (x15 : Int) (x16 : List (Int × Int × Int)) (x17 : List (Int)) (x18 : Bool) : laws_FnMazeForms.c38 n x0 x1 x2 x3 x4 x5 x6 x7 x8 x9 x10 x11 x12 x13 x14 x15 x16 x17 x18 = exK cfg (pick (cal n)) (lam n) fin code38 (fun _ _ => none) (mkSt cut38 ((x0, x1, x2, ()), x3, x4, (x5, x6, x7, ()), x8, (x9, x10, x11, ()), (x12, x13, x14, ()), (x15, x16, x17, ()), x18, ())) fin := 
  (c38_seg n x0 x1 x2 x3 x4 x5 x6 x7 x8 x9 x10 x11 x12 x13 x14 x15 x16 x17 x18).trans (seg_eq 0 (by kernel_rfl) rfl (by kernel_rfl) (fun x => c42_eq n x.1.1 x.1.2.1 x.1.2.2.1 x.2.1.1 x.2.1.2.1 x.2.1.2.2.1 x.2.2.1.1 x.2.2.1.2.1 x.2.2.1.2.2.1 x.2.2.2.1))
theorem c33_seg (n : Nat) (x0 : Int) (x1 : List (Int × Int × Int)) (x2 : List (Int)) (x3 : Int) (x4 : Int) (x5 : List (Int × Int × Int)) (x6 : List (Int)) (x7 : Bool) (x8 : Int) (x9 : List (Int × Int × Int)) (x10 : List (Int)) (x11 : Int) (x12 : Int) (x13 : Int) (x14 : List (Int × Int × Int)) (x15 : List (Int)) (x16 : Bool) (x17 : Int) (x18 : List (Int × Int × Int)) (x19 : List (Int)) (x20 : Int) (x21 : List (Int × Int × Int)) (x22 : List (Int)) (x23 : Int) (x24 : List (Int × Int × Int)) (x25 : List (Int)) (x26 : Bool) : laws_FnMazeForms.c33 n x0 x1 x2 x3 x4 x5 x6 x7 x8 x9 x10 x11 x12 x13 x14 x15 x16 x17 x18 x19 x20 x21 x22 x23 x24 x25 x26 = exSeg cfg (pick (cal n)) (lam n) fin (fun _ _ => none) cut38 (fun x => laws_FnMazeForms.c38 n x.1.1 x.1.2.1 x.1.2.2.1 x.2.1 x.2.2.1 x.2.2.2.1.1 x.2.2.2.1.2.1 x.2.2.2.1.2.2.1 x.2.2.2.2.1 x.2.2.2.2.2.1.1 x.2.2.2.2.2.1.2.1 x.2.2.2.2.2.1.2.2.1 x.2.2.2.2.2.2.1.1 x.2.2.2.2.2.2.1.2.1 x.2.2.2.2.2.2.1.2.2.1 x.2.2.2.2.2.2.2.1.1 x.2.2.2.2.2.2.2.1.2.1 x.2.2.2.2.2.2.2.1.2.2.1 x.2.2.2.2.2.2.2.2.1) 0 code33 (mkSt cut33 ((x0, x1, x2, ()), x3, (x4, x5, x6, ()), x7, (x8, x9, x10, ()), x11, x12, (x13, x14, x15, ()), x16, (x17, x18, x19, ()), (x20, x21, x22, ()), (x23, x24, x25, ()), x26, ())) := by
  kernel_rfl
theorem c33_eq (n : Nat) (x0 : Int) (x1 : List (Int × Int × Int)) (x2 : List (Int)) (x3 : Int) (x4 : Int) (x5 : List (Int × Int × Int)) (x6 : List (Int)) (x7 : Bool) (x8 : Int) (x9 : List (Int × Int × Int)) (x10 : List (Int)) (x11 : Int) (x12 : Int) (x13 : Int) (x14 : List (Int × Int × Int)) (x15 : List (Int)) (x16 : Bool) (x17 : Int) (x18 : List (Int × Int × Int)) (x19 : List (Int)) (x20 : Int) (x21 : List (Int × Int × Int)) (x22 : List (Int)) (x23 : Int) (x24 : List (Int × Int × Int)) (x25 : List (Int)) (x26 : Bool) : laws_FnMazeForms.c33 n x0 x1 x2 x3 x4 x5 x6 x7 x8 x9 x10 x11 x12 x13 x14 x15 x16 x17 x18 x19 x20 x21 x22 x23 x24 x25 x26 = exK cfg (pick (cal n)) (lam n) fin code33 (fun _ _ => none) (mkSt cut33 ((x0, x1, x2, ()), x3, (x4, x5, x6, ()), x7, (x8, x9, x10, ()), x11, x12, (x13, x14, x15, ()), x16, (x17, x18, x19, ()), (x20, x21, x22, ()), (x23, x24, x25, ()), x26, ())) fin := 
  (c33_seg n x0 x1 x2 x3 x4 x5 x6 x7 x8 x9 x10 x11 x12 x13 x14 x15 x16 x17 x18 x19 x20 x21 x22 x23 x24 x25 x26).trans (seg_eq 0 (by kernel_rfl) rfl (by kernel_rfl) (fun x => c38_eq n x.1.1 x.1.2.1 x.1.2.2.1 x.2.1 x.2.2.1 x.2.2.2.1.1 x.2.2.2.1.2.1 x.2.2.2.1.2.2.1 x.2.2.2.2.1 x.2.2.2.2.2.1.1 x.2.2.2.2.2.1.2.1 x.2.2.2.2.2.1.2.2.1 x.2.2.2.2.2.2.1.1 x.2.2.2.2.2.2.1.2.1 x.2.2.2.2.2.2.1.2.2.1 x.2.2.2.2.2.2.2.1.1 x.2.2.2.2.2.2.2.1.2.1 x.2.2.2.2.2.2.2.1.2.2.1 x.2.2.2.2.2.2.2.2.1))
theorem c23_seg (n : Nat) (x0 : Int) (x1 : List (Int × Int × Int)) (x2 : List (Int)) (x3 : Int) (x4 : List (Int × Int × Int)) (x5 : List (Int)) (x6 : Bool) (x7 : Int) (x8 : List (Int × Int × Int)) (x9 : List (Int)) (x10 : Int) (x11 : Int) (x12 : List (Int × Int × Int)) (x13 : List (Int)) (x14 : Bool) (x15 : Int) (x16 : List (Int × Int × Int)) (x17 : List (Int)) (x18 : Int) (x19 : Int) (x20 : Int) (x21 : List (Int × Int × Int)) (x22 : List (Int)) (x23 : Bool) (x24 : Int) (x25 : List (Int × Int × Int)) (x26 : List (Int)) (x27 : Int) (x28 : List (Int × Int × Int)) (x29 : List (Int)) (x30 : Int) (x31 : List (Int × Int × Int)) (x32 : List (Int)) (x33 : Bool) : laws_FnMazeForms.c23 n x0 x1 x2 x3 x4 x5 x6 x7 x8 x9 x10 x11 x12 x13 x14 x15 x16 x17 x18 x19 x20 x21 x22 x23 x24 x25 x26 x27 x28 x29 x30 x31 x32 x33 = exSeg cfg (pick (cal n)) (lam n) fin (fun _ _ => none) cut33 (fun x => laws_FnMazeForms.c33 n x.1.1 x.1.2.1 x.1.2.2.1 x.2.1 x.2.2.1.1 x.2.2.1.2.1 x.2.2.1.2.2.1 x.2.2.2.1 x.2.2.2.2.1.1 x.2.2.2.2.1.2.1 x.2.2.2.2.1.2.2.1 x.2.2.2.2.2.1 x.2.2.2.2.2.2.1 x.2.2.2.2.2.2.2.1.1 x.2.2.2.2.2.2.2.1.2.1 x.2.2.2.2.2.2.2.1.2.2.1 x.2.2.2.2.2.2.2.2.1 x.2.2.2.2.2.2.2.2.2.1.1 x.2.2.2.2.2.2.2.2.2.1.2.1 x.2.2.2.2.2.2.2.2.2.1.2.2.1 x.2.2.2.2.2.2.2.2.2.2.1.1 x.2.2.2.2.2.2.2.2.2.2.1.2.1 x.2.2.2.2.2.2.2.2.2.2.1.2.2.1 x.2.2.2.2.2.2.2.2.2.2.2.1.1 x.2.2.2.2.2.2.2.2.2.2.2.1.2.1 x.2.2.2.2.2.2.2.2.2.2.2.1.2.2.1 x.2.2.2.2.2.2.2.2.2.2.2.2.1) 0 code23 (mkSt cut23 ((x0, x1, x2, ()), (x3, x4, x5, ()), x6, (x7, x8, x9, ()), x10, (x11, x12, x13, ()), x14, (x15, x16, x17, ()), x18, x19, (x20, x21, x22, ()), x23, (x24, x25, x26, ()), (x27, x28, x29, ()), (x30, x31, x32, ()), x33, ())) := by
  kernel_rfl
theorem c23_eq (n : Nat) (x0 : Int) (x1 : List (Int × Int × Int)) (x2 : List (Int)) (x3 : Int) (x4 : List (Int × Int × Int)) (x5 : List (Int)) (x6 : Bool) (x7 : Int) (x8 : List (Int × Int × Int)) (x9 : List (Int)) (x10 : Int) (x11 : Int) (x12 : List (Int × Int × Int)) (x13 : List (Int)) (x14 : Bool) (x15 : Int) (x16 : List (Int × Int × Int)) (x17 : List (Int)) (x18 : Int) (x19 : Int) (x20 : Int) (x21 : List (Int × Int × Int)) (x22 : List (Int)) (x23 : Bool) (x24 : Int) (x25 : List (Int × Int × Int)) (x26 : List (Int)) (x27 : Int) (x28 : List (Int × Int × Int)) (x29 : List (Int)) (x30 : Int) (x31 : List (Int × Int × Int)) (x32 : List (Int)) (x33 : Bool) : laws_FnMazeForms.c23 n x0 x1 x2 x3 x4 x5 x6 x7 x8 x9 x10 x11 x12 x13 x14 x15 x16 x17 x18 x19 x20 x21 x22 x23 x24 x25 x26 x27 x28 x29 x30 x31 x32 x33 = exK cfg (pick (cal n)) (lam n) fin code23 (fun _ _ => none) (mkSt cut23 ((x0, x1, x2, ()), (x3, x4, x5, ()), x6, (x7, x8, x9, ()), x10, (x11, x12, x13, ()), x14, (x15, x16, x17, ()), x18, x19, (x20, x21, x22, ()), x23, (x24, x25, x26, ()), (x27, x28, x29, ()), (x30, x31, x32, ()), x33, ())) fin := 
  (c23_seg n x0 x1 x2 x3 x4 x5 x6 x7 x8 x9 x10 x11 x12 x13 x14 x15 x16 x17 x18 x19 x20 x21 x22 x23 x24 x25 x26 x27 x28 x29 x30 x31 x32 x33).trans (seg_eq 0 (by kernel_rfl) rfl (by kernel_rfl) (fun x => c33_eq n x.1.1 x.1.2.1 x.1.2.2.1 x.2.1 x.2.2.1.1 x.2.2.1.2.1 x.2.2.1.2.2.1 x.2.2.2.1 x.2.2.2.2.1.1 x.2.2.2.2.1.2.1 x.2.2.2.2.1.2.2.1 x.2.2.2.2.2.1 x.2.2.2.2.2.2.1 x.2.2.2.2.2.2.2.1.1 x.2.2.2.2.2.2.2.1.2.1 x.2.2.2.2.2.2.2.1.2.2.1 x.2.2.2.2.2.2.2.2.1 x.2.2.2.2.2.2.2.2.2.1.1 x.2.2.2.2.2.2.2.2.2.1.2.1 x.2.2.2.2.2.2.2.2.2.1.2.2.1 x.2.2.2.2.2.2.2.2.2.2.1.1 x.2.2.2.2.2.2.2.2.2.2.1.2.1 x.2.2.2.2.2.2.2.2.2.2.1.2.2.1 x.2.2.2.2.2.2.2.2.2.2.2.1.1 x.2.2.2.2.2.2.2.2.2.2.2.1.2.1 x.2.2.2.2.2.2.2.2.2.2.2.1.2.2.1 x.2.2.2.2.2.2.2.2.2.2.2.2.1))
theorem c18_seg (n : Nat) (x0 : List (Int)) (x1 : Int) (x2 : List (Int × Int × Int)) (x3 : List (Int)) (x4 : Int) (x5 : List (Int × Int × Int)) (x6 : List (Int)) (x7 : Bool) (x8 : Int) (x9 : List (Int × Int × Int)) (x10 : List (Int)) (x11 : Int) (x12 : Int) (x13 : List (Int × Int × Int)) (x14 : List (Int)) (x15 : Bool) (x16 : Int) (x17 : List (Int × Int × Int)) (x18 : List (Int)) (x19 : Int) (x20 : Int) (x21 : Int) (x22 : List (Int × Int × Int)) (x23 : List (Int)) (x24 : Bool) : laws_FnMazeForms.c18 n x0 x1 x2 x3 x4 x5 x6 x7 x8 x9 x10 x11 x12 x13 x14 x15 x16 x17 x18 x19 x20 x21 x22 x23 x24 = exSeg cfg (pick (cal n)) (lam n) fin (fun _ _ => none) cut23 (fun x => laws_FnMazeForms.c23 n x.1.1 x.1.2.1 x.1.2.2.1 x.2.1.1 x.2.1.2.1 x.2.1.2.2.1 x.2.2.1 x.2.2.2.1.1 x.2.2.2.1.2.1 x.2.2.2.1.2.2.1 x.2.2.2.2.1 x.2.2.2.2.2.1.1 x.2.2.2.2.2.1.2.1 x.2.2.2.2.2.1.2.2.1 x.2.2.2.2.2.2.1 x.2.2.2.2.2.2.2.1.1 x.2.2.2.2.2.2.2.1.2.1 x.2.2.2.2.2.2.2.1.2.2.1 x.2.2.2.2.2.2.2.2.1 x.2.2.2.2.2.2.2.2.2.1 x.2.2.2.2.2.2.2.2.2.2.1.1 x.2.2.2.2.2.2.2.2.2.2.1.2.1 x.2.2.2.2.2.2.2.2.2.2.1.2.2.1 x.2.2.2.2.2.2.2.2.2.2.2.1 x.2.2.2.2.2.2.2.2.2.2.2.2.1.1 x.2.2.2.2.2.2.2.2.2.2.2.2.1.2.1 x.2.2.2.2.2.2.2.2.2.2.2.2.1.2.2.1 x.2.2.2.2.2.2.2.2.2.2.2.2.2.1.1 x.2.2.2.2.2.2.2.2.2.2.2.2.2.1.2.1 x.2.2.2.2.2.2.2.2.2.2.2.2.2.1.2.2.1 x.2.2.2.2.2.2.2.2.2.2.2.2.2.2.1.1 x.2.2.2.2.2.2.2.2.2.2.2.2.2.2.1.2.1 x.2.2.2.2.2.2.2.2.2.2.2.2.2.2.1.2.2.1 x.2.2.2.2.2.2.2.2.2.2.2.2.2.2.2.1) 2 code18 (mkSt cut18 (x0, (x1, x2, x3, ()), (x4, x5, x6, ()), x7, (x8, x9, x10, ()), x11, (x12, x13, x14, ()), x15, (x16, x17, x18, ()), x19, x20, (x21, x22, x23, ()), x24, ())) := by
  kernel_rfl
theorem c18_eq (n : Nat) (x0 : List (Int)) (x1 : Int) (x2 : List (Int × Int × Int)) (x3 : List (Int)) (x4 : Int) (x5 : List (Int × Int × Int)) (x6 : List (Int)) (x7 : Bool) (x8 : Int) (x9 : List (Int × Int × Int)) (x10 : List (Int)) (x11 : Int) (x12 : Int) (x13 : List (Int × Int × Int)) (x14 : List (Int)) (x15 : Bool) (x16 : Int) (x17 : List (Int × Int × Int)) (x18 : List (Int)) (x19 : Int) (x20 : Int) (x21 : Int) (x22 : List (Int × Int × Int)) (x23 : List (Int)) (x24 : Bool) : laws_FnMazeForms.c18 n x0 x1 x2 x3 x4 x5 x6 x7 x8 x9 x10 x11 x12 x13 x14 x15 x16 x17 x18 x19 x20 x21 x22 x23 x24 = exK cfg (pick (cal n)) (lam n) fin code18 (fun _ _ => none) (mkSt cut18 (x0, (x1, x2, x3, ()), (x4, x5, x6, ()), x7, (x8, x9, x10, ()), x11, (x12, x13, x14, ()), x15, (x16, x17, x18, ()), x19, x20, (x21, x22, x23, ()), x24, ())) fin := 
  (c18_seg n x0 x1 x2 x3 x4 x5 x6 x7 x8 x9 x10 x11 x12 x13 x14 x15 x16 x17 x18 x19 x20 x21 x22 x23 x24).trans (seg_eq 2 (by kernel_rfl) rfl (by kernel_rfl) (fun x => c23_eq n x.1.1 x.1.2.1 x.1.2.2.1 x.2.1.1 x.2.1.2.1 x.2.1.2.2.1 x.2.2.1 x.2.2.2.1.1 x.2.2.2.1.2.1 x.2.2.2.1.2.2.1 x.2.2.2.2.1 x.2.2.2.2.2.1.1 x.2.2.2.2.2.1.2.1 x.2.2.2.2.2.1.2.2.1 x.2.2.2.2.2.2.1 x.2.2.2.2.2.2.2.1.1 x.2.2.2.2.2.2.2.1.2.1 x.2.2.2.2.2.2.2.1.2.2.1 x.2.2.2.2.2.2.2.2.1 x.2.2.2.2.2.2.2.2.2.1 x.2.2.2.2.2.2.2.2.2.2.1.1 x.2.2.2.2.2.2.2.2.2.2.1.2.1 x.2.2.2.2.2.2.2.2.2.2.1.2.2.1 x.2.2.2.2.2.2.2.2.2.2.2.1 x.2.2.2.2.2.2.2.2.2.2.2.2.1.1 x.2.2.2.2.2.2.2.2.2.2.2.2.1.2.1 x.2.2.2.2.2.2.2.2.2.2.2.2.1.2.2.1 x.2.2.2.2.2.2.2.2.2.2.2.2.2.1.1 x.2.2.2.2.2.2.2.2.2.2.2.2.2.1.2.1 x.2.2.2.2.2.2.2.2.2.2.2.2.2.1.2.2.1 x.2.2.2.2.2.2.2.2.2.2.2.2.2.2.1.1 x.2.2.2.2.2.2.2.2.2.2.2.2.2.2.1.2.1 x.2.2.2.2.2.2.2.2.2.2.2.2.2.2.1.2.2.1 x.2.2.2.2.2.2.2.2.2.2.2.2.2.2.2.1))
theorem c13_seg (n : Nat) (x0 : List (Int)) (x1 : Int) (x2 : List (Int × Int × Int)) (x3 : List (Int)) (x4 : Int) (x5 : List (Int × Int × Int)) (x6 : List (Int)) (x7 : Bool) (x8 : Int) (x9 : List (Int × Int × Int)) (x10 : List (Int)) (x11 : Int) (x12 : Int) (x13 : List (Int × Int × Int)) (x14 : List (Int)) (x15 : Bool) : laws_FnMazeForms.c13 n x0 x1 x2 x3 x4 x5 x6 x7 x8 x9 x10 x11 x12 x13 x14 x15 = exSeg cfg (pick (cal n)) (lam n) fin (fun _ _ => none) cut18 (fun x => laws_FnMazeForms.c18 n x.1 x.2.1.1 x.2.1.2.1 x.2.1.2.2.1 x.2.2.1.1 x.2.2.1.2.1 x.2.2.1.2.2.1 x.2.2.2.1 x.2.2.2.2.1.1 x.2.2.2.2.1.2.1 x.2.2.2.2.1.2.2.1 x.2.2.2.2.2.1 x.2.2.2.2.2.2.1.1 x.2.2.2.2.2.2.1.2.1 x.2.2.2.2.2.2.1.2.2.1 x.2.2.2.2.2.2.2.1 x.2.2.2.2.2.2.2.2.1.1 x.2.2.2.2.2.2.2.2.1.2.1 x.2.2.2.2.2.2.2.2.1.2.2.1 x.2.2.2.2.2.2.2.2.2.1 x.2.2.2.2.2.2.2.2.2.2.1 x.2.2.2.2.2.2.2.2.2.2.2.1.1 x.2.2.2.2.2.2.2.2.2.2.2.1.2.1 x.2.2.2.2.2.2.2.2.2.2.2.1.2.2.1 x.2.2.2.2.2.2.2.2.2.2.2.2.1) 2 code13 (mkSt cut13 (x0, (x1, x2, x3, ()), (x4, x5, x6, ()), x7, (x8, x9, x10, ()), x11, (x12, x13, x14, ()), x15, ())) := by
  kernel_rfl
theorem c13_eq (n : Nat) (x0 : List (Int)) (x1 : Int) (x2 : List (Int × Int × Int)) (x3 : List (Int)) (x4 : Int) (x5 : List (Int × Int × Int)) (x6 : List (Int)) (x7 : Bool) (x8 : Int) (x9 : List (Int × Int × Int)) (x10 : List (Int)) (x11 : Int) (x12 : Int) (x13 : List (Int × Int × Int)) (x14 : List (Int)) (x15 : Bool) : laws_FnMazeForms.c13 n x0 x1 x2 x3 x4 x5 x6 x7 x8 x9 x10 x11 x12 x13 x14 x15 = exK cfg (pick (cal n)) (lam n) fin code13 (fun _ _ => none) (mkSt cut13 (x0, (x1, x2, x3, ()), (x4, x5, x6, ()), x7, (x8, x9, x10, ()), x11, (x12, x13, x14, ()), x15, ())) fin := 
  (c13_seg n x0 x1 x2 x3 x4 x5 x6 x7 x8 x9 x10 x11 x12 x13 x14 x15).trans (seg_eq 2 (by kernel_rfl) rfl (by kernel_rfl) (fun x => c18_eq n x.1 x.2.1.1 x.2.1.2.1 x.2.1.2.2.1 x.2.2.1.1 x.2.2.1.2.1 x.2.2.1.2.2.1 x.2.2.2.1 x.2.2.2.2.1.1 x.2.2.2.2.1.2.1 x.2.2.2.2.1.2.2.1 x.2.2.2.2.2.1 x.2.2.2.2.2.2.1.1 x.2.2.2.2.2.2.1.2.1 x.2.2.2.2.2.2.1.2.2.1 x.2.2.2.2.2.2.2.1 x.2.2.2.2.2.2.2.2.1.1 x.2.2.2.2.2.2.2.2.1.2.1 x.2.2.2.2.2.2.2.2.1.2.2.1 x.2.2.2.2.2.2.2.2.2.1 x.2.2.2.2.2.2.2.2.2.2.1 x.2.2.2.2.2.2.2.2.2.2.2.1.1 x.2.2.2.2.2.2.2.2.2.2.2.1.2.1 x.2.2.2.2.2.2.2.2.2.2.2.1.2.2.1 x.2.2.2.2.2.2.2.2.2.2.2.2.1))
theorem c8_seg (n : Nat) (x0 : List (Int)) (x1 : Int) (x2 : List (Int × Int × Int)) (x3 : List (Int)) (x4 : Int) (x5 : List (Int × Int × Int)) (x6 : List (Int)) (x7 : Bool) : laws_FnMazeForms.c8 n x0 x1 x2 x3 x4 x5 x6 x7 = exSeg cfg (pick (cal n)) (lam n) fin (fun _ _ => none) cut13 (fun x => laws_FnMazeForms.c13 n x.1 x.2.1.1 x.2.1.2.1 x.2.1.2.2.1 x.2.2.1.1 x.2.2.1.2.1 x.2.2.1.2.2.1 x.2.2.2.1 x.2.2.2.2.1.1 x.2.2.2.2.1.2.1 x.2.2.2.2.1.2.2.1 x.2.2.2.2.2.1 x.2.2.2.2.2.2.1.1 x.2.2.2.2.2.2.1.2.1 x.2.2.2.2.2.2.1.2.2.1 x.2.2.2.2.2.2.2.1) 2 code8 (mkSt cut8 (x0, (x1, x2, x3, ()), (x4, x5, x6, ()), x7, ())) := by
  kernel_rfl
theorem c8_eq (n : Nat) (x0 : List (Int)) (x1 : Int) (x2 : List (Int × Int × Int)) (x3 : List (Int)) (x4 : Int) (x5 : List (Int × Int × Int)) (x6 : List (Int)) (x7 : Bool) : laws_FnMazeForms.c8 n x0 x1 x2 x3 x4 x5 x6 x7 = exK cfg (pick (cal n)) (lam n) fin code8 (fun _ _ => none) (mkSt cut8 (x0, (x1, x2, x3, ()), (x4, x5, x6, ()), x7, ())) fin := 
  (c8_seg n x0 x1 x2 x3 x4 x5 x6 x7).trans (seg_eq 2 (by kernel_rfl) rfl (by kernel_rfl) (fun x => c13_eq n x.1 x.2.1.1 x.2.1.2.1 x.2.1.2.2.1 x.2.2.1.1 x.2.2.1.2.1 x.2.2.1.2.2.1 x.2.2.2.1 x.2.2.2.2.1.1 x.2.2.2.2.1.2.1 x.2.2.2.2.1.2.2.1 x.2.2.2.2.2.1 x.2.2.2.2.2.2.1.1 x.2.2.2.2.2.2.1.2.1 x.2.2.2.2.2.2.1.2.2.1 x.2.2.2.2.2.2.2.1))
theorem F_seg (n : Nat) (x0 : List (Int)) : laws_FnMazeForms.F n x0 = exSeg cfg (pick (cal n)) (lam n) fin (fun _ _ => none) cut8 (fun x => laws_FnMazeForms.c8 n x.1 x.2.1.1 x.2.1.2.1 x.2.1.2.2.1 x.2.2.1.1 x.2.2.1.2.1 x.2.2.1.2.2.1 x.2.2.2.1) 4 code (mkSt shp (x0, ())) := by
  kernel_rfl
theorem F_eq (n : Nat) (x0 : List (Int)) : laws_FnMazeForms.F n x0 = exK cfg (pick (cal n)) (lam n) fin code (fun _ _ => none) (mkSt shp (x0, ())) fin :=
  (F_seg n x0).trans (seg_eq 4 (by kernel_rfl) rfl (by kernel_rfl) (fun x => c8_eq n x.1 x.2.1.1 x.2.1.2.1 x.2.1.2.2.1 x.2.2.1.1 x.2.2.1.2.1 x.2.2.1.2.2.1 x.2.2.2.1))
def pfn (n : Nat) : PFn := mkFn shp outs (fun x => laws_FnMazeForms.F n x.1) out
theorem ok (n : Nat) : (pfn n).Ok Go.Proofs.Try.prog 8 :=
  mkFn_ok (fn := Go.Proofs.Try.f8) (code := code) Go.Proofs.Try.func8 (by kernel_rfl) (by decide) (C := cfg) (Φ := pick (cal n)) (Λ := lam n) (into := into) hT (cal_ok n) (by kernel_rfl) rfl (by decide) rfl (fun _ => rfl) (loops n)
    (fun x r h => by
      have e := F_eq n x.1
      exact e.symm.trans h)
end laws_FnMazeForms
end
end
end Go.Pf
