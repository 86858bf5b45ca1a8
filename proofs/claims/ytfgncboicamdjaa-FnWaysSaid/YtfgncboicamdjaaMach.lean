/- The Go functions of this seat do what their pure functions tell; printed by a program of mine (mach.py). -/
import Derived.Test.YtfgncboicamdjaaMach1
set_option linter.unusedVariables false
set_option autoImplicit false
set_option maxRecDepth 100000
set_option maxHeartbeats 4000000
namespace Go.Pf
open Go Go.Fx
noncomputable section

/-! ### loop.example/g01158/spec.l4Spread -/
section
namespace spec_l4Spread
noncomputable def code : Code := (Go.Proofs.Try.f111.body).getD .skip
abbrev shp : Shape := [(0, .agg [.int .i64, .row (.t3) false, .row (.int .i64) false]), (1, .one (.int .i64)), (2, .one (.int .i64))]
abbrev outs : List KD := [.one (.row (.int .i64) true)]
abbrev R : Type := (List (Int))
def out : R → denL outs := fun r => (r, ())
def into : denL outs → R := fun y => y.1
def cfg : Cfg := ⟨ty, 89, [], fun i => match Nat.beq i 0 with | true => .loop | false => match Nat.beq i 4 with | true => .loop | false => match Nat.beq i 2 with | true => .loop | false => .plain, fun _ => none⟩
def cal (n : Nat) : List (Nat × PFn) := [(70, spec_l4Id.pfn n), (71, spec_l4Step.pfn n)]
theorem cal_ok (n : Nat) : ∀ g, (pick (cal n) g).Ok Go.Proofs.Try.prog g := pick_ok (by
  intro p hp
  simp only [cal, List.mem_cons, List.not_mem_nil, or_false] at hp
  rcases hp with rfl | rfl
  · exact spec_l4Id.ok n
  · exact spec_l4Step.ok n)
def fin : St → Option R := finOf ty [.tmp 6] outs into
abbrev sin0 : Shape := [(1, .one (.int .i64)), (2, .one (.int .i64)), (3, .box true [.int .i64, .row (.t3) false, .row (.int .i64) false]), (7, .one (.row (.int .i64) true)), (8, .one (.int .i64))]
abbrev sout0 : Shape := [(1, .one (.int .i64)), (2, .one (.int .i64)), (3, .box true [.int .i64, .row (.t3) false, .row (.int .i64) false]), (7, .one (.row (.int .i64) true))]
abbrev sin4 : Shape := [(3, .box true [.int .i64, .row (.t3) false, .row (.int .i64) false]), (7, .one (.row (.int .i64) true)), (9, .one (.row (.int .i64) true)), (10, .one (.int .i64)), (11, .one (.row (.int .i64) true)), (12, .one (.int .i64))]
abbrev sout4 : Shape := [(3, .box true [.int .i64, .row (.t3) false, .row (.int .i64) false]), (7, .one (.row (.int .i64) true)), (9, .one (.row (.int .i64) true)), (10, .one (.int .i64))]
abbrev sin2 : Shape := [(3, .box true [.int .i64, .row (.t3) false, .row (.int .i64) false]), (7, .one (.row (.int .i64) true)), (9, .one (.row (.int .i64) true)), (10, .one (.int .i64))]
abbrev sout2 : Shape := [(7, .one (.row (.int .i64) true))]
def lam (n : Nat) : Nat → (St → Option R) → St → Option R := fun i => match Nat.beq i 0 with | true => (fun K st => match absSt sin0 st with | some (x, _) => spec_l4Spread.l0 n (fun y0 y1 y2 y3 y4 y5 => K (mkSt sout0 (y0, y1, (y2, y3, y4, ()), y5, ()))) n x.1 x.2.1 x.2.2.1.1 x.2.2.1.2.1 x.2.2.1.2.2.1 x.2.2.2.1 x.2.2.2.2.1 | none => none) | false => match Nat.beq i 4 with | true => (fun K st => match absSt sin4 st with | some (x, _) => spec_l4Spread.l4 n (fun y0 y1 y2 y3 y4 y5 => K (mkSt sout4 ((y0, y1, y2, ()), y3, y4, y5, ()))) n x.1.1 x.1.2.1 x.1.2.2.1 x.2.1 x.2.2.1 x.2.2.2.1 x.2.2.2.2.1 x.2.2.2.2.2.1 | none => none) | false => match Nat.beq i 2 with | true => (fun K st => match absSt sin2 st with | some (x, _) => spec_l4Spread.l2 n (fun y0 => K (mkSt sout2 (y0, ()))) n x.1.1 x.1.2.1 x.1.2.2.1 x.2.1 x.2.2.1 x.2.2.2.1 | none => none) | false => fun _ _ => none
noncomputable def lps : List (Nat × Code) := loopsOf cfg.blk code
noncomputable def b0 : Code := bodyOf lps 0
theorem l0_eq (n : Nat) (K : St → Option R) : ∀ (j : Nat) (x0 : Int) (x1 : Int) (x2 : Int) (x3 : List (Int × Int × Int)) (x4 : List (Int)) (x5 : List (Int)) (x6 : Int), spec_l4Spread.l0 n (fun y0 y1 y2 y3 y4 y5 => K (mkSt sout0 (y0, y1, (y2, y3, y4, ()), y5, ()))) j x0 x1 x2 x3 x4 x5 x6 = iter (roundK cfg (pick (cal n)) (lam n) fin 0 b0 sin0 sout0 K) j (mkSt sin0 (x0, x1, (x2, x3, x4, ()), x5, x6, ()))
  | 0, _, _, _, _, _, _, _ => rfl
  | j + 1, x0, x1, x2, x3, x4, x5, x6 => by
    have ih : spec_l4Spread.l0 n (fun y0 y1 y2 y3 y4 y5 => K (mkSt sout0 (y0, y1, (y2, y3, y4, ()), y5, ()))) j = fun x0 x1 x2 x3 x4 x5 x6 => iter (roundK cfg (pick (cal n)) (lam n) fin 0 b0 sin0 sout0 K) j (mkSt sin0 (x0, x1, (x2, x3, x4, ()), x5, x6, ())) := funext fun x0 => funext fun x1 => funext fun x2 => funext fun x3 => funext fun x4 => funext fun x5 => funext fun x6 => l0_eq n K j x0 x1 x2 x3 x4 x5 x6
    rw [spec_l4Spread.l0, ih]
    show _ = roundK cfg (pick (cal n)) (lam n) fin 0 b0 sin0 sout0 K (iter (roundK cfg (pick (cal n)) (lam n) fin 0 b0 sin0 sout0 K) j) (mkSt sin0 (x0, x1, (x2, x3, x4, ()), x5, x6, ()))
    kernel_rfl
noncomputable def b4 : Code := bodyOf lps 4
theorem l4_eq (n : Nat) (K : St → Option R) : ∀ (j : Nat) (x0 : Int) (x1 : List (Int × Int × Int)) (x2 : List (Int)) (x3 : List (Int)) (x4 : List (Int)) (x5 : Int) (x6 : List (Int)) (x7 : Int), spec_l4Spread.l4 n (fun y0 y1 y2 y3 y4 y5 => K (mkSt sout4 ((y0, y1, y2, ()), y3, y4, y5, ()))) j x0 x1 x2 x3 x4 x5 x6 x7 = iter (roundK cfg (pick (cal n)) (lam n) fin 4 b4 sin4 sout4 K) j (mkSt sin4 ((x0, x1, x2, ()), x3, x4, x5, x6, x7, ()))
  | 0, _, _, _, _, _, _, _, _ => rfl
  | j + 1, x0, x1, x2, x3, x4, x5, x6, x7 => by
    have ih : spec_l4Spread.l4 n (fun y0 y1 y2 y3 y4 y5 => K (mkSt sout4 ((y0, y1, y2, ()), y3, y4, y5, ()))) j = fun x0 x1 x2 x3 x4 x5 x6 x7 => iter (roundK cfg (pick (cal n)) (lam n) fin 4 b4 sin4 sout4 K) j (mkSt sin4 ((x0, x1, x2, ()), x3, x4, x5, x6, x7, ())) := funext fun x0 => funext fun x1 => funext fun x2 => funext fun x3 => funext fun x4 => funext fun x5 => funext fun x6 => funext fun x7 => l4_eq n K j x0 x1 x2 x3 x4 x5 x6 x7
    rw [spec_l4Spread.l4, ih]
    show _ = roundK cfg (pick (cal n)) (lam n) fin 4 b4 sin4 sout4 K (iter (roundK cfg (pick (cal n)) (lam n) fin 4 b4 sin4 sout4 K) j) (mkSt sin4 ((x0, x1, x2, ()), x3, x4, x5, x6, x7, ()))
    kernel_rfl
noncomputable def b2 : Code := bodyOf lps 2
theorem l2_eq (n : Nat) (K : St → Option R) : ∀ (j : Nat) (x0 : Int) (x1 : List (Int × Int × Int)) (x2 : List (Int)) (x3 : List (Int)) (x4 : List (Int)) (x5 : Int), spec_l4Spread.l2 n (fun y0 => K (mkSt sout2 (y0, ()))) j x0 x1 x2 x3 x4 x5 = iter (roundK cfg (pick (cal n)) (lam n) fin 2 b2 sin2 sout2 K) j (mkSt sin2 ((x0, x1, x2, ()), x3, x4, x5, ()))
  | 0, _, _, _, _, _, _ => rfl
  | j + 1, x0, x1, x2, x3, x4, x5 => by
    have ih : spec_l4Spread.l2 n (fun y0 => K (mkSt sout2 (y0, ()))) j = fun x0 x1 x2 x3 x4 x5 => iter (roundK cfg (pick (cal n)) (lam n) fin 2 b2 sin2 sout2 K) j (mkSt sin2 ((x0, x1, x2, ()), x3, x4, x5, ())) := funext fun x0 => funext fun x1 => funext fun x2 => funext fun x3 => funext fun x4 => funext fun x5 => l2_eq n K j x0 x1 x2 x3 x4 x5
    rw [spec_l4Spread.l2, ih]
    show _ = roundK cfg (pick (cal n)) (lam n) fin 2 b2 sin2 sout2 K (iter (roundK cfg (pick (cal n)) (lam n) fin 2 b2 sin2 sout2 K) j) (mkSt sin2 ((x0, x1, x2, ()), x3, x4, x5, ()))
    kernel_rfl
theorem loops (n : Nat) : LoopsOk cfg (pick (cal n)) (lam n) fin (loopsOf cfg.blk code) := by
  have h : loopsOf cfg.blk code = [(0, b0), (2, b2), (4, b4)] := by kernel_rfl
  rw [h]
  intro p hp K st r hr
  simp only [List.mem_cons, List.not_mem_nil, or_false] at hp
  rcases hp with rfl | rfl | rfl
  · have hr' : (match absSt sin0 st with | some (x, _) => spec_l4Spread.l0 n (fun y0 y1 y2 y3 y4 y5 => K (mkSt sout0 (y0, y1, (y2, y3, y4, ()), y5, ()))) n x.1 x.2.1 x.2.2.1.1 x.2.2.1.2.1 x.2.2.1.2.2.1 x.2.2.2.1 x.2.2.2.2.1 | none => none) = some r := hr
    split at hr'
    · rename_i x es hx
      rw [l0_eq] at hr'
      exact ⟨sin0, sout0, n, x, es, hx, hr'⟩
    · cases hr'
  · have hr' : (match absSt sin2 st with | some (x, _) => spec_l4Spread.l2 n (fun y0 => K (mkSt sout2 (y0, ()))) n x.1.1 x.1.2.1 x.1.2.2.1 x.2.1 x.2.2.1 x.2.2.2.1 | none => none) = some r := hr
    split at hr'
    · rename_i x es hx
      rw [l2_eq] at hr'
      exact ⟨sin2, sout2, n, x, es, hx, hr'⟩
    · cases hr'
  · have hr' : (match absSt sin4 st with | some (x, _) => spec_l4Spread.l4 n (fun y0 y1 y2 y3 y4 y5 => K (mkSt sout4 ((y0, y1, y2, ()), y3, y4, y5, ()))) n x.1.1 x.1.2.1 x.1.2.2.1 x.2.1 x.2.2.1 x.2.2.2.1 x.2.2.2.2.1 x.2.2.2.2.2.1 | none => none) = some r := hr
    split at hr'
    · rename_i x es hx
      rw [l4_eq] at hr'
      exact ⟨sin4, sout4, n, x, es, hx, hr'⟩
    · cases hr'
theorem F_eq (n : Nat) (x0 : Int) (x1 : List (Int × Int × Int)) (x2 : List (Int)) (x3 : Int) (x4 : Int) : spec_l4Spread.F n x0 x1 x2 x3 x4 = exK cfg (pick (cal n)) (lam n) fin code (fun _ _ => none) (mkSt shp ((x0, x1, x2, ()), x3, x4, ())) fin := by
  kernel_rfl
def pfn (n : Nat) : PFn := mkFn shp outs (fun x => spec_l4Spread.F n x.1.1 x.1.2.1 x.1.2.2.1 x.2.1 x.2.2.1) out
theorem ok (n : Nat) : (pfn n).Ok Go.Proofs.Try.prog 111 :=
  mkFn_ok (fn := Go.Proofs.Try.f111) (code := code) Go.Proofs.Try.func111 (by kernel_rfl) (by decide) (C := cfg) (Φ := pick (cal n)) (Λ := lam n) (into := into) hT (cal_ok n) (by kernel_rfl) rfl (by decide) rfl (fun _ => rfl) (loops n)
    (fun x r h => by
      have e := F_eq n x.1.1 x.1.2.1 x.1.2.2.1 x.2.1 x.2.2.1
      exact e.symm.trans h)
end spec_l4Spread
end
/-! ### loop.example/g01158/spec.l4First -/
section
namespace spec_l4First
noncomputable def code : Code := (Go.Proofs.Try.f90.body).getD .skip
abbrev shp : Shape := [(0, .agg [.int .i64, .row (.t3) false, .row (.int .i64) false])]
abbrev outs : List KD := [.one (.row (.int .i64) true)]
abbrev R : Type := (List (Int))
def out : R → denL outs := fun r => (r, ())
def into : denL outs → R := fun y => y.1
def cfg : Cfg := ⟨ty, 9, [], fun _ => .plain, fun _ => none⟩
def cal (n : Nat) : List (Nat × PFn) := [(111, spec_l4Spread.pfn n)]
theorem cal_ok (n : Nat) : ∀ g, (pick (cal n) g).Ok Go.Proofs.Try.prog g := pick_ok (by
  intro p hp
  simp only [cal, List.mem_cons, List.not_mem_nil, or_false] at hp
  rcases hp with rfl
  · exact spec_l4Spread.ok n)
def fin : St → Option R := finOf ty [.tmp 2] outs into
def lam (n : Nat) : Nat → (St → Option R) → St → Option R := fun _ => fun _ _ => none
theorem loops (n : Nat) : LoopsOk cfg (pick (cal n)) (lam n) fin (loopsOf cfg.blk code) := by
  have h : loopsOf cfg.blk code = [] := by kernel_rfl
  rw [h]
  intro p hp
  cases hp
theorem F_eq (n : Nat) (x0 : Int) (x1 : List (Int × Int × Int)) (x2 : List (Int)) : spec_l4First.F n x0 x1 x2 = exK cfg (pick (cal n)) (lam n) fin code (fun _ _ => none) (mkSt shp ((x0, x1, x2, ()), ())) fin := by
  kernel_rfl
def pfn (n : Nat) : PFn := mkFn shp outs (fun x => spec_l4First.F n x.1.1 x.1.2.1 x.1.2.2.1) out
theorem ok (n : Nat) : (pfn n).Ok Go.Proofs.Try.prog 90 :=
  mkFn_ok (fn := Go.Proofs.Try.f90) (code := code) Go.Proofs.Try.func90 (by kernel_rfl) (by decide) (C := cfg) (Φ := pick (cal n)) (Λ := lam n) (into := into) hT (cal_ok n) (by kernel_rfl) rfl (by decide) rfl (fun _ => rfl) (loops n)
    (fun x r h => by
      have e := F_eq n x.1.1 x.1.2.1 x.1.2.2.1
      exact e.symm.trans h)
end spec_l4First
end
/-! ### loop.example/g01158/spec.l2Many -/
section
namespace spec_l2Many
noncomputable def code : Code := (Go.Proofs.Try.f140.body).getD .skip
abbrev shp : Shape := [(0, .one (.int .i64))]
abbrev outs : List KD := [.one (.int .i64)]
abbrev R : Type := Int
def out : R → denL outs := fun r => (r, ())
def into : denL outs → R := fun y => y.1
def cfg : Cfg := ⟨ty, 13, [], fun i => match Nat.beq i 0 with | true => .loop | false => .plain, fun _ => none⟩
def cal (n : Nat) : List (Nat × PFn) := []
theorem cal_ok (n : Nat) : ∀ g, (pick (cal n) g).Ok Go.Proofs.Try.prog g := pick_ok (by
  intro p hp
  cases hp)
def fin : St → Option R := finOf ty [.tmp 2] outs into
abbrev sin0 : Shape := [(0, .one (.int .i64)), (3, .one (.int .i64))]
abbrev sout0 : Shape := [(3, .one (.int .i64))]
def lam (n : Nat) : Nat → (St → Option R) → St → Option R := fun i => match Nat.beq i 0 with | true => (fun K st => match absSt sin0 st with | some (x, _) => spec_l2Many.l0 n (fun y0 => K (mkSt sout0 (y0, ()))) n x.1 x.2.1 | none => none) | false => fun _ _ => none
noncomputable def lps : List (Nat × Code) := loopsOf cfg.blk code
noncomputable def b0 : Code := bodyOf lps 0
theorem l0_eq (n : Nat) (K : St → Option R) : ∀ (j : Nat) (x0 : Int) (x1 : Int), spec_l2Many.l0 n (fun y0 => K (mkSt sout0 (y0, ()))) j x0 x1 = iter (roundK cfg (pick (cal n)) (lam n) fin 0 b0 sin0 sout0 K) j (mkSt sin0 (x0, x1, ()))
  | 0, _, _ => rfl
  | j + 1, x0, x1 => by
    have ih : spec_l2Many.l0 n (fun y0 => K (mkSt sout0 (y0, ()))) j = fun x0 x1 => iter (roundK cfg (pick (cal n)) (lam n) fin 0 b0 sin0 sout0 K) j (mkSt sin0 (x0, x1, ())) := funext fun x0 => funext fun x1 => l0_eq n K j x0 x1
    rw [spec_l2Many.l0, ih]
    show _ = roundK cfg (pick (cal n)) (lam n) fin 0 b0 sin0 sout0 K (iter (roundK cfg (pick (cal n)) (lam n) fin 0 b0 sin0 sout0 K) j) (mkSt sin0 (x0, x1, ()))
    kernel_rfl
theorem loops (n : Nat) : LoopsOk cfg (pick (cal n)) (lam n) fin (loopsOf cfg.blk code) := by
  have h : loopsOf cfg.blk code = [(0, b0)] := by kernel_rfl
  rw [h]
  intro p hp K st r hr
  simp only [List.mem_cons, List.not_mem_nil, or_false] at hp
  rcases hp with rfl
  · have hr' : (match absSt sin0 st with | some (x, _) => spec_l2Many.l0 n (fun y0 => K (mkSt sout0 (y0, ()))) n x.1 x.2.1 | none => none) = some r := hr
    split at hr'
    · rename_i x es hx
      rw [l0_eq] at hr'
      exact ⟨sin0, sout0, n, x, es, hx, hr'⟩
    · cases hr'
theorem F_eq (n : Nat) (x0 : Int) : spec_l2Many.F n x0 = exK cfg (pick (cal n)) (lam n) fin code (fun _ _ => none) (mkSt shp (x0, ())) fin := by
  kernel_rfl
def pfn (n : Nat) : PFn := mkFn shp outs (fun x => spec_l2Many.F n x.1) out
theorem ok (n : Nat) : (pfn n).Ok Go.Proofs.Try.prog 140 :=
  mkFn_ok (fn := Go.Proofs.Try.f140) (code := code) Go.Proofs.Try.func140 (by kernel_rfl) (by decide) (C := cfg) (Φ := pick (cal n)) (Λ := lam n) (into := into) hT (cal_ok n) (by kernel_rfl) rfl (by decide) rfl (fun _ => rfl) (loops n)
    (fun x r h => by
      have e := F_eq n x.1
      exact e.symm.trans h)
end spec_l2Many
end
/-! ### loop.example/g01158/spec.l4Least -/
section
namespace spec_l4Least
noncomputable def code : Code := (Go.Proofs.Try.f91.body).getD .skip
abbrev shp : Shape := [(0, .one (.row (.int .i64) false)), (1, .one (.int .i64)), (2, .one (.int .i64)), (3, .one (.int .i64))]
abbrev outs : List KD := [.one (.int .i64)]
abbrev R : Type := Int
def out : R → denL outs := fun r => (r, ())
def into : denL outs → R := fun y => y.1
def cfg : Cfg := ⟨ty, 46, [], fun i => match Nat.beq i 0 with | true => .loop | false => .plain, fun _ => none⟩
def cal (n : Nat) : List (Nat × PFn) := [(70, spec_l4Id.pfn n), (139, spec_l2Has.pfn n), (140, spec_l2Many.pfn n)]
theorem cal_ok (n : Nat) : ∀ g, (pick (cal n) g).Ok Go.Proofs.Try.prog g := pick_ok (by
  intro p hp
  simp only [cal, List.mem_cons, List.not_mem_nil, or_false] at hp
  rcases hp with rfl | rfl | rfl
  · exact spec_l4Id.ok n
  · exact spec_l2Has.ok n
  · exact spec_l2Many.ok n)
def fin : St → Option R := finOf ty [.tmp 8] outs into
abbrev sin0 : Shape := [(0, .one (.row (.int .i64) false)), (1, .one (.int .i64)), (2, .one (.int .i64)), (3, .one (.int .i64)), (9, .one (.int .i64)), (10, .one (.int .i64))]
abbrev sout0 : Shape := [(9, .one (.int .i64))]
def lam (n : Nat) : Nat → (St → Option R) → St → Option R := fun i => match Nat.beq i 0 with | true => (fun K st => match absSt sin0 st with | some (x, _) => spec_l4Least.l0 n (fun y0 => K (mkSt sout0 (y0, ()))) n x.1 x.2.1 x.2.2.1 x.2.2.2.1 x.2.2.2.2.1 x.2.2.2.2.2.1 | none => none) | false => fun _ _ => none
noncomputable def lps : List (Nat × Code) := loopsOf cfg.blk code
noncomputable def b0 : Code := bodyOf lps 0
theorem l0_eq (n : Nat) (K : St → Option R) : ∀ (j : Nat) (x0 : List (Int)) (x1 : Int) (x2 : Int) (x3 : Int) (x4 : Int) (x5 : Int), spec_l4Least.l0 n (fun y0 => K (mkSt sout0 (y0, ()))) j x0 x1 x2 x3 x4 x5 = iter (roundK cfg (pick (cal n)) (lam n) fin 0 b0 sin0 sout0 K) j (mkSt sin0 (x0, x1, x2, x3, x4, x5, ()))
  | 0, _, _, _, _, _, _ => rfl
  | j + 1, x0, x1, x2, x3, x4, x5 => by
    have ih : spec_l4Least.l0 n (fun y0 => K (mkSt sout0 (y0, ()))) j = fun x0 x1 x2 x3 x4 x5 => iter (roundK cfg (pick (cal n)) (lam n) fin 0 b0 sin0 sout0 K) j (mkSt sin0 (x0, x1, x2, x3, x4, x5, ())) := funext fun x0 => funext fun x1 => funext fun x2 => funext fun x3 => funext fun x4 => funext fun x5 => l0_eq n K j x0 x1 x2 x3 x4 x5
    rw [spec_l4Least.l0, ih]
    show _ = roundK cfg (pick (cal n)) (lam n) fin 0 b0 sin0 sout0 K (iter (roundK cfg (pick (cal n)) (lam n) fin 0 b0 sin0 sout0 K) j) (mkSt sin0 (x0, x1, x2, x3, x4, x5, ()))
    kernel_rfl
theorem loops (n : Nat) : LoopsOk cfg (pick (cal n)) (lam n) fin (loopsOf cfg.blk code) := by
  have h : loopsOf cfg.blk code = [(0, b0)] := by kernel_rfl
  rw [h]
  intro p hp K st r hr
  simp only [List.mem_cons, List.not_mem_nil, or_false] at hp
  rcases hp with rfl
  · have hr' : (match absSt sin0 st with | some (x, _) => spec_l4Least.l0 n (fun y0 => K (mkSt sout0 (y0, ()))) n x.1 x.2.1 x.2.2.1 x.2.2.2.1 x.2.2.2.2.1 x.2.2.2.2.2.1 | none => none) = some r := hr
    split at hr'
    · rename_i x es hx
      rw [l0_eq] at hr'
      exact ⟨sin0, sout0, n, x, es, hx, hr'⟩
    · cases hr'
theorem F_eq (n : Nat) (x0 : List (Int)) (x1 : Int) (x2 : Int) (x3 : Int) : spec_l4Least.F n x0 x1 x2 x3 = exK cfg (pick (cal n)) (lam n) fin code (fun _ _ => none) (mkSt shp (x0, x1, x2, x3, ())) fin := by
  kernel_rfl
def pfn (n : Nat) : PFn := mkFn shp outs (fun x => spec_l4Least.F n x.1 x.2.1 x.2.2.1 x.2.2.2.1) out
theorem ok (n : Nat) : (pfn n).Ok Go.Proofs.Try.prog 91 :=
  mkFn_ok (fn := Go.Proofs.Try.f91) (code := code) Go.Proofs.Try.func91 (by kernel_rfl) (by decide) (C := cfg) (Φ := pick (cal n)) (Λ := lam n) (into := into) hT (cal_ok n) (by kernel_rfl) rfl (by decide) rfl (fun _ => rfl) (loops n)
    (fun x r h => by
      have e := F_eq n x.1 x.2.1 x.2.2.1 x.2.2.2.1
      exact e.symm.trans h)
end spec_l4Least
end
/-! ### loop.example/g01158/spec.l4Told -/
section
namespace spec_l4Told
noncomputable def code : Code := (Go.Proofs.Try.f99.body).getD .skip
abbrev shp : Shape := [(0, .one (.int .i64))]
abbrev outs : List KD := [.one (.int .i64), .one (.bool)]
abbrev R : Type := Int × Bool
def out : R → denL outs := fun r => (r.1, r.2, ())
def into : denL outs → R := fun y => (y.1, y.2.1)
def cfg : Cfg := ⟨ty, 8, [], fun _ => .plain, fun _ => none⟩
def cal (n : Nat) : List (Nat × PFn) := [(142, spec_l1Most.pfn n)]
theorem cal_ok (n : Nat) : ∀ g, (pick (cal n) g).Ok Go.Proofs.Try.prog g := pick_ok (by
  intro p hp
  simp only [cal, List.mem_cons, List.not_mem_nil, or_false] at hp
  rcases hp with rfl
  · exact spec_l1Most.ok n)
def fin : St → Option R := finOf ty [.tmp 2, .tmp 3] outs into
def lam (n : Nat) : Nat → (St → Option R) → St → Option R := fun _ => fun _ _ => none
theorem loops (n : Nat) : LoopsOk cfg (pick (cal n)) (lam n) fin (loopsOf cfg.blk code) := by
  have h : loopsOf cfg.blk code = [] := by kernel_rfl
  rw [h]
  intro p hp
  cases hp
theorem F_eq (n : Nat) (x0 : Int) : spec_l4Told.F n x0 = exK cfg (pick (cal n)) (lam n) fin code (fun _ _ => none) (mkSt shp (x0, ())) fin := by
  kernel_rfl
def pfn (n : Nat) : PFn := mkFn shp outs (fun x => spec_l4Told.F n x.1) out
theorem ok (n : Nat) : (pfn n).Ok Go.Proofs.Try.prog 99 :=
  mkFn_ok (fn := Go.Proofs.Try.f99) (code := code) Go.Proofs.Try.func99 (by kernel_rfl) (by decide) (C := cfg) (Φ := pick (cal n)) (Λ := lam n) (into := into) hT (cal_ok n) (by kernel_rfl) rfl (by decide) rfl (fun _ => rfl) (loops n)
    (fun x r h => by
      have e := F_eq n x.1
      exact e.symm.trans h)
end spec_l4Told
end
/-! ### loop.example/g01158/spec.FewestSteps -/
section
namespace spec_FewestSteps
noncomputable def code : Code := (Go.Proofs.Try.f41.body).getD .skip
abbrev shp : Shape := [(0, .agg [.int .i64, .row (.t3) false, .row (.int .i64) false])]
abbrev outs : List KD := [.one (.int .i64), .one (.bool)]
abbrev R : Type := Int × Bool
def out : R → denL outs := fun r => (r.1, r.2, ())
def into : denL outs → R := fun y => (y.1, y.2.1)
def cfg : Cfg := ⟨ty, 16, [], fun _ => .plain, fun _ => none⟩
def cal (n : Nat) : List (Nat × PFn) := [(68, spec_l2Maze.pfn n), (90, spec_l4First.pfn n), (91, spec_l4Least.pfn n), (99, spec_l4Told.pfn n)]
theorem cal_ok (n : Nat) : ∀ g, (pick (cal n) g).Ok Go.Proofs.Try.prog g := pick_ok (by
  intro p hp
  simp only [cal, List.mem_cons, List.not_mem_nil, or_false] at hp
  rcases hp with rfl | rfl | rfl | rfl
  · exact spec_l2Maze.ok n
  · exact spec_l4First.ok n
  · exact spec_l4Least.ok n
  · exact spec_l4Told.ok n)
def fin : St → Option R := finOf ty [.tmp 2, .tmp 3] outs into
def lam (n : Nat) : Nat → (St → Option R) → St → Option R := fun _ => fun _ _ => none
theorem loops (n : Nat) : LoopsOk cfg (pick (cal n)) (lam n) fin (loopsOf cfg.blk code) := by
  have h : loopsOf cfg.blk code = [] := by kernel_rfl
  rw [h]
  intro p hp
  cases hp
theorem F_eq (n : Nat) (x0 : Int) (x1 : List (Int × Int × Int)) (x2 : List (Int)) : spec_FewestSteps.F n x0 x1 x2 = exK cfg (pick (cal n)) (lam n) fin code (fun _ _ => none) (mkSt shp ((x0, x1, x2, ()), ())) fin := by
  kernel_rfl
def pfn (n : Nat) : PFn := mkFn shp outs (fun x => spec_FewestSteps.F n x.1.1 x.1.2.1 x.1.2.2.1) out
theorem ok (n : Nat) : (pfn n).Ok Go.Proofs.Try.prog 41 :=
  mkFn_ok (fn := Go.Proofs.Try.f41) (code := code) Go.Proofs.Try.func41 (by kernel_rfl) (by decide) (C := cfg) (Φ := pick (cal n)) (Λ := lam n) (into := into) hT (cal_ok n) (by kernel_rfl) rfl (by decide) rfl (fun _ => rfl) (loops n)
    (fun x r h => by
      have e := F_eq n x.1.1 x.1.2.1 x.1.2.2.1
      exact e.symm.trans h)
end spec_FewestSteps
end
/-! ### loop.example/g01158/impl.CountWays$1 -/
section
namespace impl_CountWays_1
noncomputable def code : Code := (Go.Proofs.Try.f75.body).getD .skip
abbrev shp : Shape := [(0, .one (.int .i64)), (1, .one (.int .i64)), (2, .arr 768 false), (3, .box false [.map true]), (4, .box false [.int .i64, .row (.t3) false, .row (.int .i64) false]), (5, .box false [.clo 75 [(false, 0), (true, 1), (true, 3), (true, 6)]])]
abbrev outs : List KD := [.one (.int .i64)]
abbrev R : Type := Int × (List ((Int × Int) × Int))
def out : R → denL outs := fun r => (r.1, ())
def up : R → List ((Int × Int) × Int) := fun r => r.2
def into : denL outs → List ((Int × Int) × Int) → R := fun y z => (y.1, z)
def cfg : Cfg := ⟨ty, 79, [3], fun i => match Nat.beq i 0 with | true => .loop | false => .plain, fun _ => none⟩
def pfn (n : Nat) : PFn := mkMap shp.ks outs 3 (fun x => impl_CountWays_1.F n x.1 x.2.1 x.2.2.1 x.2.2.2.1.1 x.2.2.2.2.1.1 x.2.2.2.2.1.2.1 x.2.2.2.2.1.2.2.1) out up
def cal (n : Nat) : List (Nat × PFn) := [(75, impl_CountWays_1.pfn n), (76, impl_members.pfn n), (77, impl_steps.pfn n)]
theorem cal_ok (n : Nat) (ih : (impl_CountWays_1.pfn n).Ok Go.Proofs.Try.prog 75) : ∀ g, (pick (cal n) g).Ok Go.Proofs.Try.prog g := pick_ok (by
  intro p hp
  simp only [cal, List.mem_cons, List.not_mem_nil, or_false] at hp
  rcases hp with rfl | rfl | rfl
  · exact ih
  · exact impl_members.ok n
  · exact impl_steps.ok n)
def fin : St → Option R := finMap ty [.tmp 8] outs 3 into
abbrev sin0 : Shape := [(0, .one (.int .i64)), (1, .one (.int .i64)), (2, .arr 768 false), (3, .box false [.map true]), (4, .box false [.int .i64, .row (.t3) false, .row (.int .i64) false]), (5, .box false [.clo 75 [(false, 0), (true, 1), (true, 3), (true, 6)]]), (11, .one (.int .i64)), (41, .one (.row (.int .i64) true)), (42, .one (.int .i64)), (43, .one (.int .i64))]
abbrev sout0 : Shape := [(0, .one (.int .i64)), (1, .one (.int .i64)), (3, .box false [.map true]), (11, .one (.int .i64))]
def lam (n : Nat) : Nat → (St → Option R) → St → Option R := fun i => match Nat.beq i 0 with | true => (fun K st => match absSt sin0 st with | some (x, _) => impl_CountWays_1.l0 (impl_CountWays_1.F n) n (fun y0 y1 y2 y3 => K (mkSt sout0 (y0, y1, (y2, ()), y3, ()))) n x.1 x.2.1 x.2.2.1 x.2.2.2.1.1 x.2.2.2.2.1.1 x.2.2.2.2.1.2.1 x.2.2.2.2.1.2.2.1 x.2.2.2.2.2.2.1 x.2.2.2.2.2.2.2.1 x.2.2.2.2.2.2.2.2.1 x.2.2.2.2.2.2.2.2.2.1 | none => none) | false => fun _ _ => none
noncomputable def lps : List (Nat × Code) := loopsOf cfg.blk code
noncomputable def b0 : Code := bodyOf lps 0
theorem l0_eq (n : Nat) (K : St → Option R) : ∀ (j : Nat) (x0 : Int) (x1 : Int) (x2 : List Int) (x3 : List ((Int × Int) × Int)) (x4 : Int) (x5 : List (Int × Int × Int)) (x6 : List (Int)) (x7 : Int) (x8 : List (Int)) (x9 : Int) (x10 : Int), impl_CountWays_1.l0 (impl_CountWays_1.F n) n (fun y0 y1 y2 y3 => K (mkSt sout0 (y0, y1, (y2, ()), y3, ()))) j x0 x1 x2 x3 x4 x5 x6 x7 x8 x9 x10 = iter (roundK cfg (pick (cal n)) (lam n) fin 0 b0 sin0 sout0 K) j (mkSt sin0 (x0, x1, x2, (x3, ()), (x4, x5, x6, ()), ((), ()), x7, x8, x9, x10, ()))
  | 0, _, _, _, _, _, _, _, _, _, _, _ => rfl
  | j + 1, x0, x1, x2, x3, x4, x5, x6, x7, x8, x9, x10 => by
    have ih : impl_CountWays_1.l0 (impl_CountWays_1.F n) n (fun y0 y1 y2 y3 => K (mkSt sout0 (y0, y1, (y2, ()), y3, ()))) j = fun x0 x1 x2 x3 x4 x5 x6 x7 x8 x9 x10 => iter (roundK cfg (pick (cal n)) (lam n) fin 0 b0 sin0 sout0 K) j (mkSt sin0 (x0, x1, x2, (x3, ()), (x4, x5, x6, ()), ((), ()), x7, x8, x9, x10, ())) := funext fun x0 => funext fun x1 => funext fun x2 => funext fun x3 => funext fun x4 => funext fun x5 => funext fun x6 => funext fun x7 => funext fun x8 => funext fun x9 => funext fun x10 => l0_eq n K j x0 x1 x2 x3 x4 x5 x6 x7 x8 x9 x10
    rw [impl_CountWays_1.l0, ih]
    show _ = roundK cfg (pick (cal n)) (lam n) fin 0 b0 sin0 sout0 K (iter (roundK cfg (pick (cal n)) (lam n) fin 0 b0 sin0 sout0 K) j) (mkSt sin0 (x0, x1, x2, (x3, ()), (x4, x5, x6, ()), ((), ()), x7, x8, x9, x10, ()))
    kernel_rfl
theorem loops (n : Nat) : LoopsOk cfg (pick (cal n)) (lam n) fin (loopsOf cfg.blk code) := by
  have h : loopsOf cfg.blk code = [(0, b0)] := by kernel_rfl
  rw [h]
  intro p hp K st r hr
  simp only [List.mem_cons, List.not_mem_nil, or_false] at hp
  rcases hp with rfl
  · have hr' : (match absSt sin0 st with | some (x, _) => impl_CountWays_1.l0 (impl_CountWays_1.F n) n (fun y0 y1 y2 y3 => K (mkSt sout0 (y0, y1, (y2, ()), y3, ()))) n x.1 x.2.1 x.2.2.1 x.2.2.2.1.1 x.2.2.2.2.1.1 x.2.2.2.2.1.2.1 x.2.2.2.2.1.2.2.1 x.2.2.2.2.2.2.1 x.2.2.2.2.2.2.2.1 x.2.2.2.2.2.2.2.2.1 x.2.2.2.2.2.2.2.2.2.1 | none => none) = some r := hr
    split at hr'
    · rename_i x es hx
      rw [l0_eq] at hr'
      exact ⟨sin0, sout0, n, x, es, hx, hr'⟩
    · cases hr'
theorem F_eq (n : Nat) (x0 : Int) (x1 : Int) (x2 : List Int) (x3 : List ((Int × Int) × Int)) (x4 : Int) (x5 : List (Int × Int × Int)) (x6 : List (Int)) : impl_CountWays_1.F (n + 1) x0 x1 x2 x3 x4 x5 x6 = exK cfg (pick (cal n)) (lam n) fin code (fun _ _ => none) (mkSt shp (x0, x1, x2, (x3, ()), (x4, x5, x6, ()), ((), ()), ())) fin := by
  kernel_rfl
theorem ok : ∀ (n : Nat), (pfn n).Ok Go.Proofs.Try.prog 75
  | 0 => mkMap_none fun _ => rfl
  | n + 1 =>
  mkMap_ok (fn := Go.Proofs.Try.f75) (code := code) Go.Proofs.Try.func75 (by kernel_rfl) (by decide) (C := cfg) (Φ := pick (cal n)) (Λ := lam n) (into := into) hT (cal_ok n (ok n)) (by kernel_rfl) rfl (by decide) rfl (by decide) (fun _ _ => rfl) (fun _ _ => rfl) (loops n)
    (fun x r h => by
      have e := F_eq n x.1 x.2.1 x.2.2.1 x.2.2.2.1.1 x.2.2.2.2.1.1 x.2.2.2.2.1.2.1 x.2.2.2.2.1.2.2.1
      exact e.symm.trans h)
end impl_CountWays_1
end
/-! ### loop.example/g01158/impl.CountWays -/
section
namespace impl_CountWays
noncomputable def code : Code := (Go.Proofs.Try.f12.body).getD .skip
abbrev shp : Shape := [(0, .agg [.int .i64, .row (.t3) false, .row (.int .i64) false])]
abbrev outs : List KD := [.one (.int .i64), .one (.bool)]
abbrev R : Type := Int × Bool
def out : R → denL outs := fun r => (r.1, r.2, ())
def into : denL outs → R := fun y => (y.1, y.2.1)
def cfg : Cfg := ⟨ty, 20, [], fun _ => .plain, fun _ => none⟩
def cal (n : Nat) : List (Nat × PFn) := [(27, impl_IsMaze.pfn n), (74, impl_remain.pfn n), (75, impl_CountWays_1.pfn n)]
theorem cal_ok (n : Nat) : ∀ g, (pick (cal n) g).Ok Go.Proofs.Try.prog g := pick_ok (by
  intro p hp
  simp only [cal, List.mem_cons, List.not_mem_nil, or_false] at hp
  rcases hp with rfl | rfl | rfl
  · exact impl_IsMaze.ok n
  · exact impl_remain.ok n
  · exact impl_CountWays_1.ok n)
def fin : St → Option R := finOf ty [.tmp 2, .tmp 3] outs into
def lam (n : Nat) : Nat → (St → Option R) → St → Option R := fun _ => fun _ _ => none
theorem loops (n : Nat) : LoopsOk cfg (pick (cal n)) (lam n) fin (loopsOf cfg.blk code) := by
  have h : loopsOf cfg.blk code = [] := by kernel_rfl
  rw [h]
  intro p hp
  cases hp
theorem F_eq (n : Nat) (x0 : Int) (x1 : List (Int × Int × Int)) (x2 : List (Int)) : impl_CountWays.F n x0 x1 x2 = exK cfg (pick (cal n)) (lam n) fin code (fun _ _ => none) (mkSt shp ((x0, x1, x2, ()), ())) fin := by
  kernel_rfl
def pfn (n : Nat) : PFn := mkFn shp outs (fun x => impl_CountWays.F n x.1.1 x.1.2.1 x.1.2.2.1) out
theorem ok (n : Nat) : (pfn n).Ok Go.Proofs.Try.prog 12 :=
  mkFn_ok (fn := Go.Proofs.Try.f12) (code := code) Go.Proofs.Try.func12 (by kernel_rfl) (by decide) (C := cfg) (Φ := pick (cal n)) (Λ := lam n) (into := into) hT (cal_ok n) (by kernel_rfl) rfl (by decide) rfl (fun _ => rfl) (loops n)
    (fun x r h => by
      have e := F_eq n x.1.1 x.1.2.1 x.1.2.2.1
      exact e.symm.trans h)
end impl_CountWays
end
/-! ### loop.example/g01158/spec.CountWays -/
section
namespace spec_CountWays
noncomputable def code : Code := (Go.Proofs.Try.f10.body).getD .skip
abbrev shp : Shape := [(0, .agg [.int .i64, .row (.t3) false, .row (.int .i64) false])]
abbrev outs : List KD := [.one (.int .i64), .one (.bool)]
abbrev R : Type := Int × Bool
def out : R → denL outs := fun r => (r.1, r.2, ())
def into : denL outs → R := fun y => (y.1, y.2.1)
def cfg : Cfg := ⟨ty, 127, [], fun i => match Nat.beq i 4 with | true => .loop | false => match Nat.beq i 2 with | true => .loop | false => match Nat.beq i 0 with | true => .loop | false => .plain, fun i => match Nat.beq i 8 with | true => some [(1, .box true [.int .i64, .row (.t3) false, .row (.int .i64) false]), (4, .one (.row (.int .i64) true)), (5, .one (.int .i64)), (6, .one (.row (.int .i64) true))] | false => match Nat.beq i 22 with | true => some [(1, .box true [.int .i64, .row (.t3) false, .row (.int .i64) false]), (6, .one (.row (.int .i64) true))] | false => none⟩
def cal (n : Nat) : List (Nat × PFn) := [(68, spec_l2Maze.pfn n), (69, spec_l4Remain.pfn n), (70, spec_l4Id.pfn n), (71, spec_l4Step.pfn n)]
theorem cal_ok (n : Nat) : ∀ g, (pick (cal n) g).Ok Go.Proofs.Try.prog g := pick_ok (by
  intro p hp
  simp only [cal, List.mem_cons, List.not_mem_nil, or_false] at hp
  rcases hp with rfl | rfl | rfl | rfl
  · exact spec_l2Maze.ok n
  · exact spec_l4Remain.ok n
  · exact spec_l4Id.ok n
  · exact spec_l4Step.ok n)
def fin : St → Option R := finOf ty [.tmp 2, .tmp 3] outs into
abbrev sin4 : Shape := [(6, .one (.row (.int .i64) true)), (12, .one (.int .i64)), (13, .one (.int .i64))]
abbrev sout4 : Shape := [(12, .one (.int .i64))]
abbrev sin2 : Shape := [(1, .box true [.int .i64, .row (.t3) false, .row (.int .i64) false]), (4, .one (.row (.int .i64) true)), (6, .one (.row (.int .i64) true)), (7, .one (.row (.int .i64) true)), (8, .one (.int .i64)), (9, .one (.int .i64)), (10, .one (.row (.int .i64) true)), (11, .one (.int .i64))]
abbrev sout2 : Shape := [(1, .box true [.int .i64, .row (.t3) false, .row (.int .i64) false]), (4, .one (.row (.int .i64) true)), (6, .one (.row (.int .i64) true)), (7, .one (.row (.int .i64) true)), (8, .one (.int .i64))]
abbrev sin0 : Shape := [(1, .box true [.int .i64, .row (.t3) false, .row (.int .i64) false]), (4, .one (.row (.int .i64) true)), (6, .one (.row (.int .i64) true)), (7, .one (.row (.int .i64) true)), (8, .one (.int .i64))]
abbrev sout0 : Shape := [(1, .box true [.int .i64, .row (.t3) false, .row (.int .i64) false]), (6, .one (.row (.int .i64) true))]
def lam (n : Nat) : Nat → (St → Option R) → St → Option R := fun i => match Nat.beq i 4 with | true => (fun K st => match absSt sin4 st with | some (x, _) => spec_CountWays.l4 n (fun y0 => K (mkSt sout4 (y0, ()))) n x.1 x.2.1 x.2.2.1 | none => none) | false => match Nat.beq i 2 with | true => (fun K st => match absSt sin2 st with | some (x, _) => spec_CountWays.l2 n (fun y0 y1 y2 y3 y4 y5 y6 => K (mkSt sout2 ((y0, y1, y2, ()), y3, y4, y5, y6, ()))) n x.1.1 x.1.2.1 x.1.2.2.1 x.2.1 x.2.2.1 x.2.2.2.1 x.2.2.2.2.1 x.2.2.2.2.2.1 x.2.2.2.2.2.2.1 x.2.2.2.2.2.2.2.1 | none => none) | false => match Nat.beq i 0 with | true => (fun K st => match absSt sin0 st with | some (x, _) => spec_CountWays.l0 n (fun y0 y1 y2 y3 => K (mkSt sout0 ((y0, y1, y2, ()), y3, ()))) n x.1.1 x.1.2.1 x.1.2.2.1 x.2.1 x.2.2.1 x.2.2.2.1 x.2.2.2.2.1 | none => none) | false => fun _ _ => none
noncomputable def lps : List (Nat × Code) := loopsOf cfg.blk code
noncomputable def b4 : Code := bodyOf lps 4
theorem l4_eq (n : Nat) (K : St → Option R) : ∀ (j : Nat) (x0 : List (Int)) (x1 : Int) (x2 : Int), spec_CountWays.l4 n (fun y0 => K (mkSt sout4 (y0, ()))) j x0 x1 x2 = iter (roundK cfg (pick (cal n)) (lam n) fin 4 b4 sin4 sout4 K) j (mkSt sin4 (x0, x1, x2, ()))
  | 0, _, _, _ => rfl
  | j + 1, x0, x1, x2 => by
    have ih : spec_CountWays.l4 n (fun y0 => K (mkSt sout4 (y0, ()))) j = fun x0 x1 x2 => iter (roundK cfg (pick (cal n)) (lam n) fin 4 b4 sin4 sout4 K) j (mkSt sin4 (x0, x1, x2, ())) := funext fun x0 => funext fun x1 => funext fun x2 => l4_eq n K j x0 x1 x2
    rw [spec_CountWays.l4, ih]
    show _ = roundK cfg (pick (cal n)) (lam n) fin 4 b4 sin4 sout4 K (iter (roundK cfg (pick (cal n)) (lam n) fin 4 b4 sin4 sout4 K) j) (mkSt sin4 (x0, x1, x2, ()))
    kernel_rfl
noncomputable def b2 : Code := bodyOf lps 2
theorem l2_eq (n : Nat) (K : St → Option R) : ∀ (j : Nat) (x0 : Int) (x1 : List (Int × Int × Int)) (x2 : List (Int)) (x3 : List (Int)) (x4 : List (Int)) (x5 : List (Int)) (x6 : Int) (x7 : Int) (x8 : List (Int)) (x9 : Int), spec_CountWays.l2 n (fun y0 y1 y2 y3 y4 y5 y6 => K (mkSt sout2 ((y0, y1, y2, ()), y3, y4, y5, y6, ()))) j x0 x1 x2 x3 x4 x5 x6 x7 x8 x9 = iter (roundK cfg (pick (cal n)) (lam n) fin 2 b2 sin2 sout2 K) j (mkSt sin2 ((x0, x1, x2, ()), x3, x4, x5, x6, x7, x8, x9, ()))
  | 0, _, _, _, _, _, _, _, _, _, _ => rfl
  | j + 1, x0, x1, x2, x3, x4, x5, x6, x7, x8, x9 => by
    have ih : spec_CountWays.l2 n (fun y0 y1 y2 y3 y4 y5 y6 => K (mkSt sout2 ((y0, y1, y2, ()), y3, y4, y5, y6, ()))) j = fun x0 x1 x2 x3 x4 x5 x6 x7 x8 x9 => iter (roundK cfg (pick (cal n)) (lam n) fin 2 b2 sin2 sout2 K) j (mkSt sin2 ((x0, x1, x2, ()), x3, x4, x5, x6, x7, x8, x9, ())) := funext fun x0 => funext fun x1 => funext fun x2 => funext fun x3 => funext fun x4 => funext fun x5 => funext fun x6 => funext fun x7 => funext fun x8 => funext fun x9 => l2_eq n K j x0 x1 x2 x3 x4 x5 x6 x7 x8 x9
    rw [spec_CountWays.l2, ih]
    show _ = roundK cfg (pick (cal n)) (lam n) fin 2 b2 sin2 sout2 K (iter (roundK cfg (pick (cal n)) (lam n) fin 2 b2 sin2 sout2 K) j) (mkSt sin2 ((x0, x1, x2, ()), x3, x4, x5, x6, x7, x8, x9, ()))
    kernel_rfl
noncomputable def b0 : Code := bodyOf lps 0
theorem l0_eq (n : Nat) (K : St → Option R) : ∀ (j : Nat) (x0 : Int) (x1 : List (Int × Int × Int)) (x2 : List (Int)) (x3 : List (Int)) (x4 : List (Int)) (x5 : List (Int)) (x6 : Int), spec_CountWays.l0 n (fun y0 y1 y2 y3 => K (mkSt sout0 ((y0, y1, y2, ()), y3, ()))) j x0 x1 x2 x3 x4 x5 x6 = iter (roundK cfg (pick (cal n)) (lam n) fin 0 b0 sin0 sout0 K) j (mkSt sin0 ((x0, x1, x2, ()), x3, x4, x5, x6, ()))
  | 0, _, _, _, _, _, _, _ => rfl
  | j + 1, x0, x1, x2, x3, x4, x5, x6 => by
    have ih : spec_CountWays.l0 n (fun y0 y1 y2 y3 => K (mkSt sout0 ((y0, y1, y2, ()), y3, ()))) j = fun x0 x1 x2 x3 x4 x5 x6 => iter (roundK cfg (pick (cal n)) (lam n) fin 0 b0 sin0 sout0 K) j (mkSt sin0 ((x0, x1, x2, ()), x3, x4, x5, x6, ())) := funext fun x0 => funext fun x1 => funext fun x2 => funext fun x3 => funext fun x4 => funext fun x5 => funext fun x6 => l0_eq n K j x0 x1 x2 x3 x4 x5 x6
    rw [spec_CountWays.l0, ih]
    show _ = roundK cfg (pick (cal n)) (lam n) fin 0 b0 sin0 sout0 K (iter (roundK cfg (pick (cal n)) (lam n) fin 0 b0 sin0 sout0 K) j) (mkSt sin0 ((x0, x1, x2, ()), x3, x4, x5, x6, ()))
    kernel_rfl
theorem loops (n : Nat) : LoopsOk cfg (pick (cal n)) (lam n) fin (loopsOf cfg.blk code) := by
  have h : loopsOf cfg.blk code = [(0, b0), (2, b2), (4, b4)] := by kernel_rfl
  rw [h]
  intro p hp K st r hr
  simp only [List.mem_cons, List.not_mem_nil, or_false] at hp
  rcases hp with rfl | rfl | rfl
  · have hr' : (match absSt sin0 st with | some (x, _) => spec_CountWays.l0 n (fun y0 y1 y2 y3 => K (mkSt sout0 ((y0, y1, y2, ()), y3, ()))) n x.1.1 x.1.2.1 x.1.2.2.1 x.2.1 x.2.2.1 x.2.2.2.1 x.2.2.2.2.1 | none => none) = some r := hr
    split at hr'
    · rename_i x es hx
      rw [l0_eq] at hr'
      exact ⟨sin0, sout0, n, x, es, hx, hr'⟩
    · cases hr'
  · have hr' : (match absSt sin2 st with | some (x, _) => spec_CountWays.l2 n (fun y0 y1 y2 y3 y4 y5 y6 => K (mkSt sout2 ((y0, y1, y2, ()), y3, y4, y5, y6, ()))) n x.1.1 x.1.2.1 x.1.2.2.1 x.2.1 x.2.2.1 x.2.2.2.1 x.2.2.2.2.1 x.2.2.2.2.2.1 x.2.2.2.2.2.2.1 x.2.2.2.2.2.2.2.1 | none => none) = some r := hr
    split at hr'
    · rename_i x es hx
      rw [l2_eq] at hr'
      exact ⟨sin2, sout2, n, x, es, hx, hr'⟩
    · cases hr'
  · have hr' : (match absSt sin4 st with | some (x, _) => spec_CountWays.l4 n (fun y0 => K (mkSt sout4 (y0, ()))) n x.1 x.2.1 x.2.2.1 | none => none) = some r := hr
    split at hr'
    · rename_i x es hx
      rw [l4_eq] at hr'
      exact ⟨sin4, sout4, n, x, es, hx, hr'⟩
    · cases hr'
noncomputable def code8 : Code := spineAt 6 code
abbrev cut8 : Shape := [(1, .box true [.int .i64, .row (.t3) false, .row (.int .i64) false]), (4, .one (.row (.int .i64) true)), (5, .one (.int .i64)), (6, .one (.row (.int .i64) true))]
noncomputable def code22 : Code := spineAt 2 code8
abbrev cut22 : Shape := [(1, .box true [.int .i64, .row (.t3) false, .row (.int .i64) false]), (6, .one (.row (.int .i64) true))]
theorem c22_eq (n : Nat) (x0 : Int) (x1 : List (Int × Int × Int)) (x2 : List (Int)) (x3 : List (Int)) : spec_CountWays.c22 n x0 x1 x2 x3 = exK cfg (pick (cal n)) (lam n) fin code22 (fun _ _ => none) (mkSt cut22 ((x0, x1, x2, ()), x3, ())) fin := by
  kernel_rfl
theorem c8_seg (n : Nat) (x0 : Int) (x1 : List (Int × Int × Int)) (x2 : List (Int)) (x3 : List (Int)) (x4 : Int) (x5 : List (Int)) : spec_CountWays.c8 n x0 x1 x2 x3 x4 x5 = exSeg cfg (pick (cal n)) (lam n) fin (fun _ _ => none) cut22 (fun x => spec_CountWays.c22 n x.1.1 x.1.2.1 x.1.2.2.1 x.2.1) 1 code8 (mkSt cut8 ((x0, x1, x2, ()), x3, x4, x5, ())) := by
  kernel_rfl
theorem c8_eq (n : Nat) (x0 : Int) (x1 : List (Int × Int × Int)) (x2 : List (Int)) (x3 : List (Int)) (x4 : Int) (x5 : List (Int)) : spec_CountWays.c8 n x0 x1 x2 x3 x4 x5 = exK cfg (pick (cal n)) (lam n) fin code8 (fun _ _ => none) (mkSt cut8 ((x0, x1, x2, ()), x3, x4, x5, ())) fin := 
  (c8_seg n x0 x1 x2 x3 x4 x5).trans (seg_eq 1 (by kernel_rfl) rfl (by kernel_rfl) (fun x => c22_eq n x.1.1 x.1.2.1 x.1.2.2.1 x.2.1))
theorem F_seg (n : Nat) (x0 : Int) (x1 : List (Int × Int × Int)) (x2 : List (Int)) : spec_CountWays.F n x0 x1 x2 = exSeg cfg (pick (cal n)) (lam n) fin (fun _ _ => none) cut8 (fun x => spec_CountWays.c8 n x.1.1 x.1.2.1 x.1.2.2.1 x.2.1 x.2.2.1 x.2.2.2.1) 5 code (mkSt shp ((x0, x1, x2, ()), ())) := by
  kernel_rfl
theorem F_eq (n : Nat) (x0 : Int) (x1 : List (Int × Int × Int)) (x2 : List (Int)) : spec_CountWays.F n x0 x1 x2 = exK cfg (pick (cal n)) (lam n) fin code (fun _ _ => none) (mkSt shp ((x0, x1, x2, ()), ())) fin :=
  (F_seg n x0 x1 x2).trans (seg_eq 5 (by kernel_rfl) rfl (by kernel_rfl) (fun x => c8_eq n x.1.1 x.1.2.1 x.1.2.2.1 x.2.1 x.2.2.1 x.2.2.2.1))
def pfn (n : Nat) : PFn := mkFn shp outs (fun x => spec_CountWays.F n x.1.1 x.1.2.1 x.1.2.2.1) out
theorem ok (n : Nat) : (pfn n).Ok Go.Proofs.Try.prog 10 :=
  mkFn_ok (fn := Go.Proofs.Try.f10) (code := code) Go.Proofs.Try.func10 (by kernel_rfl) (by decide) (C := cfg) (Φ := pick (cal n)) (Λ := lam n) (into := into) hT (cal_ok n) (by kernel_rfl) rfl (by decide) rfl (fun _ => rfl) (loops n)
    (fun x r h => by
      have e := F_eq n x.1.1 x.1.2.1 x.1.2.2.1
      exact e.symm.trans h)
end spec_CountWays
end
/-! ### loop.example/g01158/impl.StepsTable -/
section
namespace impl_StepsTable
noncomputable def code : Code := (Go.Proofs.Try.f43.body).getD .skip
abbrev shp : Shape := [(0, .agg [.int .i64, .row (.t3) false, .row (.int .i64) false])]
abbrev outs : List KD := [.one (.row (.int .i64) true), .one (.bool)]
abbrev R : Type := (List (Int)) × Bool
def out : R → denL outs := fun r => (r.1, r.2, ())
def into : denL outs → R := fun y => (y.1, y.2.1)
def cfg : Cfg := ⟨ty, 26, [], fun i => match Nat.beq i 0 with | true => .loop | false => .plain, fun _ => none⟩
def cal (n : Nat) : List (Nat × PFn) := [(27, impl_IsMaze.pfn n), (105, impl_fromStart.pfn n), (106, impl_grid_least_canySet.pfn n)]
theorem cal_ok (n : Nat) : ∀ g, (pick (cal n) g).Ok Go.Proofs.Try.prog g := pick_ok (by
  intro p hp
  simp only [cal, List.mem_cons, List.not_mem_nil, or_false] at hp
  rcases hp with rfl | rfl | rfl
  · exact impl_IsMaze.ok n
  · exact impl_fromStart.ok n
  · exact impl_grid_least_canySet.ok n)
def fin : St → Option R := finOf ty [.tmp 2, .tmp 3] outs into
abbrev sin0 : Shape := [(4, .one (.row (.int .i64) true)), (5, .arr 768 true), (14, .one (.int .i64)), (15, .one (.int .i64))]
abbrev sout0 : Shape := [(4, .one (.row (.int .i64) true))]
def lam (n : Nat) : Nat → (St → Option R) → St → Option R := fun i => match Nat.beq i 0 with | true => (fun K st => match absSt sin0 st with | some (x, _) => impl_StepsTable.l0 n (fun y0 => K (mkSt sout0 (y0, ()))) n x.1 x.2.1 x.2.2.1 x.2.2.2.1 | none => none) | false => fun _ _ => none
noncomputable def lps : List (Nat × Code) := loopsOf cfg.blk code
noncomputable def b0 : Code := bodyOf lps 0
theorem l0_eq (n : Nat) (K : St → Option R) : ∀ (j : Nat) (x0 : List (Int)) (x1 : List Int) (x2 : Int) (x3 : Int), impl_StepsTable.l0 n (fun y0 => K (mkSt sout0 (y0, ()))) j x0 x1 x2 x3 = iter (roundK cfg (pick (cal n)) (lam n) fin 0 b0 sin0 sout0 K) j (mkSt sin0 (x0, x1, x2, x3, ()))
  | 0, _, _, _, _ => rfl
  | j + 1, x0, x1, x2, x3 => by
    have ih : impl_StepsTable.l0 n (fun y0 => K (mkSt sout0 (y0, ()))) j = fun x0 x1 x2 x3 => iter (roundK cfg (pick (cal n)) (lam n) fin 0 b0 sin0 sout0 K) j (mkSt sin0 (x0, x1, x2, x3, ())) := funext fun x0 => funext fun x1 => funext fun x2 => funext fun x3 => l0_eq n K j x0 x1 x2 x3
    rw [impl_StepsTable.l0, ih]
    show _ = roundK cfg (pick (cal n)) (lam n) fin 0 b0 sin0 sout0 K (iter (roundK cfg (pick (cal n)) (lam n) fin 0 b0 sin0 sout0 K) j) (mkSt sin0 (x0, x1, x2, x3, ()))
    kernel_rfl
theorem loops (n : Nat) : LoopsOk cfg (pick (cal n)) (lam n) fin (loopsOf cfg.blk code) := by
  have h : loopsOf cfg.blk code = [(0, b0)] := by kernel_rfl
  rw [h]
  intro p hp K st r hr
  simp only [List.mem_cons, List.not_mem_nil, or_false] at hp
  rcases hp with rfl
  · have hr' : (match absSt sin0 st with | some (x, _) => impl_StepsTable.l0 n (fun y0 => K (mkSt sout0 (y0, ()))) n x.1 x.2.1 x.2.2.1 x.2.2.2.1 | none => none) = some r := hr
    split at hr'
    · rename_i x es hx
      rw [l0_eq] at hr'
      exact ⟨sin0, sout0, n, x, es, hx, hr'⟩
    · cases hr'
theorem F_eq (n : Nat) (x0 : Int) (x1 : List (Int × Int × Int)) (x2 : List (Int)) : impl_StepsTable.F n x0 x1 x2 = exK cfg (pick (cal n)) (lam n) fin code (fun _ _ => none) (mkSt shp ((x0, x1, x2, ()), ())) fin := by
  kernel_rfl
def pfn (n : Nat) : PFn := mkFn shp outs (fun x => impl_StepsTable.F n x.1.1 x.1.2.1 x.1.2.2.1) out
theorem ok (n : Nat) : (pfn n).Ok Go.Proofs.Try.prog 43 :=
  mkFn_ok (fn := Go.Proofs.Try.f43) (code := code) Go.Proofs.Try.func43 (by kernel_rfl) (by decide) (C := cfg) (Φ := pick (cal n)) (Λ := lam n) (into := into) hT (cal_ok n) (by kernel_rfl) rfl (by decide) rfl (fun _ => rfl) (loops n)
    (fun x r h => by
      have e := F_eq n x.1.1 x.1.2.1 x.1.2.2.1
      exact e.symm.trans h)
end impl_StepsTable
end
/-! ### loop.example/g01158/spec.StepsTable -/
section
namespace spec_StepsTable
noncomputable def code : Code := (Go.Proofs.Try.f44.body).getD .skip
abbrev shp : Shape := [(0, .agg [.int .i64, .row (.t3) false, .row (.int .i64) false])]
abbrev outs : List KD := [.one (.row (.int .i64) true), .one (.bool)]
abbrev R : Type := (List (Int)) × Bool
def out : R → denL outs := fun r => (r.1, r.2, ())
def into : denL outs → R := fun y => (y.1, y.2.1)
def cfg : Cfg := ⟨ty, 27, [], fun i => match Nat.beq i 0 with | true => .loop | false => .plain, fun _ => none⟩
def cal (n : Nat) : List (Nat × PFn) := [(68, spec_l2Maze.pfn n), (90, spec_l4First.pfn n), (91, spec_l4Least.pfn n)]
theorem cal_ok (n : Nat) : ∀ g, (pick (cal n) g).Ok Go.Proofs.Try.prog g := pick_ok (by
  intro p hp
  simp only [cal, List.mem_cons, List.not_mem_nil, or_false] at hp
  rcases hp with rfl | rfl | rfl
  · exact spec_l2Maze.ok n
  · exact spec_l4First.ok n
  · exact spec_l4Least.ok n)
def fin : St → Option R := finOf ty [.tmp 2, .tmp 3] outs into
abbrev sin0 : Shape := [(1, .box true [.int .i64, .row (.t3) false, .row (.int .i64) false]), (4, .one (.row (.int .i64) true)), (5, .one (.row (.int .i64) true)), (6, .one (.int .i64))]
abbrev sout0 : Shape := [(4, .one (.row (.int .i64) true))]
def lam (n : Nat) : Nat → (St → Option R) → St → Option R := fun i => match Nat.beq i 0 with | true => (fun K st => match absSt sin0 st with | some (x, _) => spec_StepsTable.l0 n (fun y0 => K (mkSt sout0 (y0, ()))) n x.1.1 x.1.2.1 x.1.2.2.1 x.2.1 x.2.2.1 x.2.2.2.1 | none => none) | false => fun _ _ => none
noncomputable def lps : List (Nat × Code) := loopsOf cfg.blk code
noncomputable def b0 : Code := bodyOf lps 0
theorem l0_eq (n : Nat) (K : St → Option R) : ∀ (j : Nat) (x0 : Int) (x1 : List (Int × Int × Int)) (x2 : List (Int)) (x3 : List (Int)) (x4 : List (Int)) (x5 : Int), spec_StepsTable.l0 n (fun y0 => K (mkSt sout0 (y0, ()))) j x0 x1 x2 x3 x4 x5 = iter (roundK cfg (pick (cal n)) (lam n) fin 0 b0 sin0 sout0 K) j (mkSt sin0 ((x0, x1, x2, ()), x3, x4, x5, ()))
  | 0, _, _, _, _, _, _ => rfl
  | j + 1, x0, x1, x2, x3, x4, x5 => by
    have ih : spec_StepsTable.l0 n (fun y0 => K (mkSt sout0 (y0, ()))) j = fun x0 x1 x2 x3 x4 x5 => iter (roundK cfg (pick (cal n)) (lam n) fin 0 b0 sin0 sout0 K) j (mkSt sin0 ((x0, x1, x2, ()), x3, x4, x5, ())) := funext fun x0 => funext fun x1 => funext fun x2 => funext fun x3 => funext fun x4 => funext fun x5 => l0_eq n K j x0 x1 x2 x3 x4 x5
    rw [spec_StepsTable.l0, ih]
    show _ = roundK cfg (pick (cal n)) (lam n) fin 0 b0 sin0 sout0 K (iter (roundK cfg (pick (cal n)) (lam n) fin 0 b0 sin0 sout0 K) j) (mkSt sin0 ((x0, x1, x2, ()), x3, x4, x5, ()))
    kernel_rfl
theorem loops (n : Nat) : LoopsOk cfg (pick (cal n)) (lam n) fin (loopsOf cfg.blk code) := by
  have h : loopsOf cfg.blk code = [(0, b0)] := by kernel_rfl
  rw [h]
  intro p hp K st r hr
  simp only [List.mem_cons, List.not_mem_nil, or_false] at hp
  rcases hp with rfl
  · have hr' : (match absSt sin0 st with | some (x, _) => spec_StepsTable.l0 n (fun y0 => K (mkSt sout0 (y0, ()))) n x.1.1 x.1.2.1 x.1.2.2.1 x.2.1 x.2.2.1 x.2.2.2.1 | none => none) = some r := hr
    split at hr'
    · rename_i x es hx
      rw [l0_eq] at hr'
      exact ⟨sin0, sout0, n, x, es, hx, hr'⟩
    · cases hr'
theorem F_eq (n : Nat) (x0 : Int) (x1 : List (Int × Int × Int)) (x2 : List (Int)) : spec_StepsTable.F n x0 x1 x2 = exK cfg (pick (cal n)) (lam n) fin code (fun _ _ => none) (mkSt shp ((x0, x1, x2, ()), ())) fin := by
  kernel_rfl
def pfn (n : Nat) : PFn := mkFn shp outs (fun x => spec_StepsTable.F n x.1.1 x.1.2.1 x.1.2.2.1) out
theorem ok (n : Nat) : (pfn n).Ok Go.Proofs.Try.prog 44 :=
  mkFn_ok (fn := Go.Proofs.Try.f44) (code := code) Go.Proofs.Try.func44 (by kernel_rfl) (by decide) (C := cfg) (Φ := pick (cal n)) (Λ := lam n) (into := into) hT (cal_ok n) (by kernel_rfl) rfl (by decide) rfl (fun _ => rfl) (loops n)
    (fun x r h => by
      have e := F_eq n x.1.1 x.1.2.1 x.1.2.2.1
      exact e.symm.trans h)
end spec_StepsTable
end
/-! ### loop.example/g01158/impl.StatesOf -/
section
namespace impl_StatesOf
noncomputable def code : Code := (Go.Proofs.Try.f45.body).getD .skip
abbrev shp : Shape := [(0, .agg [.int .i64, .row (.t3) false, .row (.int .i64) false])]
abbrev outs : List KD := [.one (.int .i64), .one (.bool)]
abbrev R : Type := Int × Bool
def out : R → denL outs := fun r => (r.1, r.2, ())
def into : denL outs → R := fun y => (y.1, y.2.1)
def cfg : Cfg := ⟨ty, 28, [], fun i => match Nat.beq i 2 with | true => .loop | false => match Nat.beq i 0 with | true => .loop | false => .plain, fun _ => none⟩
def cal (n : Nat) : List (Nat × PFn) := [(27, impl_IsMaze.pfn n), (105, impl_fromStart.pfn n)]
theorem cal_ok (n : Nat) : ∀ g, (pick (cal n) g).Ok Go.Proofs.Try.prog g := pick_ok (by
  intro p hp
  simp only [cal, List.mem_cons, List.not_mem_nil, or_false] at hp
  rcases hp with rfl | rfl
  · exact impl_IsMaze.ok n
  · exact impl_fromStart.ok n)
def fin : St → Option R := finOf ty [.tmp 2, .tmp 3] outs into
abbrev sin2 : Shape := [(4, .one (.int .i64)), (13, .ints 768), (14, .one (.int .i64)), (17, .ints 64), (18, .one (.int .i64))]
abbrev sout2 : Shape := [(4, .one (.int .i64)), (13, .ints 768), (14, .one (.int .i64))]
abbrev sin0 : Shape := [(4, .one (.int .i64)), (13, .ints 768), (14, .one (.int .i64))]
abbrev sout0 : Shape := [(4, .one (.int .i64))]
def lam (n : Nat) : Nat → (St → Option R) → St → Option R := fun i => match Nat.beq i 2 with | true => (fun K st => match absSt sin2 st with | some (x, _) => impl_StatesOf.l2 n (fun y0 y1 y2 => K (mkSt sout2 (y0, y1, y2, ()))) n x.1 x.2.1 x.2.2.1 x.2.2.2.1 x.2.2.2.2.1 | none => none) | false => match Nat.beq i 0 with | true => (fun K st => match absSt sin0 st with | some (x, _) => impl_StatesOf.l0 n (fun y0 => K (mkSt sout0 (y0, ()))) n x.1 x.2.1 x.2.2.1 | none => none) | false => fun _ _ => none
noncomputable def lps : List (Nat × Code) := loopsOf cfg.blk code
noncomputable def b2 : Code := bodyOf lps 2
theorem l2_eq (n : Nat) (K : St → Option R) : ∀ (j : Nat) (x0 : Int) (x1 : List Int) (x2 : Int) (x3 : List Int) (x4 : Int), impl_StatesOf.l2 n (fun y0 y1 y2 => K (mkSt sout2 (y0, y1, y2, ()))) j x0 x1 x2 x3 x4 = iter (roundK cfg (pick (cal n)) (lam n) fin 2 b2 sin2 sout2 K) j (mkSt sin2 (x0, x1, x2, x3, x4, ()))
  | 0, _, _, _, _, _ => rfl
  | j + 1, x0, x1, x2, x3, x4 => by
    have ih : impl_StatesOf.l2 n (fun y0 y1 y2 => K (mkSt sout2 (y0, y1, y2, ()))) j = fun x0 x1 x2 x3 x4 => iter (roundK cfg (pick (cal n)) (lam n) fin 2 b2 sin2 sout2 K) j (mkSt sin2 (x0, x1, x2, x3, x4, ())) := funext fun x0 => funext fun x1 => funext fun x2 => funext fun x3 => funext fun x4 => l2_eq n K j x0 x1 x2 x3 x4
    rw [impl_StatesOf.l2, ih]
    show _ = roundK cfg (pick (cal n)) (lam n) fin 2 b2 sin2 sout2 K (iter (roundK cfg (pick (cal n)) (lam n) fin 2 b2 sin2 sout2 K) j) (mkSt sin2 (x0, x1, x2, x3, x4, ()))
    kernel_rfl
noncomputable def b0 : Code := bodyOf lps 0
theorem l0_eq (n : Nat) (K : St → Option R) : ∀ (j : Nat) (x0 : Int) (x1 : List Int) (x2 : Int), impl_StatesOf.l0 n (fun y0 => K (mkSt sout0 (y0, ()))) j x0 x1 x2 = iter (roundK cfg (pick (cal n)) (lam n) fin 0 b0 sin0 sout0 K) j (mkSt sin0 (x0, x1, x2, ()))
  | 0, _, _, _ => rfl
  | j + 1, x0, x1, x2 => by
    have ih : impl_StatesOf.l0 n (fun y0 => K (mkSt sout0 (y0, ()))) j = fun x0 x1 x2 => iter (roundK cfg (pick (cal n)) (lam n) fin 0 b0 sin0 sout0 K) j (mkSt sin0 (x0, x1, x2, ())) := funext fun x0 => funext fun x1 => funext fun x2 => l0_eq n K j x0 x1 x2
    rw [impl_StatesOf.l0, ih]
    show _ = roundK cfg (pick (cal n)) (lam n) fin 0 b0 sin0 sout0 K (iter (roundK cfg (pick (cal n)) (lam n) fin 0 b0 sin0 sout0 K) j) (mkSt sin0 (x0, x1, x2, ()))
    kernel_rfl
theorem loops (n : Nat) : LoopsOk cfg (pick (cal n)) (lam n) fin (loopsOf cfg.blk code) := by
  have h : loopsOf cfg.blk code = [(0, b0), (2, b2)] := by kernel_rfl
  rw [h]
  intro p hp K st r hr
  simp only [List.mem_cons, List.not_mem_nil, or_false] at hp
  rcases hp with rfl | rfl
  · have hr' : (match absSt sin0 st with | some (x, _) => impl_StatesOf.l0 n (fun y0 => K (mkSt sout0 (y0, ()))) n x.1 x.2.1 x.2.2.1 | none => none) = some r := hr
    split at hr'
    · rename_i x es hx
      rw [l0_eq] at hr'
      exact ⟨sin0, sout0, n, x, es, hx, hr'⟩
    · cases hr'
  · have hr' : (match absSt sin2 st with | some (x, _) => impl_StatesOf.l2 n (fun y0 y1 y2 => K (mkSt sout2 (y0, y1, y2, ()))) n x.1 x.2.1 x.2.2.1 x.2.2.2.1 x.2.2.2.2.1 | none => none) = some r := hr
    split at hr'
    · rename_i x es hx
      rw [l2_eq] at hr'
      exact ⟨sin2, sout2, n, x, es, hx, hr'⟩
    · cases hr'
theorem F_eq (n : Nat) (x0 : Int) (x1 : List (Int × Int × Int)) (x2 : List (Int)) : impl_StatesOf.F n x0 x1 x2 = exK cfg (pick (cal n)) (lam n) fin code (fun _ _ => none) (mkSt shp ((x0, x1, x2, ()), ())) fin := by
  kernel_rfl
def pfn (n : Nat) : PFn := mkFn shp outs (fun x => impl_StatesOf.F n x.1.1 x.1.2.1 x.1.2.2.1) out
theorem ok (n : Nat) : (pfn n).Ok Go.Proofs.Try.prog 45 :=
  mkFn_ok (fn := Go.Proofs.Try.f45) (code := code) Go.Proofs.Try.func45 (by kernel_rfl) (by decide) (C := cfg) (Φ := pick (cal n)) (Λ := lam n) (into := into) hT (cal_ok n) (by kernel_rfl) rfl (by decide) rfl (fun _ => rfl) (loops n)
    (fun x r h => by
      have e := F_eq n x.1.1 x.1.2.1 x.1.2.2.1
      exact e.symm.trans h)
end impl_StatesOf
end
/-! ### loop.example/g01158/spec.StatesOf -/
section
namespace spec_StatesOf
noncomputable def code : Code := (Go.Proofs.Try.f46.body).getD .skip
abbrev shp : Shape := [(0, .agg [.int .i64, .row (.t3) false, .row (.int .i64) false])]
abbrev outs : List KD := [.one (.int .i64), .one (.bool)]
abbrev R : Type := Int × Bool
def out : R → denL outs := fun r => (r.1, r.2, ())
def into : denL outs → R := fun y => (y.1, y.2.1)
def cfg : Cfg := ⟨ty, 26, [], fun i => match Nat.beq i 0 with | true => .loop | false => .plain, fun _ => none⟩
def cal (n : Nat) : List (Nat × PFn) := [(68, spec_l2Maze.pfn n), (90, spec_l4First.pfn n)]
theorem cal_ok (n : Nat) : ∀ g, (pick (cal n) g).Ok Go.Proofs.Try.prog g := pick_ok (by
  intro p hp
  simp only [cal, List.mem_cons, List.not_mem_nil, or_false] at hp
  rcases hp with rfl | rfl
  · exact spec_l2Maze.ok n
  · exact spec_l4First.ok n)
def fin : St → Option R := finOf ty [.tmp 2, .tmp 3] outs into
abbrev sin0 : Shape := [(4, .one (.int .i64)), (5, .one (.row (.int .i64) true)), (6, .one (.int .i64))]
abbrev sout0 : Shape := [(4, .one (.int .i64))]
def lam (n : Nat) : Nat → (St → Option R) → St → Option R := fun i => match Nat.beq i 0 with | true => (fun K st => match absSt sin0 st with | some (x, _) => spec_StatesOf.l0 n (fun y0 => K (mkSt sout0 (y0, ()))) n x.1 x.2.1 x.2.2.1 | none => none) | false => fun _ _ => none
noncomputable def lps : List (Nat × Code) := loopsOf cfg.blk code
noncomputable def b0 : Code := bodyOf lps 0
theorem l0_eq (n : Nat) (K : St → Option R) : ∀ (j : Nat) (x0 : Int) (x1 : List (Int)) (x2 : Int), spec_StatesOf.l0 n (fun y0 => K (mkSt sout0 (y0, ()))) j x0 x1 x2 = iter (roundK cfg (pick (cal n)) (lam n) fin 0 b0 sin0 sout0 K) j (mkSt sin0 (x0, x1, x2, ()))
  | 0, _, _, _ => rfl
  | j + 1, x0, x1, x2 => by
    have ih : spec_StatesOf.l0 n (fun y0 => K (mkSt sout0 (y0, ()))) j = fun x0 x1 x2 => iter (roundK cfg (pick (cal n)) (lam n) fin 0 b0 sin0 sout0 K) j (mkSt sin0 (x0, x1, x2, ())) := funext fun x0 => funext fun x1 => funext fun x2 => l0_eq n K j x0 x1 x2
    rw [spec_StatesOf.l0, ih]
    show _ = roundK cfg (pick (cal n)) (lam n) fin 0 b0 sin0 sout0 K (iter (roundK cfg (pick (cal n)) (lam n) fin 0 b0 sin0 sout0 K) j) (mkSt sin0 (x0, x1, x2, ()))
    kernel_rfl
theorem loops (n : Nat) : LoopsOk cfg (pick (cal n)) (lam n) fin (loopsOf cfg.blk code) := by
  have h : loopsOf cfg.blk code = [(0, b0)] := by kernel_rfl
  rw [h]
  intro p hp K st r hr
  simp only [List.mem_cons, List.not_mem_nil, or_false] at hp
  rcases hp with rfl
  · have hr' : (match absSt sin0 st with | some (x, _) => spec_StatesOf.l0 n (fun y0 => K (mkSt sout0 (y0, ()))) n x.1 x.2.1 x.2.2.1 | none => none) = some r := hr
    split at hr'
    · rename_i x es hx
      rw [l0_eq] at hr'
      exact ⟨sin0, sout0, n, x, es, hx, hr'⟩
    · cases hr'
theorem F_eq (n : Nat) (x0 : Int) (x1 : List (Int × Int × Int)) (x2 : List (Int)) : spec_StatesOf.F n x0 x1 x2 = exK cfg (pick (cal n)) (lam n) fin code (fun _ _ => none) (mkSt shp ((x0, x1, x2, ()), ())) fin := by
  kernel_rfl
def pfn (n : Nat) : PFn := mkFn shp outs (fun x => spec_StatesOf.F n x.1.1 x.1.2.1 x.1.2.2.1) out
theorem ok (n : Nat) : (pfn n).Ok Go.Proofs.Try.prog 46 :=
  mkFn_ok (fn := Go.Proofs.Try.f46) (code := code) Go.Proofs.Try.func46 (by kernel_rfl) (by decide) (C := cfg) (Φ := pick (cal n)) (Λ := lam n) (into := into) hT (cal_ok n) (by kernel_rfl) rfl (by decide) rfl (fun _ => rfl) (loops n)
    (fun x r h => by
      have e := F_eq n x.1.1 x.1.2.1 x.1.2.2.1
      exact e.symm.trans h)
end spec_StatesOf
end
/-! ### loop.example/g01158/impl.DetourOf -/
section
namespace impl_DetourOf
noncomputable def code : Code := (Go.Proofs.Try.f47.body).getD .skip
abbrev shp : Shape := [(0, .agg [.int .i64, .row (.t3) false, .row (.int .i64) false])]
abbrev outs : List KD := [.one (.int .i64), .one (.bool)]
abbrev R : Type := Int × Bool
def out : R → denL outs := fun r => (r.1, r.2, ())
def into : denL outs → R := fun y => (y.1, y.2.1)
def cfg : Cfg := ⟨ty, 22, [], fun _ => .plain, fun _ => none⟩
def cal (n : Nat) : List (Nat × PFn) := [(40, impl_FewestSteps.pfn n), (110, impl_distances.pfn n)]
theorem cal_ok (n : Nat) : ∀ g, (pick (cal n) g).Ok Go.Proofs.Try.prog g := pick_ok (by
  intro p hp
  simp only [cal, List.mem_cons, List.not_mem_nil, or_false] at hp
  rcases hp with rfl | rfl
  · exact impl_FewestSteps.ok n
  · exact impl_distances.ok n)
def fin : St → Option R := finOf ty [.tmp 2, .tmp 3] outs into
def lam (n : Nat) : Nat → (St → Option R) → St → Option R := fun _ => fun _ _ => none
theorem loops (n : Nat) : LoopsOk cfg (pick (cal n)) (lam n) fin (loopsOf cfg.blk code) := by
  have h : loopsOf cfg.blk code = [] := by kernel_rfl
  rw [h]
  intro p hp
  cases hp
theorem F_eq (n : Nat) (x0 : Int) (x1 : List (Int × Int × Int)) (x2 : List (Int)) : impl_DetourOf.F n x0 x1 x2 = exK cfg (pick (cal n)) (lam n) fin code (fun _ _ => none) (mkSt shp ((x0, x1, x2, ()), ())) fin := by
  kernel_rfl
def pfn (n : Nat) : PFn := mkFn shp outs (fun x => impl_DetourOf.F n x.1.1 x.1.2.1 x.1.2.2.1) out
theorem ok (n : Nat) : (pfn n).Ok Go.Proofs.Try.prog 47 :=
  mkFn_ok (fn := Go.Proofs.Try.f47) (code := code) Go.Proofs.Try.func47 (by kernel_rfl) (by decide) (C := cfg) (Φ := pick (cal n)) (Λ := lam n) (into := into) hT (cal_ok n) (by kernel_rfl) rfl (by decide) rfl (fun _ => rfl) (loops n)
    (fun x r h => by
      have e := F_eq n x.1.1 x.1.2.1 x.1.2.2.1
      exact e.symm.trans h)
end impl_DetourOf
end
/-! ### loop.example/g01158/spec.DetourOf -/
section
namespace spec_DetourOf
noncomputable def code : Code := (Go.Proofs.Try.f48.body).getD .skip
abbrev shp : Shape := [(0, .agg [.int .i64, .row (.t3) false, .row (.int .i64) false])]
abbrev outs : List KD := [.one (.int .i64), .one (.bool)]
abbrev R : Type := Int × Bool
def out : R → denL outs := fun r => (r.1, r.2, ())
def into : denL outs → R := fun y => (y.1, y.2.1)
def cfg : Cfg := ⟨ty, 21, [], fun _ => .plain, fun _ => none⟩
def cal (n : Nat) : List (Nat × PFn) := [(41, spec_FewestSteps.pfn n), (91, spec_l4Least.pfn n), (111, spec_l4Spread.pfn n)]
theorem cal_ok (n : Nat) : ∀ g, (pick (cal n) g).Ok Go.Proofs.Try.prog g := pick_ok (by
  intro p hp
  simp only [cal, List.mem_cons, List.not_mem_nil, or_false] at hp
  rcases hp with rfl | rfl | rfl
  · exact spec_FewestSteps.ok n
  · exact spec_l4Least.ok n
  · exact spec_l4Spread.ok n)
def fin : St → Option R := finOf ty [.tmp 2, .tmp 3] outs into
def lam (n : Nat) : Nat → (St → Option R) → St → Option R := fun _ => fun _ _ => none
theorem loops (n : Nat) : LoopsOk cfg (pick (cal n)) (lam n) fin (loopsOf cfg.blk code) := by
  have h : loopsOf cfg.blk code = [] := by kernel_rfl
  rw [h]
  intro p hp
  cases hp
theorem F_eq (n : Nat) (x0 : Int) (x1 : List (Int × Int × Int)) (x2 : List (Int)) : spec_DetourOf.F n x0 x1 x2 = exK cfg (pick (cal n)) (lam n) fin code (fun _ _ => none) (mkSt shp ((x0, x1, x2, ()), ())) fin := by
  kernel_rfl
def pfn (n : Nat) : PFn := mkFn shp outs (fun x => spec_DetourOf.F n x.1.1 x.1.2.1 x.1.2.2.1) out
theorem ok (n : Nat) : (pfn n).Ok Go.Proofs.Try.prog 48 :=
  mkFn_ok (fn := Go.Proofs.Try.f48) (code := code) Go.Proofs.Try.func48 (by kernel_rfl) (by decide) (C := cfg) (Φ := pick (cal n)) (Λ := lam n) (into := into) hT (cal_ok n) (by kernel_rfl) rfl (by decide) rfl (fun _ => rfl) (loops n)
    (fun x r h => by
      have e := F_eq n x.1.1 x.1.2.1 x.1.2.2.1
      exact e.symm.trans h)
end spec_DetourOf
end
/-! ### (*loop.example/g01158/spec.l1Cur).nodeOf -/
section
namespace spec_l1Cur_nodeOf
noncomputable def code : Code := (Go.Proofs.Try.f116.body).getD .skip
abbrev shp : Shape := [(0, .box true [.row (.int .u8) false, .int .i64, .int .u64]), (1, .agg [.int .i64, .row (.t3) false, .row (.int .i64) false])]
abbrev outs : List KD := [.one (.int .i64)]
abbrev R : Type := (List (Int)) × Int × Int × Int
abbrev bs : List BK := [.row (.int .u8) false, .int .i64, .int .u64]
abbrev rshp : Shape := [(1, .agg [.int .i64, .row (.t3) false, .row (.int .i64) false])]
def out : R → denB bs × denL outs := fun r => ((r.1, r.2.1, r.2.2.1, ()), (r.2.2.2, ()))
def into : denB bs → denL outs → R := fun z y => (z.1, z.2.1, z.2.2.1, y.1)
def cfg : Cfg := ⟨ty, 18, [0], fun _ => .plain, fun _ => none⟩
def cal (n : Nat) : List (Nat × PFn) := [(101, spec_l1Cur_one.pfn n), (123, spec_l1Cur_pick.pfn n), (128, spec_l1Cur_among.pfn n), (142, spec_l1Most.pfn n), (144, spec_l1Least.pfn n)]
theorem cal_ok (n : Nat) : ∀ g, (pick (cal n) g).Ok Go.Proofs.Try.prog g := pick_ok (by
  intro p hp
  simp only [cal, List.mem_cons, List.not_mem_nil, or_false] at hp
  rcases hp with rfl | rfl | rfl | rfl | rfl
  · exact spec_l1Cur_one.ok n
  · exact spec_l1Cur_pick.ok n
  · exact spec_l1Cur_among.ok n
  · exact spec_l1Most.ok n
  · exact spec_l1Least.ok n)
def fin : St → Option R := finBox ty [.tmp 4] bs outs into
def lam (n : Nat) : Nat → (St → Option R) → St → Option R := fun _ => fun _ _ => none
theorem loops (n : Nat) : LoopsOk cfg (pick (cal n)) (lam n) fin (loopsOf cfg.blk code) := by
  have h : loopsOf cfg.blk code = [] := by kernel_rfl
  rw [h]
  intro p hp
  cases hp
theorem F_eq (n : Nat) (x0 : List (Int)) (x1 : Int) (x2 : Int) (x3 : Int) (x4 : List (Int × Int × Int)) (x5 : List (Int)) : spec_l1Cur_nodeOf.F n x0 x1 x2 x3 x4 x5 = exK cfg (pick (cal n)) (lam n) fin code (fun _ _ => none) (mkSt shp ((x0, x1, x2, ()), (x3, x4, x5, ()), ())) fin := by
  kernel_rfl
def pfn (n : Nat) : PFn := mkBox bs rshp.ks outs (fun x xs => spec_l1Cur_nodeOf.F n x.1 x.2.1 x.2.2.1 xs.1.1 xs.1.2.1 xs.1.2.2.1) out
theorem ok (n : Nat) : (pfn n).Ok Go.Proofs.Try.prog 116 :=
  mkBox_ok (rshp := rshp) (fn := Go.Proofs.Try.f116) (code := code) Go.Proofs.Try.func116 (by kernel_rfl) (by decide) (C := cfg) (Φ := pick (cal n)) (Λ := lam n) (into := into) hT (cal_ok n) (by kernel_rfl) rfl (by decide) rfl rfl rfl (by decide) (fun _ _ => rfl) (loops n)
    (fun x xs r h => by
      have e := F_eq n x.1 x.2.1 x.2.2.1 xs.1.1 xs.1.2.1 xs.1.2.2.1
      exact e.symm.trans h)
end spec_l1Cur_nodeOf
end
/-! ### (*loop.example/g01158/spec.l1Cur).keyWalk -/
section
namespace spec_l1Cur_keyWalk
noncomputable def code : Code := (Go.Proofs.Try.f143.body).getD .skip
abbrev shp : Shape := [(0, .box true [.row (.int .u8) false, .int .i64, .int .u64]), (1, .agg [.int .i64, .row (.t3) false, .row (.int .i64) false])]
abbrev outs : List KD := [.one (.row (.int .i64) true)]
abbrev R : Type := (List (Int)) × Int × Int × (List (Int))
abbrev bs : List BK := [.row (.int .u8) false, .int .i64, .int .u64]
abbrev rshp : Shape := [(1, .agg [.int .i64, .row (.t3) false, .row (.int .i64) false])]
def out : R → denB bs × denL outs := fun r => ((r.1, r.2.1, r.2.2.1, ()), (r.2.2.2, ()))
def into : denB bs → denL outs → R := fun z y => (z.1, z.2.1, z.2.2.1, y.1)
def cfg : Cfg := ⟨ty, 99, [0], fun i => match Nat.beq i 2 with | true => .loop | false => match Nat.beq i 0 with | true => .loop | false => .plain, fun i => match Nat.beq i 16 with | true => some [(0, .box true [.row (.int .u8) false, .int .i64, .int .u64]), (3, .box true [.int .i64, .row (.t3) false, .row (.int .i64) false]), (5, .one (.row (.int .i64) true))] | false => none⟩
def cal (n : Nat) : List (Nat × PFn) := [(68, spec_l2Maze.pfn n), (116, spec_l1Cur_nodeOf.pfn n), (123, spec_l1Cur_pick.pfn n), (128, spec_l1Cur_among.pfn n), (130, spec_l2Open.pfn n)]
theorem cal_ok (n : Nat) : ∀ g, (pick (cal n) g).Ok Go.Proofs.Try.prog g := pick_ok (by
  intro p hp
  simp only [cal, List.mem_cons, List.not_mem_nil, or_false] at hp
  rcases hp with rfl | rfl | rfl | rfl | rfl
  · exact spec_l2Maze.ok n
  · exact spec_l1Cur_nodeOf.ok n
  · exact spec_l1Cur_pick.ok n
  · exact spec_l1Cur_among.ok n
  · exact spec_l2Open.ok n)
def fin : St → Option R := finBox ty [.tmp 4] bs outs into
abbrev sin2 : Shape := [(0, .box true [.row (.int .u8) false, .int .i64, .int .u64]), (3, .box true [.int .i64, .row (.t3) false, .row (.int .i64) false]), (5, .one (.row (.int .i64) true)), (6, .one (.int .i64)), (7, .one (.int .i64)), (8, .one (.int .i64)), (9, .one (.int .i64)), (10, .one (.int .i64))]
abbrev sout2 : Shape := [(0, .box true [.row (.int .u8) false, .int .i64, .int .u64]), (3, .box true [.int .i64, .row (.t3) false, .row (.int .i64) false]), (5, .one (.row (.int .i64) true)), (6, .one (.int .i64)), (7, .one (.int .i64)), (8, .one (.int .i64)), (9, .one (.int .i64))]
abbrev sin0 : Shape := [(0, .box true [.row (.int .u8) false, .int .i64, .int .u64]), (3, .box true [.int .i64, .row (.t3) false, .row (.int .i64) false]), (5, .one (.row (.int .i64) true)), (6, .one (.int .i64)), (7, .one (.int .i64))]
abbrev sout0 : Shape := [(0, .box true [.row (.int .u8) false, .int .i64, .int .u64]), (3, .box true [.int .i64, .row (.t3) false, .row (.int .i64) false]), (5, .one (.row (.int .i64) true))]
def lam (n : Nat) : Nat → (St → Option R) → St → Option R := fun i => match Nat.beq i 2 with | true => (fun K st => match absSt sin2 st with | some (x, _) => spec_l1Cur_keyWalk.l2 n (fun y0 y1 y2 y3 y4 y5 y6 y7 y8 y9 y10 => K (mkSt sout2 ((y0, y1, y2, ()), (y3, y4, y5, ()), y6, y7, y8, y9, y10, ()))) n x.1.1 x.1.2.1 x.1.2.2.1 x.2.1.1 x.2.1.2.1 x.2.1.2.2.1 x.2.2.1 x.2.2.2.1 x.2.2.2.2.1 x.2.2.2.2.2.1 x.2.2.2.2.2.2.1 x.2.2.2.2.2.2.2.1 | none => none) | false => match Nat.beq i 0 with | true => (fun K st => match absSt sin0 st with | some (x, _) => spec_l1Cur_keyWalk.l0 n (fun y0 y1 y2 y3 y4 y5 y6 => K (mkSt sout0 ((y0, y1, y2, ()), (y3, y4, y5, ()), y6, ()))) n x.1.1 x.1.2.1 x.1.2.2.1 x.2.1.1 x.2.1.2.1 x.2.1.2.2.1 x.2.2.1 x.2.2.2.1 x.2.2.2.2.1 | none => none) | false => fun _ _ => none
noncomputable def lps : List (Nat × Code) := loopsOf cfg.blk code
noncomputable def b2 : Code := bodyOf lps 2
theorem l2_eq (n : Nat) (K : St → Option R) : ∀ (j : Nat) (x0 : List (Int)) (x1 : Int) (x2 : Int) (x3 : Int) (x4 : List (Int × Int × Int)) (x5 : List (Int)) (x6 : List (Int)) (x7 : Int) (x8 : Int) (x9 : Int) (x10 : Int) (x11 : Int), spec_l1Cur_keyWalk.l2 n (fun y0 y1 y2 y3 y4 y5 y6 y7 y8 y9 y10 => K (mkSt sout2 ((y0, y1, y2, ()), (y3, y4, y5, ()), y6, y7, y8, y9, y10, ()))) j x0 x1 x2 x3 x4 x5 x6 x7 x8 x9 x10 x11 = iter (roundK cfg (pick (cal n)) (lam n) fin 2 b2 sin2 sout2 K) j (mkSt sin2 ((x0, x1, x2, ()), (x3, x4, x5, ()), x6, x7, x8, x9, x10, x11, ()))
  | 0, _, _, _, _, _, _, _, _, _, _, _, _ => rfl
  | j + 1, x0, x1, x2, x3, x4, x5, x6, x7, x8, x9, x10, x11 => by
    have ih : spec_l1Cur_keyWalk.l2 n (fun y0 y1 y2 y3 y4 y5 y6 y7 y8 y9 y10 => K (mkSt sout2 ((y0, y1, y2, ()), (y3, y4, y5, ()), y6, y7, y8, y9, y10, ()))) j = fun x0 x1 x2 x3 x4 x5 x6 x7 x8 x9 x10 x11 => iter (roundK cfg (pick (cal n)) (lam n) fin 2 b2 sin2 sout2 K) j (mkSt sin2 ((x0, x1, x2, ()), (x3, x4, x5, ()), x6, x7, x8, x9, x10, x11, ())) := funext fun x0 => funext fun x1 => funext fun x2 => funext fun x3 => funext fun x4 => funext fun x5 => funext fun x6 => funext fun x7 => funext fun x8 => funext fun x9 => funext fun x10 => funext fun x11 => l2_eq n K j x0 x1 x2 x3 x4 x5 x6 x7 x8 x9 x10 x11
    rw [spec_l1Cur_keyWalk.l2, ih]
    show _ = roundK cfg (pick (cal n)) (lam n) fin 2 b2 sin2 sout2 K (iter (roundK cfg (pick (cal n)) (lam n) fin 2 b2 sin2 sout2 K) j) (mkSt sin2 ((x0, x1, x2, ()), (x3, x4, x5, ()), x6, x7, x8, x9, x10, x11, ()))
    kernel_rfl
noncomputable def b0 : Code := bodyOf lps 0
theorem l0_eq (n : Nat) (K : St → Option R) : ∀ (j : Nat) (x0 : List (Int)) (x1 : Int) (x2 : Int) (x3 : Int) (x4 : List (Int × Int × Int)) (x5 : List (Int)) (x6 : List (Int)) (x7 : Int) (x8 : Int), spec_l1Cur_keyWalk.l0 n (fun y0 y1 y2 y3 y4 y5 y6 => K (mkSt sout0 ((y0, y1, y2, ()), (y3, y4, y5, ()), y6, ()))) j x0 x1 x2 x3 x4 x5 x6 x7 x8 = iter (roundK cfg (pick (cal n)) (lam n) fin 0 b0 sin0 sout0 K) j (mkSt sin0 ((x0, x1, x2, ()), (x3, x4, x5, ()), x6, x7, x8, ()))
  | 0, _, _, _, _, _, _, _, _, _ => rfl
  | j + 1, x0, x1, x2, x3, x4, x5, x6, x7, x8 => by
    have ih : spec_l1Cur_keyWalk.l0 n (fun y0 y1 y2 y3 y4 y5 y6 => K (mkSt sout0 ((y0, y1, y2, ()), (y3, y4, y5, ()), y6, ()))) j = fun x0 x1 x2 x3 x4 x5 x6 x7 x8 => iter (roundK cfg (pick (cal n)) (lam n) fin 0 b0 sin0 sout0 K) j (mkSt sin0 ((x0, x1, x2, ()), (x3, x4, x5, ()), x6, x7, x8, ())) := funext fun x0 => funext fun x1 => funext fun x2 => funext fun x3 => funext fun x4 => funext fun x5 => funext fun x6 => funext fun x7 => funext fun x8 => l0_eq n K j x0 x1 x2 x3 x4 x5 x6 x7 x8
    rw [spec_l1Cur_keyWalk.l0, ih]
    show _ = roundK cfg (pick (cal n)) (lam n) fin 0 b0 sin0 sout0 K (iter (roundK cfg (pick (cal n)) (lam n) fin 0 b0 sin0 sout0 K) j) (mkSt sin0 ((x0, x1, x2, ()), (x3, x4, x5, ()), x6, x7, x8, ()))
    kernel_rfl
theorem loops (n : Nat) : LoopsOk cfg (pick (cal n)) (lam n) fin (loopsOf cfg.blk code) := by
  have h : loopsOf cfg.blk code = [(0, b0), (2, b2)] := by kernel_rfl
  rw [h]
  intro p hp K st r hr
  simp only [List.mem_cons, List.not_mem_nil, or_false] at hp
  rcases hp with rfl | rfl
  · have hr' : (match absSt sin0 st with | some (x, _) => spec_l1Cur_keyWalk.l0 n (fun y0 y1 y2 y3 y4 y5 y6 => K (mkSt sout0 ((y0, y1, y2, ()), (y3, y4, y5, ()), y6, ()))) n x.1.1 x.1.2.1 x.1.2.2.1 x.2.1.1 x.2.1.2.1 x.2.1.2.2.1 x.2.2.1 x.2.2.2.1 x.2.2.2.2.1 | none => none) = some r := hr
    split at hr'
    · rename_i x es hx
      rw [l0_eq] at hr'
      exact ⟨sin0, sout0, n, x, es, hx, hr'⟩
    · cases hr'
  · have hr' : (match absSt sin2 st with | some (x, _) => spec_l1Cur_keyWalk.l2 n (fun y0 y1 y2 y3 y4 y5 y6 y7 y8 y9 y10 => K (mkSt sout2 ((y0, y1, y2, ()), (y3, y4, y5, ()), y6, y7, y8, y9, y10, ()))) n x.1.1 x.1.2.1 x.1.2.2.1 x.2.1.1 x.2.1.2.1 x.2.1.2.2.1 x.2.2.1 x.2.2.2.1 x.2.2.2.2.1 x.2.2.2.2.2.1 x.2.2.2.2.2.2.1 x.2.2.2.2.2.2.2.1 | none => none) = some r := hr
    split at hr'
    · rename_i x es hx
      rw [l2_eq] at hr'
      exact ⟨sin2, sout2, n, x, es, hx, hr'⟩
    · cases hr'
noncomputable def code16 : Code := spineAt 5 code
abbrev cut16 : Shape := [(0, .box true [.row (.int .u8) false, .int .i64, .int .u64]), (3, .box true [.int .i64, .row (.t3) false, .row (.int .i64) false]), (5, .one (.row (.int .i64) true))]
theorem c16_eq (n : Nat) (x0 : List (Int)) (x1 : Int) (x2 : Int) (x3 : Int) (x4 : List (Int × Int × Int)) (x5 : List (Int)) (x6 : List (Int)) : spec_l1Cur_keyWalk.c16 n x0 x1 x2 x3 x4 x5 x6 = exK cfg (pick (cal n)) (lam n) fin code16 (fun _ _ => none) (mkSt cut16 ((x0, x1, x2, ()), (x3, x4, x5, ()), x6, ())) fin := by
  kernel_rfl
theorem F_seg (n : Nat) (x0 : List (Int)) (x1 : Int) (x2 : Int) (x3 : Int) (x4 : List (Int × Int × Int)) (x5 : List (Int)) : spec_l1Cur_keyWalk.F n x0 x1 x2 x3 x4 x5 = exSeg cfg (pick (cal n)) (lam n) fin (fun _ _ => none) cut16 (fun x => spec_l1Cur_keyWalk.c16 n x.1.1 x.1.2.1 x.1.2.2.1 x.2.1.1 x.2.1.2.1 x.2.1.2.2.1 x.2.2.1) 4 code (mkSt shp ((x0, x1, x2, ()), (x3, x4, x5, ()), ())) := by
  kernel_rfl
theorem F_eq (n : Nat) (x0 : List (Int)) (x1 : Int) (x2 : Int) (x3 : Int) (x4 : List (Int × Int × Int)) (x5 : List (Int)) : spec_l1Cur_keyWalk.F n x0 x1 x2 x3 x4 x5 = exK cfg (pick (cal n)) (lam n) fin code (fun _ _ => none) (mkSt shp ((x0, x1, x2, ()), (x3, x4, x5, ()), ())) fin :=
  (F_seg n x0 x1 x2 x3 x4 x5).trans (seg_eq 4 (by kernel_rfl) rfl (by kernel_rfl) (fun x => c16_eq n x.1.1 x.1.2.1 x.1.2.2.1 x.2.1.1 x.2.1.2.1 x.2.1.2.2.1 x.2.2.1))
def pfn (n : Nat) : PFn := mkBox bs rshp.ks outs (fun x xs => spec_l1Cur_keyWalk.F n x.1 x.2.1 x.2.2.1 xs.1.1 xs.1.2.1 xs.1.2.2.1) out
theorem ok (n : Nat) : (pfn n).Ok Go.Proofs.Try.prog 143 :=
  mkBox_ok (rshp := rshp) (fn := Go.Proofs.Try.f143) (code := code) Go.Proofs.Try.func143 (by kernel_rfl) (by decide) (C := cfg) (Φ := pick (cal n)) (Λ := lam n) (into := into) hT (cal_ok n) (by kernel_rfl) rfl (by decide) rfl rfl rfl (by decide) (fun _ _ => rfl) (loops n)
    (fun x xs r h => by
      have e := F_eq n x.1 x.2.1 x.2.2.1 xs.1.1 xs.1.2.1 xs.1.2.2.1
      exact e.symm.trans h)
end spec_l1Cur_keyWalk
end
/-! ### loop.example/g01158/spec.DrawIsKeyWalk -/
section
namespace spec_DrawIsKeyWalk
noncomputable def code : Code := (Go.Proofs.Try.f112.body).getD .skip
abbrev shp : Shape := [(0, .one (.row (.int .u8) false))]
abbrev outs : List KD := [.agg [.int .i64, .row (.t3) true, .row (.int .i64) true], .one (.row (.int .i64) true)]
abbrev R : Type := Int × (List (Int × Int × Int)) × (List (Int)) × (List (Int))
def out : R → denL outs := fun r => ((r.1, r.2.1, r.2.2.1, ()), r.2.2.2, ())
def into : denL outs → R := fun y => (y.1.1, y.1.2.1, y.1.2.2.1, y.2.1)
def cfg : Cfg := ⟨ty, 15, [], fun _ => .plain, fun _ => none⟩
def cal (n : Nat) : List (Nat × PFn) := [(100, spec_l1Cur_maze.pfn n), (143, spec_l1Cur_keyWalk.pfn n)]
theorem cal_ok (n : Nat) : ∀ g, (pick (cal n) g).Ok Go.Proofs.Try.prog g := pick_ok (by
  intro p hp
  simp only [cal, List.mem_cons, List.not_mem_nil, or_false] at hp
  rcases hp with rfl | rfl
  · exact spec_l1Cur_maze.ok n
  · exact spec_l1Cur_keyWalk.ok n)
def fin : St → Option R := finOf ty [.cell 2 29, .tmp 3] outs into
def lam (n : Nat) : Nat → (St → Option R) → St → Option R := fun _ => fun _ _ => none
theorem loops (n : Nat) : LoopsOk cfg (pick (cal n)) (lam n) fin (loopsOf cfg.blk code) := by
  have h : loopsOf cfg.blk code = [] := by kernel_rfl
  rw [h]
  intro p hp
  cases hp
theorem F_eq (n : Nat) (x0 : List (Int)) : spec_DrawIsKeyWalk.F n x0 = exK cfg (pick (cal n)) (lam n) fin code (fun _ _ => none) (mkSt shp (x0, ())) fin := by
  kernel_rfl
def pfn (n : Nat) : PFn := mkFn shp outs (fun x => spec_DrawIsKeyWalk.F n x.1) out
theorem ok (n : Nat) : (pfn n).Ok Go.Proofs.Try.prog 112 :=
  mkFn_ok (fn := Go.Proofs.Try.f112) (code := code) Go.Proofs.Try.func112 (by kernel_rfl) (by decide) (C := cfg) (Φ := pick (cal n)) (Λ := lam n) (into := into) hT (cal_ok n) (by kernel_rfl) rfl (by decide) rfl (fun _ => rfl) (loops n)
    (fun x r h => by
      have e := F_eq n x.1
      exact e.symm.trans h)
end spec_DrawIsKeyWalk
end
/-! ### loop.example/g01158/spec.DrawWayBack -/
section
namespace spec_DrawWayBack
noncomputable def code : Code := (Go.Proofs.Try.f49.body).getD .skip
abbrev shp : Shape := [(0, .one (.row (.int .u8) false))]
abbrev outs : List KD := [.agg [.int .i64, .row (.t3) true, .row (.int .i64) true], .one (.row (.int .i64) true)]
abbrev R : Type := Int × (List (Int × Int × Int)) × (List (Int)) × (List (Int))
def out : R → denL outs := fun r => ((r.1, r.2.1, r.2.2.1, ()), r.2.2.2, ())
def into : denL outs → R := fun y => (y.1.1, y.1.2.1, y.1.2.2.1, y.2.1)
def cfg : Cfg := ⟨ty, 8, [], fun _ => .plain, fun _ => none⟩
def cal (n : Nat) : List (Nat × PFn) := [(112, spec_DrawIsKeyWalk.pfn n)]
theorem cal_ok (n : Nat) : ∀ g, (pick (cal n) g).Ok Go.Proofs.Try.prog g := pick_ok (by
  intro p hp
  simp only [cal, List.mem_cons, List.not_mem_nil, or_false] at hp
  rcases hp with rfl
  · exact spec_DrawIsKeyWalk.ok n)
def fin : St → Option R := finOf ty [.cell 2 29, .tmp 3] outs into
def lam (n : Nat) : Nat → (St → Option R) → St → Option R := fun _ => fun _ _ => none
theorem loops (n : Nat) : LoopsOk cfg (pick (cal n)) (lam n) fin (loopsOf cfg.blk code) := by
  have h : loopsOf cfg.blk code = [] := by kernel_rfl
  rw [h]
  intro p hp
  cases hp
theorem F_eq (n : Nat) (x0 : List (Int)) : spec_DrawWayBack.F n x0 = exK cfg (pick (cal n)) (lam n) fin code (fun _ _ => none) (mkSt shp (x0, ())) fin := by
  kernel_rfl
def pfn (n : Nat) : PFn := mkFn shp outs (fun x => spec_DrawWayBack.F n x.1) out
theorem ok (n : Nat) : (pfn n).Ok Go.Proofs.Try.prog 49 :=
  mkFn_ok (fn := Go.Proofs.Try.f49) (code := code) Go.Proofs.Try.func49 (by kernel_rfl) (by decide) (C := cfg) (Φ := pick (cal n)) (Λ := lam n) (into := into) hT (cal_ok n) (by kernel_rfl) rfl (by decide) rfl (fun _ => rfl) (loops n)
    (fun x r h => by
      have e := F_eq n x.1
      exact e.symm.trans h)
end spec_DrawWayBack
end
/-! ### loop.example/g01158/impl.taken -/
section
namespace impl_taken
noncomputable def code : Code := (Go.Proofs.Try.f115.body).getD .skip
abbrev shp : Shape := [(0, .agg [.int .i64, .row (.t3) false, .row (.int .i64) false]), (1, .one (.row (.int .i64) false))]
abbrev outs : List KD := [.one (.row (.int .i64) true), .one (.bool)]
abbrev R : Type := (List (Int)) × Bool
def out : R → denL outs := fun r => (r.1, r.2, ())
def into : denL outs → R := fun y => (y.1, y.2.1)
def cfg : Cfg := ⟨ty, 64, [], fun i => match Nat.beq i 0 with | true => .loop | false => .plain, fun i => match Nat.beq i 3 with | true => some [(1, .one (.row (.int .i64) false)), (2, .box true [.int .i64, .row (.t3) false, .row (.int .i64) false])] | false => none⟩
def cal (n : Nat) : List (Nat × PFn) := [(77, impl_steps.pfn n), (84, impl_within.pfn n)]
theorem cal_ok (n : Nat) : ∀ g, (pick (cal n) g).Ok Go.Proofs.Try.prog g := pick_ok (by
  intro p hp
  simp only [cal, List.mem_cons, List.not_mem_nil, or_false] at hp
  rcases hp with rfl | rfl
  · exact impl_steps.ok n
  · exact impl_within.ok n)
def fin : St → Option R := finOf ty [.tmp 4, .tmp 5] outs into
abbrev sin0 : Shape := [(1, .one (.row (.int .i64) false)), (2, .box true [.int .i64, .row (.t3) false, .row (.int .i64) false]), (6, .one (.row (.int .i64) true)), (7, .one (.int .i64)), (20, .one (.ref 0)), (21, .one (.int .i64)), (22, .one (.int .i64))]
abbrev sout0 : Shape := [(6, .one (.row (.int .i64) true))]
def lam (n : Nat) : Nat → (St → Option R) → St → Option R := fun i => match Nat.beq i 0 with | true => (fun K st => match absSt sin0 st with | some (x, _) => impl_taken.l0 n (fun y0 => K (mkSt sout0 (y0, ()))) n x.1 x.2.1.1 x.2.1.2.1 x.2.1.2.2.1 x.2.2.1 x.2.2.2.1 x.2.2.2.2.2.1 x.2.2.2.2.2.2.1 | none => none) | false => fun _ _ => none
noncomputable def lps : List (Nat × Code) := loopsOf cfg.blk code
noncomputable def b0 : Code := bodyOf lps 0
theorem l0_eq (n : Nat) (K : St → Option R) : ∀ (j : Nat) (x0 : List (Int)) (x1 : Int) (x2 : List (Int × Int × Int)) (x3 : List (Int)) (x4 : List (Int)) (x5 : Int) (x6 : Int) (x7 : Int), impl_taken.l0 n (fun y0 => K (mkSt sout0 (y0, ()))) j x0 x1 x2 x3 x4 x5 x6 x7 = iter (roundK cfg (pick (cal n)) (lam n) fin 0 b0 sin0 sout0 K) j (mkSt sin0 (x0, (x1, x2, x3, ()), x4, x5, (), x6, x7, ()))
  | 0, _, _, _, _, _, _, _, _ => rfl
  | j + 1, x0, x1, x2, x3, x4, x5, x6, x7 => by
    have ih : impl_taken.l0 n (fun y0 => K (mkSt sout0 (y0, ()))) j = fun x0 x1 x2 x3 x4 x5 x6 x7 => iter (roundK cfg (pick (cal n)) (lam n) fin 0 b0 sin0 sout0 K) j (mkSt sin0 (x0, (x1, x2, x3, ()), x4, x5, (), x6, x7, ())) := funext fun x0 => funext fun x1 => funext fun x2 => funext fun x3 => funext fun x4 => funext fun x5 => funext fun x6 => funext fun x7 => l0_eq n K j x0 x1 x2 x3 x4 x5 x6 x7
    rw [impl_taken.l0, ih]
    show _ = roundK cfg (pick (cal n)) (lam n) fin 0 b0 sin0 sout0 K (iter (roundK cfg (pick (cal n)) (lam n) fin 0 b0 sin0 sout0 K) j) (mkSt sin0 (x0, (x1, x2, x3, ()), x4, x5, (), x6, x7, ()))
    kernel_rfl
theorem loops (n : Nat) : LoopsOk cfg (pick (cal n)) (lam n) fin (loopsOf cfg.blk code) := by
  have h : loopsOf cfg.blk code = [(0, b0)] := by kernel_rfl
  rw [h]
  intro p hp K st r hr
  simp only [List.mem_cons, List.not_mem_nil, or_false] at hp
  rcases hp with rfl
  · have hr' : (match absSt sin0 st with | some (x, _) => impl_taken.l0 n (fun y0 => K (mkSt sout0 (y0, ()))) n x.1 x.2.1.1 x.2.1.2.1 x.2.1.2.2.1 x.2.2.1 x.2.2.2.1 x.2.2.2.2.2.1 x.2.2.2.2.2.2.1 | none => none) = some r := hr
    split at hr'
    · rename_i x es hx
      rw [l0_eq] at hr'
      exact ⟨sin0, sout0, n, x, es, hx, hr'⟩
    · cases hr'
theorem F_eq (n : Nat) (x0 : Int) (x1 : List (Int × Int × Int)) (x2 : List (Int)) (x3 : List (Int)) : impl_taken.F n x0 x1 x2 x3 = exK cfg (pick (cal n)) (lam n) fin code (fun _ _ => none) (mkSt shp ((x0, x1, x2, ()), x3, ())) fin := by
  kernel_rfl
def pfn (n : Nat) : PFn := mkFn shp outs (fun x => impl_taken.F n x.1.1 x.1.2.1 x.1.2.2.1 x.2.1) out
theorem ok (n : Nat) : (pfn n).Ok Go.Proofs.Try.prog 115 :=
  mkFn_ok (fn := Go.Proofs.Try.f115) (code := code) Go.Proofs.Try.func115 (by kernel_rfl) (by decide) (C := cfg) (Φ := pick (cal n)) (Λ := lam n) (into := into) hT (cal_ok n) (by kernel_rfl) rfl (by decide) rfl (fun _ => rfl) (loops n)
    (fun x r h => by
      have e := F_eq n x.1.1 x.1.2.1 x.1.2.2.1 x.2.1
      exact e.symm.trans h)
end impl_taken
end
/-! ### loop.example/g01158/impl.TakenOn -/
section
namespace impl_TakenOn
noncomputable def code : Code := (Go.Proofs.Try.f113.body).getD .skip
abbrev shp : Shape := [(0, .agg [.int .i64, .row (.t3) false, .row (.int .i64) false]), (1, .one (.row (.int .i64) false))]
abbrev outs : List KD := [.one (.row (.int .i64) true), .one (.bool)]
abbrev R : Type := (List (Int)) × Bool
def out : R → denL outs := fun r => (r.1, r.2, ())
def into : denL outs → R := fun y => (y.1, y.2.1)
def cfg : Cfg := ⟨ty, 14, [], fun _ => .plain, fun _ => none⟩
def cal (n : Nat) : List (Nat × PFn) := [(27, impl_IsMaze.pfn n), (115, impl_taken.pfn n)]
theorem cal_ok (n : Nat) : ∀ g, (pick (cal n) g).Ok Go.Proofs.Try.prog g := pick_ok (by
  intro p hp
  simp only [cal, List.mem_cons, List.not_mem_nil, or_false] at hp
  rcases hp with rfl | rfl
  · exact impl_IsMaze.ok n
  · exact impl_taken.ok n)
def fin : St → Option R := finOf ty [.tmp 4, .tmp 5] outs into
def lam (n : Nat) : Nat → (St → Option R) → St → Option R := fun _ => fun _ _ => none
theorem loops (n : Nat) : LoopsOk cfg (pick (cal n)) (lam n) fin (loopsOf cfg.blk code) := by
  have h : loopsOf cfg.blk code = [] := by kernel_rfl
  rw [h]
  intro p hp
  cases hp
theorem F_eq (n : Nat) (x0 : Int) (x1 : List (Int × Int × Int)) (x2 : List (Int)) (x3 : List (Int)) : impl_TakenOn.F n x0 x1 x2 x3 = exK cfg (pick (cal n)) (lam n) fin code (fun _ _ => none) (mkSt shp ((x0, x1, x2, ()), x3, ())) fin := by
  kernel_rfl
def pfn (n : Nat) : PFn := mkFn shp outs (fun x => impl_TakenOn.F n x.1.1 x.1.2.1 x.1.2.2.1 x.2.1) out
theorem ok (n : Nat) : (pfn n).Ok Go.Proofs.Try.prog 113 :=
  mkFn_ok (fn := Go.Proofs.Try.f113) (code := code) Go.Proofs.Try.func113 (by kernel_rfl) (by decide) (C := cfg) (Φ := pick (cal n)) (Λ := lam n) (into := into) hT (cal_ok n) (by kernel_rfl) rfl (by decide) rfl (fun _ => rfl) (loops n)
    (fun x r h => by
      have e := F_eq n x.1.1 x.1.2.1 x.1.2.2.1 x.2.1
      exact e.symm.trans h)
end impl_TakenOn
end
/-! ### loop.example/g01158/impl.WayBack -/
section
namespace impl_WayBack
noncomputable def code : Code := (Go.Proofs.Try.f50.body).getD .skip
abbrev shp : Shape := [(0, .agg [.int .i64, .row (.t3) false, .row (.int .i64) false]), (1, .one (.row (.int .i64) false))]
abbrev outs : List KD := [.one (.int .i64), .one (.bool)]
abbrev R : Type := Int × Bool
def out : R → denL outs := fun r => (r.1, r.2, ())
def into : denL outs → R := fun y => (y.1, y.2.1)
def cfg : Cfg := ⟨ty, 34, [], fun _ => .plain, fun _ => none⟩
def cal (n : Nat) : List (Nat × PFn) := [(92, impl_told.pfn n), (106, impl_grid_least_canySet.pfn n), (110, impl_distances.pfn n), (113, impl_TakenOn.pfn n)]
theorem cal_ok (n : Nat) : ∀ g, (pick (cal n) g).Ok Go.Proofs.Try.prog g := pick_ok (by
  intro p hp
  simp only [cal, List.mem_cons, List.not_mem_nil, or_false] at hp
  rcases hp with rfl | rfl | rfl | rfl
  · exact impl_told.ok n
  · exact impl_grid_least_canySet.ok n
  · exact impl_distances.ok n
  · exact impl_TakenOn.ok n)
def fin : St → Option R := finOf ty [.tmp 4, .tmp 5] outs into
def lam (n : Nat) : Nat → (St → Option R) → St → Option R := fun _ => fun _ _ => none
theorem loops (n : Nat) : LoopsOk cfg (pick (cal n)) (lam n) fin (loopsOf cfg.blk code) := by
  have h : loopsOf cfg.blk code = [] := by kernel_rfl
  rw [h]
  intro p hp
  cases hp
theorem F_eq (n : Nat) (x0 : Int) (x1 : List (Int × Int × Int)) (x2 : List (Int)) (x3 : List (Int)) : impl_WayBack.F n x0 x1 x2 x3 = exK cfg (pick (cal n)) (lam n) fin code (fun _ _ => none) (mkSt shp ((x0, x1, x2, ()), x3, ())) fin := by
  kernel_rfl
def pfn (n : Nat) : PFn := mkFn shp outs (fun x => impl_WayBack.F n x.1.1 x.1.2.1 x.1.2.2.1 x.2.1) out
theorem ok (n : Nat) : (pfn n).Ok Go.Proofs.Try.prog 50 :=
  mkFn_ok (fn := Go.Proofs.Try.f50) (code := code) Go.Proofs.Try.func50 (by kernel_rfl) (by decide) (C := cfg) (Φ := pick (cal n)) (Λ := lam n) (into := into) hT (cal_ok n) (by kernel_rfl) rfl (by decide) rfl (fun _ => rfl) (loops n)
    (fun x r h => by
      have e := F_eq n x.1.1 x.1.2.1 x.1.2.2.1 x.2.1
      exact e.symm.trans h)
end impl_WayBack
end
/-! ### loop.example/g01158/spec.l2Taken -/
section
namespace spec_l2Taken
noncomputable def code : Code := (Go.Proofs.Try.f114.body).getD .skip
abbrev shp : Shape := [(0, .agg [.int .i64, .row (.t3) false, .row (.int .i64) false]), (1, .one (.row (.int .i64) false))]
abbrev outs : List KD := [.one (.row (.int .i64) true), .one (.bool)]
abbrev R : Type := (List (Int)) × Bool
def out : R → denL outs := fun r => (r.1, r.2, ())
def into : denL outs → R := fun y => (y.1, y.2.1)
def cfg : Cfg := ⟨ty, 73, [], fun i => match Nat.beq i 0 with | true => .loop | false => .plain, fun _ => none⟩
def cal (n : Nat) : List (Nat × PFn) := [(125, spec_l1In.pfn n), (130, spec_l2Open.pfn n)]
theorem cal_ok (n : Nat) : ∀ g, (pick (cal n) g).Ok Go.Proofs.Try.prog g := pick_ok (by
  intro p hp
  simp only [cal, List.mem_cons, List.not_mem_nil, or_false] at hp
  rcases hp with rfl | rfl
  · exact spec_l1In.ok n
  · exact spec_l2Open.ok n)
def fin : St → Option R := finOf ty [.tmp 4, .tmp 5] outs into
abbrev sin0 : Shape := [(1, .one (.row (.int .i64) false)), (2, .box true [.int .i64, .row (.t3) false, .row (.int .i64) false]), (6, .one (.row (.int .i64) true)), (7, .one (.int .i64)), (8, .one (.int .i64))]
abbrev sout0 : Shape := [(6, .one (.row (.int .i64) true))]
def lam (n : Nat) : Nat → (St → Option R) → St → Option R := fun i => match Nat.beq i 0 with | true => (fun K st => match absSt sin0 st with | some (x, _) => spec_l2Taken.l0 n (fun y0 => K (mkSt sout0 (y0, ()))) n x.1 x.2.1.1 x.2.1.2.1 x.2.1.2.2.1 x.2.2.1 x.2.2.2.1 x.2.2.2.2.1 | none => none) | false => fun _ _ => none
noncomputable def lps : List (Nat × Code) := loopsOf cfg.blk code
noncomputable def b0 : Code := bodyOf lps 0
theorem l0_eq (n : Nat) (K : St → Option R) : ∀ (j : Nat) (x0 : List (Int)) (x1 : Int) (x2 : List (Int × Int × Int)) (x3 : List (Int)) (x4 : List (Int)) (x5 : Int) (x6 : Int), spec_l2Taken.l0 n (fun y0 => K (mkSt sout0 (y0, ()))) j x0 x1 x2 x3 x4 x5 x6 = iter (roundK cfg (pick (cal n)) (lam n) fin 0 b0 sin0 sout0 K) j (mkSt sin0 (x0, (x1, x2, x3, ()), x4, x5, x6, ()))
  | 0, _, _, _, _, _, _, _ => rfl
  | j + 1, x0, x1, x2, x3, x4, x5, x6 => by
    have ih : spec_l2Taken.l0 n (fun y0 => K (mkSt sout0 (y0, ()))) j = fun x0 x1 x2 x3 x4 x5 x6 => iter (roundK cfg (pick (cal n)) (lam n) fin 0 b0 sin0 sout0 K) j (mkSt sin0 (x0, (x1, x2, x3, ()), x4, x5, x6, ())) := funext fun x0 => funext fun x1 => funext fun x2 => funext fun x3 => funext fun x4 => funext fun x5 => funext fun x6 => l0_eq n K j x0 x1 x2 x3 x4 x5 x6
    rw [spec_l2Taken.l0, ih]
    show _ = roundK cfg (pick (cal n)) (lam n) fin 0 b0 sin0 sout0 K (iter (roundK cfg (pick (cal n)) (lam n) fin 0 b0 sin0 sout0 K) j) (mkSt sin0 (x0, (x1, x2, x3, ()), x4, x5, x6, ()))
    kernel_rfl
theorem loops (n : Nat) : LoopsOk cfg (pick (cal n)) (lam n) fin (loopsOf cfg.blk code) := by
  have h : loopsOf cfg.blk code = [(0, b0)] := by kernel_rfl
  rw [h]
  intro p hp K st r hr
  simp only [List.mem_cons, List.not_mem_nil, or_false] at hp
  rcases hp with rfl
  · have hr' : (match absSt sin0 st with | some (x, _) => spec_l2Taken.l0 n (fun y0 => K (mkSt sout0 (y0, ()))) n x.1 x.2.1.1 x.2.1.2.1 x.2.1.2.2.1 x.2.2.1 x.2.2.2.1 x.2.2.2.2.1 | none => none) = some r := hr
    split at hr'
    · rename_i x es hx
      rw [l0_eq] at hr'
      exact ⟨sin0, sout0, n, x, es, hx, hr'⟩
    · cases hr'
theorem F_eq (n : Nat) (x0 : Int) (x1 : List (Int × Int × Int)) (x2 : List (Int)) (x3 : List (Int)) : spec_l2Taken.F n x0 x1 x2 x3 = exK cfg (pick (cal n)) (lam n) fin code (fun _ _ => none) (mkSt shp ((x0, x1, x2, ()), x3, ())) fin := by
  kernel_rfl
def pfn (n : Nat) : PFn := mkFn shp outs (fun x => spec_l2Taken.F n x.1.1 x.1.2.1 x.1.2.2.1 x.2.1) out
theorem ok (n : Nat) : (pfn n).Ok Go.Proofs.Try.prog 114 :=
  mkFn_ok (fn := Go.Proofs.Try.f114) (code := code) Go.Proofs.Try.func114 (by kernel_rfl) (by decide) (C := cfg) (Φ := pick (cal n)) (Λ := lam n) (into := into) hT (cal_ok n) (by kernel_rfl) rfl (by decide) rfl (fun _ => rfl) (loops n)
    (fun x r h => by
      have e := F_eq n x.1.1 x.1.2.1 x.1.2.2.1 x.2.1
      exact e.symm.trans h)
end spec_l2Taken
end
/-! ### loop.example/g01158/spec.WayBack -/
section
namespace spec_WayBack
noncomputable def code : Code := (Go.Proofs.Try.f51.body).getD .skip
abbrev shp : Shape := [(0, .agg [.int .i64, .row (.t3) false, .row (.int .i64) false]), (1, .one (.row (.int .i64) false))]
abbrev outs : List KD := [.one (.int .i64), .one (.bool)]
abbrev R : Type := Int × Bool
def out : R → denL outs := fun r => (r.1, r.2, ())
def into : denL outs → R := fun y => (y.1, y.2.1)
def cfg : Cfg := ⟨ty, 37, [], fun _ => .plain, fun _ => none⟩
def cal (n : Nat) : List (Nat × PFn) := [(68, spec_l2Maze.pfn n), (91, spec_l4Least.pfn n), (99, spec_l4Told.pfn n), (111, spec_l4Spread.pfn n), (114, spec_l2Taken.pfn n)]
theorem cal_ok (n : Nat) : ∀ g, (pick (cal n) g).Ok Go.Proofs.Try.prog g := pick_ok (by
  intro p hp
  simp only [cal, List.mem_cons, List.not_mem_nil, or_false] at hp
  rcases hp with rfl | rfl | rfl | rfl | rfl
  · exact spec_l2Maze.ok n
  · exact spec_l4Least.ok n
  · exact spec_l4Told.ok n
  · exact spec_l4Spread.ok n
  · exact spec_l2Taken.ok n)
def fin : St → Option R := finOf ty [.tmp 4, .tmp 5] outs into
def lam (n : Nat) : Nat → (St → Option R) → St → Option R := fun _ => fun _ _ => none
theorem loops (n : Nat) : LoopsOk cfg (pick (cal n)) (lam n) fin (loopsOf cfg.blk code) := by
  have h : loopsOf cfg.blk code = [] := by kernel_rfl
  rw [h]
  intro p hp
  cases hp
theorem F_eq (n : Nat) (x0 : Int) (x1 : List (Int × Int × Int)) (x2 : List (Int)) (x3 : List (Int)) : spec_WayBack.F n x0 x1 x2 x3 = exK cfg (pick (cal n)) (lam n) fin code (fun _ _ => none) (mkSt shp ((x0, x1, x2, ()), x3, ())) fin := by
  kernel_rfl
def pfn (n : Nat) : PFn := mkFn shp outs (fun x => spec_WayBack.F n x.1.1 x.1.2.1 x.1.2.2.1 x.2.1) out
theorem ok (n : Nat) : (pfn n).Ok Go.Proofs.Try.prog 51 :=
  mkFn_ok (fn := Go.Proofs.Try.f51) (code := code) Go.Proofs.Try.func51 (by kernel_rfl) (by decide) (C := cfg) (Φ := pick (cal n)) (Λ := lam n) (into := into) hT (cal_ok n) (by kernel_rfl) rfl (by decide) rfl (fun _ => rfl) (loops n)
    (fun x r h => by
      have e := F_eq n x.1.1 x.1.2.1 x.1.2.2.1 x.2.1
      exact e.symm.trans h)
end spec_WayBack
end
/-! ### loop.example/g01158/impl.IsKeyWalk -/
section
namespace impl_IsKeyWalk
noncomputable def code : Code := (Go.Proofs.Try.f52.body).getD .skip
abbrev shp : Shape := [(0, .agg [.int .i64, .row (.t3) false, .row (.int .i64) false]), (1, .one (.row (.int .i64) false))]
abbrev outs : List KD := [.one (.bool), .one (.bool)]
abbrev R : Type := Bool × Bool
def out : R → denL outs := fun r => (r.1, r.2, ())
def into : denL outs → R := fun y => (y.1, y.2.1)
def cfg : Cfg := ⟨ty, 18, [], fun _ => .plain, fun _ => none⟩
def cal (n : Nat) : List (Nat × PFn) := [(27, impl_IsMaze.pfn n), (115, impl_taken.pfn n)]
theorem cal_ok (n : Nat) : ∀ g, (pick (cal n) g).Ok Go.Proofs.Try.prog g := pick_ok (by
  intro p hp
  simp only [cal, List.mem_cons, List.not_mem_nil, or_false] at hp
  rcases hp with rfl | rfl
  · exact impl_IsMaze.ok n
  · exact impl_taken.ok n)
def fin : St → Option R := finOf ty [.tmp 4, .tmp 5] outs into
def lam (n : Nat) : Nat → (St → Option R) → St → Option R := fun _ => fun _ _ => none
theorem loops (n : Nat) : LoopsOk cfg (pick (cal n)) (lam n) fin (loopsOf cfg.blk code) := by
  have h : loopsOf cfg.blk code = [] := by kernel_rfl
  rw [h]
  intro p hp
  cases hp
theorem F_eq (n : Nat) (x0 : Int) (x1 : List (Int × Int × Int)) (x2 : List (Int)) (x3 : List (Int)) : impl_IsKeyWalk.F n x0 x1 x2 x3 = exK cfg (pick (cal n)) (lam n) fin code (fun _ _ => none) (mkSt shp ((x0, x1, x2, ()), x3, ())) fin := by
  kernel_rfl
def pfn (n : Nat) : PFn := mkFn shp outs (fun x => impl_IsKeyWalk.F n x.1.1 x.1.2.1 x.1.2.2.1 x.2.1) out
theorem ok (n : Nat) : (pfn n).Ok Go.Proofs.Try.prog 52 :=
  mkFn_ok (fn := Go.Proofs.Try.f52) (code := code) Go.Proofs.Try.func52 (by kernel_rfl) (by decide) (C := cfg) (Φ := pick (cal n)) (Λ := lam n) (into := into) hT (cal_ok n) (by kernel_rfl) rfl (by decide) rfl (fun _ => rfl) (loops n)
    (fun x r h => by
      have e := F_eq n x.1.1 x.1.2.1 x.1.2.2.1 x.2.1
      exact e.symm.trans h)
end impl_IsKeyWalk
end
/-! ### loop.example/g01158/laws.FnWays -/
section
namespace laws_FnWays
noncomputable def code : Code := (Go.Proofs.Try.f7.body).getD .skip
abbrev shp : Shape := [(0, .one (.row (.int .u8) false))]
abbrev outs : List KD := [.one (.bool)]
abbrev R : Type := Bool
def out : R → denL outs := fun r => (r, ())
def into : denL outs → R := fun y => y.1
def cfg : Cfg := ⟨ty, 322, [], fun i => match Nat.beq i 2 with | true => .loop | false => match Nat.beq i 0 with | true => .loop | false => .plain, fun i => match Nat.beq i 8 with | true => some [(0, .one (.row (.int .u8) false)), (3, .box true [.int .i64, .row (.t3) true, .row (.int .i64) true]), (4, .one (.row (.int .i64) true)), (5, .one (.bool))] | false => match Nat.beq i 12 with | true => some [(0, .one (.row (.int .u8) false)), (3, .box true [.int .i64, .row (.t3) true, .row (.int .i64) true]), (4, .one (.row (.int .i64) true)), (5, .one (.bool)), (8, .one (.int .i64))] | false => match Nat.beq i 16 with | true => some [(0, .one (.row (.int .u8) false)), (3, .box true [.int .i64, .row (.t3) true, .row (.int .i64) true]), (4, .one (.row (.int .i64) true)), (5, .one (.bool)), (8, .one (.int .i64)), (13, .one (.bool))] | false => match Nat.beq i 20 with | true => some [(0, .one (.row (.int .u8) false)), (3, .box true [.int .i64, .row (.t3) true, .row (.int .i64) true]), (4, .one (.row (.int .i64) true)), (5, .one (.bool)), (8, .one (.int .i64)), (13, .one (.bool)), (16, .one (.row (.int .i64) true))] | false => match Nat.beq i 24 with | true => some [(0, .one (.row (.int .u8) false)), (3, .box true [.int .i64, .row (.t3) true, .row (.int .i64) true]), (4, .one (.row (.int .i64) true)), (5, .one (.bool)), (8, .one (.int .i64)), (13, .one (.bool)), (16, .one (.row (.int .i64) true)), (20, .one (.int .i64))] | false => match Nat.beq i 28 with | true => some [(0, .one (.row (.int .u8) false)), (3, .box true [.int .i64, .row (.t3) true, .row (.int .i64) true]), (4, .one (.row (.int .i64) true)), (5, .one (.bool)), (8, .one (.int .i64)), (13, .one (.bool)), (16, .one (.row (.int .i64) true)), (20, .one (.int .i64))] | false => match Nat.beq i 33 with | true => some [(3, .box true [.int .i64, .row (.t3) true, .row (.int .i64) true]), (4, .one (.row (.int .i64) true)), (5, .one (.bool)), (8, .one (.int .i64)), (13, .one (.bool)), (16, .one (.row (.int .i64) true)), (20, .one (.int .i64))] | false => match Nat.beq i 42 with | true => some [(3, .box true [.int .i64, .row (.t3) true, .row (.int .i64) true]), (4, .one (.row (.int .i64) true)), (5, .one (.bool)), (8, .one (.int .i64)), (16, .one (.row (.int .i64) true))] | false => match Nat.beq i 47 with | true => some [(4, .one (.row (.int .i64) true)), (16, .one (.row (.int .i64) true))] | false => none⟩
def cal (n : Nat) : List (Nat × PFn) := [(10, spec_CountWays.pfn n), (12, impl_CountWays.pfn n), (20, spec_FirstWay.pfn n), (21, impl_FirstWay.pfn n), (25, laws_rBig.pfn n), (27, impl_IsMaze.pfn n), (31, laws_rInts.pfn n), (40, impl_FewestSteps.pfn n), (41, spec_FewestSteps.pfn n), (42, spec_DrawFirstWay.pfn n), (43, impl_StepsTable.pfn n), (44, spec_StepsTable.pfn n), (45, impl_StatesOf.pfn n), (46, spec_StatesOf.pfn n), (47, impl_DetourOf.pfn n), (48, spec_DetourOf.pfn n), (49, spec_DrawWayBack.pfn n), (50, impl_WayBack.pfn n), (51, spec_WayBack.pfn n), (52, impl_IsKeyWalk.pfn n)]
theorem cal_ok (n : Nat) : ∀ g, (pick (cal n) g).Ok Go.Proofs.Try.prog g := pick_ok (by
  intro p hp
  simp only [cal, List.mem_cons, List.not_mem_nil, or_false] at hp
  rcases hp with rfl | rfl | rfl | rfl | rfl | rfl | rfl | rfl | rfl | rfl | rfl | rfl | rfl | rfl | rfl | rfl | rfl | rfl | rfl | rfl
  · exact spec_CountWays.ok n
  · exact impl_CountWays.ok n
  · exact spec_FirstWay.ok n
  · exact impl_FirstWay.ok n
  · exact laws_rBig.ok n
  · exact impl_IsMaze.ok n
  · exact laws_rInts.ok n
  · exact impl_FewestSteps.ok n
  · exact spec_FewestSteps.ok n
  · exact spec_DrawFirstWay.ok n
  · exact impl_StepsTable.ok n
  · exact spec_StepsTable.ok n
  · exact impl_StatesOf.ok n
  · exact spec_StatesOf.ok n
  · exact impl_DetourOf.ok n
  · exact spec_DetourOf.ok n
  · exact spec_DrawWayBack.ok n
  · exact impl_WayBack.ok n
  · exact spec_WayBack.ok n
  · exact impl_IsKeyWalk.ok n)
def fin : St → Option R := finOf ty [.tmp 2] outs into
abbrev sin2 : Shape := [(4, .one (.row (.int .i64) true)), (16, .one (.row (.int .i64) true)), (38, .one (.int .i64))]
abbrev sout2 : Shape := []
abbrev sin0 : Shape := [(3, .box true [.int .i64, .row (.t3) true, .row (.int .i64) true]), (4, .one (.row (.int .i64) true)), (5, .one (.bool)), (8, .one (.int .i64)), (16, .one (.row (.int .i64) true)), (20, .one (.int .i64)), (34, .one (.int .i64)), (35, .one (.int .i64))]
abbrev sout0 : Shape := [(3, .box true [.int .i64, .row (.t3) true, .row (.int .i64) true]), (4, .one (.row (.int .i64) true)), (5, .one (.bool)), (8, .one (.int .i64)), (16, .one (.row (.int .i64) true)), (20, .one (.int .i64)), (34, .one (.int .i64))]
def lam (n : Nat) : Nat → (St → Option R) → St → Option R := fun i => match Nat.beq i 2 with | true => (fun K st => match absSt sin2 st with | some (x, _) => laws_FnWays.l2 n (fun _ => K (mkSt sout2 ())) n x.1 x.2.1 x.2.2.1 | none => none) | false => match Nat.beq i 0 with | true => (fun K st => match absSt sin0 st with | some (x, _) => laws_FnWays.l0 n (fun y0 y1 y2 y3 y4 y5 y6 y7 y8 => K (mkSt sout0 ((y0, y1, y2, ()), y3, y4, y5, y6, y7, y8, ()))) n x.1.1 x.1.2.1 x.1.2.2.1 x.2.1 x.2.2.1 x.2.2.2.1 x.2.2.2.2.1 x.2.2.2.2.2.1 x.2.2.2.2.2.2.1 x.2.2.2.2.2.2.2.1 | none => none) | false => fun _ _ => none
noncomputable def lps : List (Nat × Code) := loopsOf cfg.blk code
noncomputable def b2 : Code := bodyOf lps 2
theorem l2_eq (n : Nat) (K : St → Option R) : ∀ (j : Nat) (x0 : List (Int)) (x1 : List (Int)) (x2 : Int), laws_FnWays.l2 n (fun _ => K (mkSt sout2 ())) j x0 x1 x2 = iter (roundK cfg (pick (cal n)) (lam n) fin 2 b2 sin2 sout2 K) j (mkSt sin2 (x0, x1, x2, ()))
  | 0, _, _, _ => rfl
  | j + 1, x0, x1, x2 => by
    have ih : laws_FnWays.l2 n (fun _ => K (mkSt sout2 ())) j = fun x0 x1 x2 => iter (roundK cfg (pick (cal n)) (lam n) fin 2 b2 sin2 sout2 K) j (mkSt sin2 (x0, x1, x2, ())) := funext fun x0 => funext fun x1 => funext fun x2 => l2_eq n K j x0 x1 x2
    rw [laws_FnWays.l2, ih]
    show _ = roundK cfg (pick (cal n)) (lam n) fin 2 b2 sin2 sout2 K (iter (roundK cfg (pick (cal n)) (lam n) fin 2 b2 sin2 sout2 K) j) (mkSt sin2 (x0, x1, x2, ()))
    kernel_rfl
noncomputable def b0 : Code := bodyOf lps 0
theorem l0_eq (n : Nat) (K : St → Option R) : ∀ (j : Nat) (x0 : Int) (x1 : List (Int × Int × Int)) (x2 : List (Int)) (x3 : List (Int)) (x4 : Bool) (x5 : Int) (x6 : List (Int)) (x7 : Int) (x8 : Int) (x9 : Int), laws_FnWays.l0 n (fun y0 y1 y2 y3 y4 y5 y6 y7 y8 => K (mkSt sout0 ((y0, y1, y2, ()), y3, y4, y5, y6, y7, y8, ()))) j x0 x1 x2 x3 x4 x5 x6 x7 x8 x9 = iter (roundK cfg (pick (cal n)) (lam n) fin 0 b0 sin0 sout0 K) j (mkSt sin0 ((x0, x1, x2, ()), x3, x4, x5, x6, x7, x8, x9, ()))
  | 0, _, _, _, _, _, _, _, _, _, _ => rfl
  | j + 1, x0, x1, x2, x3, x4, x5, x6, x7, x8, x9 => by
    have ih : laws_FnWays.l0 n (fun y0 y1 y2 y3 y4 y5 y6 y7 y8 => K (mkSt sout0 ((y0, y1, y2, ()), y3, y4, y5, y6, y7, y8, ()))) j = fun x0 x1 x2 x3 x4 x5 x6 x7 x8 x9 => iter (roundK cfg (pick (cal n)) (lam n) fin 0 b0 sin0 sout0 K) j (mkSt sin0 ((x0, x1, x2, ()), x3, x4, x5, x6, x7, x8, x9, ())) := funext fun x0 => funext fun x1 => funext fun x2 => funext fun x3 => funext fun x4 => funext fun x5 => funext fun x6 => funext fun x7 => funext fun x8 => funext fun x9 => l0_eq n K j x0 x1 x2 x3 x4 x5 x6 x7 x8 x9
    rw [laws_FnWays.l0, ih]
    show _ = roundK cfg (pick (cal n)) (lam n) fin 0 b0 sin0 sout0 K (iter (roundK cfg (pick (cal n)) (lam n) fin 0 b0 sin0 sout0 K) j) (mkSt sin0 ((x0, x1, x2, ()), x3, x4, x5, x6, x7, x8, x9, ()))
    kernel_rfl
theorem loops (n : Nat) : LoopsOk cfg (pick (cal n)) (lam n) fin (loopsOf cfg.blk code) := by
  have h : loopsOf cfg.blk code = [(0, b0), (2, b2)] := by kernel_rfl
  rw [h]
  intro p hp K st r hr
  simp only [List.mem_cons, List.not_mem_nil, or_false] at hp
  rcases hp with rfl | rfl
  · have hr' : (match absSt sin0 st with | some (x, _) => laws_FnWays.l0 n (fun y0 y1 y2 y3 y4 y5 y6 y7 y8 => K (mkSt sout0 ((y0, y1, y2, ()), y3, y4, y5, y6, y7, y8, ()))) n x.1.1 x.1.2.1 x.1.2.2.1 x.2.1 x.2.2.1 x.2.2.2.1 x.2.2.2.2.1 x.2.2.2.2.2.1 x.2.2.2.2.2.2.1 x.2.2.2.2.2.2.2.1 | none => none) = some r := hr
    split at hr'
    · rename_i x es hx
      rw [l0_eq] at hr'
      exact ⟨sin0, sout0, n, x, es, hx, hr'⟩
    · cases hr'
  · have hr' : (match absSt sin2 st with | some (x, _) => laws_FnWays.l2 n (fun _ => K (mkSt sout2 ())) n x.1 x.2.1 x.2.2.1 | none => none) = some r := hr
    split at hr'
    · rename_i x es hx
      rw [l2_eq] at hr'
      exact ⟨sin2, sout2, n, x, es, hx, hr'⟩
    · cases hr'
noncomputable def code8 : Code := spineAt 5 code
abbrev cut8 : Shape := [(0, .one (.row (.int .u8) false)), (3, .box true [.int .i64, .row (.t3) true, .row (.int .i64) true]), (4, .one (.row (.int .i64) true)), (5, .one (.bool))]
noncomputable def code12 : Code := spineAt 2 code8
abbrev cut12 : Shape := [(0, .one (.row (.int .u8) false)), (3, .box true [.int .i64, .row (.t3) true, .row (.int .i64) true]), (4, .one (.row (.int .i64) true)), (5, .one (.bool)), (8, .one (.int .i64))]
noncomputable def code16 : Code := spineAt 2 code12
abbrev cut16 : Shape := [(0, .one (.row (.int .u8) false)), (3, .box true [.int .i64, .row (.t3) true, .row (.int .i64) true]), (4, .one (.row (.int .i64) true)), (5, .one (.bool)), (8, .one (.int .i64)), (13, .one (.bool))]
noncomputable def code20 : Code := spineAt 2 code16
abbrev cut20 : Shape := [(0, .one (.row (.int .u8) false)), (3, .box true [.int .i64, .row (.t3) true, .row (.int .i64) true]), (4, .one (.row (.int .i64) true)), (5, .one (.bool)), (8, .one (.int .i64)), (13, .one (.bool)), (16, .one (.row (.int .i64) true))]
noncomputable def code24 : Code := spineAt 2 code20
abbrev cut24 : Shape := [(0, .one (.row (.int .u8) false)), (3, .box true [.int .i64, .row (.t3) true, .row (.int .i64) true]), (4, .one (.row (.int .i64) true)), (5, .one (.bool)), (8, .one (.int .i64)), (13, .one (.bool)), (16, .one (.row (.int .i64) true)), (20, .one (.int .i64))]
noncomputable def code28 : Code := spineAt 2 code24
abbrev cut28 : Shape := [(0, .one (.row (.int .u8) false)), (3, .box true [.int .i64, .row (.t3) true, .row (.int .i64) true]), (4, .one (.row (.int .i64) true)), (5, .one (.bool)), (8, .one (.int .i64)), (13, .one (.bool)), (16, .one (.row (.int .i64) true)), (20, .one (.int .i64))]
noncomputable def code33 : Code := spineAt 3 code28
abbrev cut33 : Shape := [(3, .box true [.int .i64, .row (.t3) true, .row (.int .i64) true]), (4, .one (.row (.int .i64) true)), (5, .one (.bool)), (8, .one (.int .i64)), (13, .one (.bool)), (16, .one (.row (.int .i64) true)), (20, .one (.int .i64))]
noncomputable def code42 : Code := spineAt 1 code33
abbrev cut42 : Shape := [(3, .box true [.int .i64, .row (.t3) true, .row (.int .i64) true]), (4, .one (.row (.int .i64) true)), (5, .one (.bool)), (8, .one (.int .i64)), (16, .one (.row (.int .i64) true))]
noncomputable def code47 : Code := spineAt 3 code42
abbrev cut47 : Shape := [(4, .one (.row (.int .i64) true)), (16, .one (.row (.int .i64) true))]
theorem c47_eq (n : Nat) (x0 : List (Int)) (x1 : List (Int)) : laws_FnWays.c47 n x0 x1 = exK cfg (pick (cal n)) (lam n) fin code47 (fun _ _ => none) (mkSt cut47 (x0, x1, ())) fin := by
  kernel_rfl
theorem c42_seg (n : Nat) (x0 : Int) (x1 : List (Int × Int × Int)) (x2 : List (Int)) (x3 : List (Int)) (x4 : Bool) (x5 : Int) (x6 : List (Int)) : laws_FnWays.c42 n x0 x1 x2 x3 x4 x5 x6 = exSeg cfg (pick (cal n)) (lam n) fin (fun _ _ => none) cut47 (fun x => laws_FnWays.c47 n x.1 x.2.1) 2 code42 (mkSt cut42 ((x0, x1, x2, ()), x3, x4, x5, x6, ())) := by
  kernel_rfl
theorem c42_eq (n : Nat) (x0 : Int) (x1 : List (Int × Int × Int)) (x2 : List (Int)) (x3 : List (Int)) (x4 : Bool) (x5 : Int) (x6 : List (Int)) : laws_FnWays.c42 n x0 x1 x2 x3 x4 x5 x6 = exK cfg (pick (cal n)) (lam n) fin code42 (fun _ _ => none) (mkSt cut42 ((x0, x1, x2, ()), x3, x4, x5, x6, ())) fin := 
  (c42_seg n x0 x1 x2 x3 x4 x5 x6).trans (seg_eq 2 (by kernel_rfl) rfl (by kernel_rfl) (fun x => c47_eq n x.1 x.2.1))
theorem c33_seg (n : Nat) (x0 : Int) (x1 : List (Int × Int × Int)) (x2 : List (Int)) (x3 : List (Int)) (x4 : Bool) (x5 : Int) (x6 : Bool) (x7 : List (Int)) (x8 : Int) : laws_FnWays.c33 n x0 x1 x2 x3 x4 x5 x6 x7 x8 = exSeg cfg (pick (cal n)) (lam n) fin (fun _ _ => none) cut42 (fun x => laws_FnWays.c42 n x.1.1 x.1.2.1 x.1.2.2.1 x.2.1 x.2.2.1 x.2.2.2.1 x.2.2.2.2.1) 0 code33 (mkSt cut33 ((x0, x1, x2, ()), x3, x4, x5, x6, x7, x8, ())) := by
  kernel_rfl
theorem c33_eq (n : Nat) (x0 : Int) (x1 : List (Int × Int × Int)) (x2 : List (Int)) (x3 : List (Int)) (x4 : Bool) (x5 : Int) (x6 : Bool) (x7 : List (Int)) (x8 : Int) : laws_FnWays.c33 n x0 x1 x2 x3 x4 x5 x6 x7 x8 = exK cfg (pick (cal n)) (lam n) fin code33 (fun _ _ => none) (mkSt cut33 ((x0, x1, x2, ()), x3, x4, x5, x6, x7, x8, ())) fin := 
  (c33_seg n x0 x1 x2 x3 x4 x5 x6 x7 x8).trans (seg_eq 0 (by kernel_rfl) rfl (by kernel_rfl) (fun x => c42_eq n x.1.1 x.1.2.1 x.1.2.2.1 x.2.1 x.2.2.1 x.2.2.2.1 x.2.2.2.2.1))
theorem c28_seg (n : Nat) (x0 : List (Int)) (x1 : Int) (x2 : List (Int × Int × Int)) (x3 : List (Int)) (x4 : List (Int)) (x5 : Bool) (x6 : Int) (x7 : Bool) (x8 : List (Int)) (x9 : Int) : laws_FnWays.c28 n x0 x1 x2 x3 x4 x5 x6 x7 x8 x9 = exSeg cfg (pick (cal n)) (lam n) fin (fun _ _ => none) cut33 (fun x => laws_FnWays.c33 n x.1.1 x.1.2.1 x.1.2.2.1 x.2.1 x.2.2.1 x.2.2.2.1 x.2.2.2.2.1 x.2.2.2.2.2.1 x.2.2.2.2.2.2.1) 2 code28 (mkSt cut28 (x0, (x1, x2, x3, ()), x4, x5, x6, x7, x8, x9, ())) := by
  kernel_rfl
theorem c28_eq (n : Nat) (x0 : List (Int)) (x1 : Int) (x2 : List (Int × Int × Int)) (x3 : List (Int)) (x4 : List (Int)) (x5 : Bool) (x6 : Int) (x7 : Bool) (x8 : List (Int)) (x9 : Int) : laws_FnWays.c28 n x0 x1 x2 x3 x4 x5 x6 x7 x8 x9 = exK cfg (pick (cal n)) (lam n) fin code28 (fun _ _ => none) (mkSt cut28 (x0, (x1, x2, x3, ()), x4, x5, x6, x7, x8, x9, ())) fin := 
  (c28_seg n x0 x1 x2 x3 x4 x5 x6 x7 x8 x9).trans (seg_eq 2 (by kernel_rfl) rfl (by kernel_rfl) (fun x => c33_eq n x.1.1 x.1.2.1 x.1.2.2.1 x.2.1 x.2.2.1 x.2.2.2.1 x.2.2.2.2.1 x.2.2.2.2.2.1 x.2.2.2.2.2.2.1))
theorem c24_seg (n : Nat) (x0 : List (Int)) (x1 : Int) (x2 : List (Int × Int × Int)) (x3 : List (Int)) (x4 : List (Int)) (x5 : Bool) (x6 : Int) (x7 : Bool) (x8 : List (Int)) (x9 : Int) : laws_FnWays.c24 n x0 x1 x2 x3 x4 x5 x6 x7 x8 x9 = exSeg cfg (pick (cal n)) (lam n) fin (fun _ _ => none) cut28 (fun x => laws_FnWays.c28 n x.1 x.2.1.1 x.2.1.2.1 x.2.1.2.2.1 x.2.2.1 x.2.2.2.1 x.2.2.2.2.1 x.2.2.2.2.2.1 x.2.2.2.2.2.2.1 x.2.2.2.2.2.2.2.1) 1 code24 (mkSt cut24 (x0, (x1, x2, x3, ()), x4, x5, x6, x7, x8, x9, ())) := by
  kernel_rfl
theorem c24_eq (n : Nat) (x0 : List (Int)) (x1 : Int) (x2 : List (Int × Int × Int)) (x3 : List (Int)) (x4 : List (Int)) (x5 : Bool) (x6 : Int) (x7 : Bool) (x8 : List (Int)) (x9 : Int) : laws_FnWays.c24 n x0 x1 x2 x3 x4 x5 x6 x7 x8 x9 = exK cfg (pick (cal n)) (lam n) fin code24 (fun _ _ => none) (mkSt cut24 (x0, (x1, x2, x3, ()), x4, x5, x6, x7, x8, x9, ())) fin := 
  (c24_seg n x0 x1 x2 x3 x4 x5 x6 x7 x8 x9).trans (seg_eq 1 (by kernel_rfl) rfl (by kernel_rfl) (fun x => c28_eq n x.1 x.2.1.1 x.2.1.2.1 x.2.1.2.2.1 x.2.2.1 x.2.2.2.1 x.2.2.2.2.1 x.2.2.2.2.2.1 x.2.2.2.2.2.2.1 x.2.2.2.2.2.2.2.1))
theorem c20_seg (n : Nat) (x0 : List (Int)) (x1 : Int) (x2 : List (Int × Int × Int)) (x3 : List (Int)) (x4 : List (Int)) (x5 : Bool) (x6 : Int) (x7 : Bool) (x8 : List (Int)) : laws_FnWays.c20 n x0 x1 x2 x3 x4 x5 x6 x7 x8 = exSeg cfg (pick (cal n)) (lam n) fin (fun _ _ => none) cut24 (fun x => laws_FnWays.c24 n x.1 x.2.1.1 x.2.1.2.1 x.2.1.2.2.1 x.2.2.1 x.2.2.2.1 x.2.2.2.2.1 x.2.2.2.2.2.1 x.2.2.2.2.2.2.1 x.2.2.2.2.2.2.2.1) 1 code20 (mkSt cut20 (x0, (x1, x2, x3, ()), x4, x5, x6, x7, x8, ())) := by
  kernel_rfl
theorem c20_eq (n : Nat) (x0 : List (Int)) (x1 : Int) (x2 : List (Int × Int × Int)) (x3 : List (Int)) (x4 : List (Int)) (x5 : Bool) (x6 : Int) (x7 : Bool) (x8 : List (Int)) : laws_FnWays.c20 n x0 x1 x2 x3 x4 x5 x6 x7 x8 = exK cfg (pick (cal n)) (lam n) fin code20 (fun _ _ => none) (mkSt cut20 (x0, (x1, x2, x3, ()), x4, x5, x6, x7, x8, ())) fin := 
  (c20_seg n x0 x1 x2 x3 x4 x5 x6 x7 x8).trans (seg_eq 1 (by kernel_rfl) rfl (by kernel_rfl) (fun x => c24_eq n x.1 x.2.1.1 x.2.1.2.1 x.2.1.2.2.1 x.2.2.1 x.2.2.2.1 x.2.2.2.2.1 x.2.2.2.2.2.1 x.2.2.2.2.2.2.1 x.2.2.2.2.2.2.2.1))
theorem c16_seg (n : Nat) (x0 : List (Int)) (x1 : Int) (x2 : List (Int × Int × Int)) (x3 : List (Int)) (x4 : List (Int)) (x5 : Bool) (x6 : Int) (x7 : Bool) : laws_FnWays.c16 n x0 x1 x2 x3 x4 x5 x6 x7 = exSeg cfg (pick (cal n)) (lam n) fin (fun _ _ => none) cut20 (fun x => laws_FnWays.c20 n x.1 x.2.1.1 x.2.1.2.1 x.2.1.2.2.1 x.2.2.1 x.2.2.2.1 x.2.2.2.2.1 x.2.2.2.2.2.1 x.2.2.2.2.2.2.1) 1 code16 (mkSt cut16 (x0, (x1, x2, x3, ()), x4, x5, x6, x7, ())) := by
  kernel_rfl
theorem c16_eq (n : Nat) (x0 : List (Int)) (x1 : Int) (x2 : List (Int × Int × Int)) (x3 : List (Int)) (x4 : List (Int)) (x5 : Bool) (x6 : Int) (x7 : Bool) : laws_FnWays.c16 n x0 x1 x2 x3 x4 x5 x6 x7 = exK cfg (pick (cal n)) (lam n) fin code16 (fun _ _ => none) (mkSt cut16 (x0, (x1, x2, x3, ()), x4, x5, x6, x7, ())) fin := 
  (c16_seg n x0 x1 x2 x3 x4 x5 x6 x7).trans (seg_eq 1 (by kernel_rfl) rfl (by kernel_rfl) (fun x => c20_eq n x.1 x.2.1.1 x.2.1.2.1 x.2.1.2.2.1 x.2.2.1 x.2.2.2.1 x.2.2.2.2.1 x.2.2.2.2.2.1 x.2.2.2.2.2.2.1))
theorem c12_seg (n : Nat) (x0 : List (Int)) (x1 : Int) (x2 : List (Int × Int × Int)) (x3 : List (Int)) (x4 : List (Int)) (x5 : Bool) (x6 : Int) : laws_FnWays.c12 n x0 x1 x2 x3 x4 x5 x6 = exSeg cfg (pick (cal n)) (lam n) fin (fun _ _ => none) cut16 (fun x => laws_FnWays.c16 n x.1 x.2.1.1 x.2.1.2.1 x.2.1.2.2.1 x.2.2.1 x.2.2.2.1 x.2.2.2.2.1 x.2.2.2.2.2.1) 1 code12 (mkSt cut12 (x0, (x1, x2, x3, ()), x4, x5, x6, ())) := by
  kernel_rfl
theorem c12_eq (n : Nat) (x0 : List (Int)) (x1 : Int) (x2 : List (Int × Int × Int)) (x3 : List (Int)) (x4 : List (Int)) (x5 : Bool) (x6 : Int) : laws_FnWays.c12 n x0 x1 x2 x3 x4 x5 x6 = exK cfg (pick (cal n)) (lam n) fin code12 (fun _ _ => none) (mkSt cut12 (x0, (x1, x2, x3, ()), x4, x5, x6, ())) fin := 
  (c12_seg n x0 x1 x2 x3 x4 x5 x6).trans (seg_eq 1 (by kernel_rfl) rfl (by kernel_rfl) (fun x => c16_eq n x.1 x.2.1.1 x.2.1.2.1 x.2.1.2.2.1 x.2.2.1 x.2.2.2.1 x.2.2.2.2.1 x.2.2.2.2.2.1))
theorem c8_seg (n : Nat) (x0 : List (Int)) (x1 : Int) (x2 : List (Int × Int × Int)) (x3 : List (Int)) (x4 : List (Int)) (x5 : Bool) : laws_FnWays.c8 n x0 x1 x2 x3 x4 x5 = exSeg cfg (pick (cal n)) (lam n) fin (fun _ _ => none) cut12 (fun x => laws_FnWays.c12 n x.1 x.2.1.1 x.2.1.2.1 x.2.1.2.2.1 x.2.2.1 x.2.2.2.1 x.2.2.2.2.1) 1 code8 (mkSt cut8 (x0, (x1, x2, x3, ()), x4, x5, ())) := by
  kernel_rfl
theorem c8_eq (n : Nat) (x0 : List (Int)) (x1 : Int) (x2 : List (Int × Int × Int)) (x3 : List (Int)) (x4 : List (Int)) (x5 : Bool) : laws_FnWays.c8 n x0 x1 x2 x3 x4 x5 = exK cfg (pick (cal n)) (lam n) fin code8 (fun _ _ => none) (mkSt cut8 (x0, (x1, x2, x3, ()), x4, x5, ())) fin := 
  (c8_seg n x0 x1 x2 x3 x4 x5).trans (seg_eq 1 (by kernel_rfl) rfl (by kernel_rfl) (fun x => c12_eq n x.1 x.2.1.1 x.2.1.2.1 x.2.1.2.2.1 x.2.2.1 x.2.2.2.1 x.2.2.2.2.1))
theorem F_seg (n : Nat) (x0 : List (Int)) : laws_FnWays.F n x0 = exSeg cfg (pick (cal n)) (lam n) fin (fun _ _ => none) cut8 (fun x => laws_FnWays.c8 n x.1 x.2.1.1 x.2.1.2.1 x.2.1.2.2.1 x.2.2.1 x.2.2.2.1) 4 code (mkSt shp (x0, ())) := by
  kernel_rfl
theorem F_eq (n : Nat) (x0 : List (Int)) : laws_FnWays.F n x0 = exK cfg (pick (cal n)) (lam n) fin code (fun _ _ => none) (mkSt shp (x0, ())) fin :=
  (F_seg n x0).trans (seg_eq 4 (by kernel_rfl) rfl (by kernel_rfl) (fun x => c8_eq n x.1 x.2.1.1 x.2.1.2.1 x.2.1.2.2.1 x.2.2.1 x.2.2.2.1))
def pfn (n : Nat) : PFn := mkFn shp outs (fun x => laws_FnWays.F n x.1) out
theorem ok (n : Nat) : (pfn n).Ok Go.Proofs.Try.prog 7 :=
  mkFn_ok (fn := Go.Proofs.Try.f7) (code := code) Go.Proofs.Try.func7 (by kernel_rfl) (by decide) (C := cfg) (Φ := pick (cal n)) (Λ := lam n) (into := into) hT (cal_ok n) (by kernel_rfl) rfl (by decide) rfl (fun _ => rfl) (loops n)
    (fun x r h => by
      have e := F_eq n x.1
      exact e.symm.trans h)
end laws_FnWays
end
end
end Go.Pf
