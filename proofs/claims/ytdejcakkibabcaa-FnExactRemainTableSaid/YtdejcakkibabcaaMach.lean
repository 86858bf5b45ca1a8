/- The Go functions of this seat do what their pure functions tell; printed by a program of mine (mach.py). -/
import Derived.Test.YtdejcakkibabcaaProg
import Derived.Test.YtdejcakkibabcaaGwE
import Derived.WalkKit
import Derived.Deep.LoopGhost
import Derived.Test.YtdejcakkibabcaaPure
import Derived.KernelRfl
set_option linter.unusedVariables false
set_option autoImplicit false
set_option maxRecDepth 100000
set_option maxHeartbeats 4000000
namespace Go.Pf
open Go Go.Fx
noncomputable section

def tys : List (Nat × TI) := [(3, ⟨.int .i64, 1, [.int .i64 0], some (.int .i64), false, false⟩),
  (4, ⟨.bool, 1, [.bool false], some (.bool), false, false⟩),
  (22, ⟨.slice 64, 1, [.nil], none, false, false⟩),
  (23, ⟨.slice 3, 1, [.nil], none, false, false⟩),
  (25, ⟨.struct [(3, 0), (22, 1), (23, 2)], 3, [.int .i64 0, .nil, .nil], none, false, false⟩),
  (27, ⟨.slice 23, 1, [.nil], none, false, false⟩),
  (30, ⟨.struct [(3, 0), (22, 1), (23, 2)], 3, [.int .i64 0, .nil, .nil], none, false, false⟩),
  (58, ⟨.arr 64 3, 64, [], none, true, false⟩),
  (60, ⟨.arr 12 58, 768, [], none, true, false⟩),
  (64, ⟨.arr 3 3, 3, [.int .i64 0, .int .i64 0, .int .i64 0], some (.t3), false, false⟩)]
def ty : Ty := tyOf tys
theorem hT : TyOk Go.Proofs.Try.prog ty := tyOf_ok (by kernel_rfl)
theorem iter_s {β : Type} (f : (St → Option β) → St → Option β) (k : Nat) (st : St) : iter f (k + 1) st = f (iter f k) st := rfl

/-! ### loop.example/g01158/laws.szIntA3S -/
section
namespace laws_szIntA3S
noncomputable def code : Code := (Go.Proofs.Try.f31.body).getD .skip
abbrev shp : Shape := [(0, .one (.row (.t3) false)), (1, .one (.int .i64))]
abbrev outs : List KD := [.one (.int .i64)]
abbrev R : Type := Int
def out : R → denL outs := fun r => (r, ())
def into : denL outs → R := fun y => y.1
def cfg : Cfg := ⟨ty, 12, [], fun _ => .plain, fun _ => none⟩
def cal (n : Nat) : List (Nat × PFn) := []
theorem cal_ok (n : Nat) : ∀ g, (pick (cal n) g).Ok Go.Proofs.Try.prog g := pick_ok (by
  intro p hp
  cases hp)
def fin : St → Option R := finOf ty [.tmp 4] outs into
def lam (n : Nat) : Nat → (St → Option R) → St → Option R := fun _ => fun _ _ => none
theorem loops (n : Nat) : LoopsOk cfg (pick (cal n)) (lam n) fin (loopsOf cfg.blk code) := by
  have h : loopsOf cfg.blk code = [] := by kernel_rfl
  rw [h]
  intro p hp
  cases hp
theorem F_eq (n : Nat) (x0 : List (Int × Int × Int)) (x1 : Int) : laws_szIntA3S.F n x0 x1 = exK cfg (pick (cal n)) (lam n) fin code (fun _ _ => none) (mkSt shp (x0, x1, ())) fin := by
  kernel_rfl
def pfn (n : Nat) : PFn := mkFn shp outs (fun x => laws_szIntA3S.F n x.1 x.2.1) out
theorem ok (n : Nat) : (pfn n).Ok Go.Proofs.Try.prog 31 :=
  mkFn_ok (fn := Go.Proofs.Try.f31) (code := code) Go.Proofs.Try.func31 (by kernel_rfl) (by decide) (C := cfg) (Φ := pick (cal n)) (Λ := lam n) (into := into) hT (cal_ok n) (by kernel_rfl) rfl (by decide) rfl (fun _ => rfl) (loops n)
    (fun x r h => by
      have e := F_eq n x.1 x.2.1
      exact e.symm.trans h)
end laws_szIntA3S
end
/-! ### loop.example/g01158/laws.szIntS -/
section
namespace laws_szIntS
noncomputable def code : Code := (Go.Proofs.Try.f32.body).getD .skip
abbrev shp : Shape := [(0, .one (.row (.int .i64) false)), (1, .one (.int .i64))]
abbrev outs : List KD := [.one (.int .i64)]
abbrev R : Type := Int
def out : R → denL outs := fun r => (r, ())
def into : denL outs → R := fun y => y.1
def cfg : Cfg := ⟨ty, 12, [], fun _ => .plain, fun _ => none⟩
def cal (n : Nat) : List (Nat × PFn) := []
theorem cal_ok (n : Nat) : ∀ g, (pick (cal n) g).Ok Go.Proofs.Try.prog g := pick_ok (by
  intro p hp
  cases hp)
def fin : St → Option R := finOf ty [.tmp 4] outs into
def lam (n : Nat) : Nat → (St → Option R) → St → Option R := fun _ => fun _ _ => none
theorem loops (n : Nat) : LoopsOk cfg (pick (cal n)) (lam n) fin (loopsOf cfg.blk code) := by
  have h : loopsOf cfg.blk code = [] := by kernel_rfl
  rw [h]
  intro p hp
  cases hp
theorem F_eq (n : Nat) (x0 : List (Int)) (x1 : Int) : laws_szIntS.F n x0 x1 = exK cfg (pick (cal n)) (lam n) fin code (fun _ _ => none) (mkSt shp (x0, x1, ())) fin := by
  kernel_rfl
def pfn (n : Nat) : PFn := mkFn shp outs (fun x => laws_szIntS.F n x.1 x.2.1) out
theorem ok (n : Nat) : (pfn n).Ok Go.Proofs.Try.prog 32 :=
  mkFn_ok (fn := Go.Proofs.Try.f32) (code := code) Go.Proofs.Try.func32 (by kernel_rfl) (by decide) (C := cfg) (Φ := pick (cal n)) (Λ := lam n) (into := into) hT (cal_ok n) (by kernel_rfl) rfl (by decide) rfl (fun _ => rfl) (loops n)
    (fun x r h => by
      have e := F_eq n x.1 x.2.1
      exact e.symm.trans h)
end laws_szIntS
end
/-! ### loop.example/g01158/laws.szMaze -/
section
namespace laws_szMaze
noncomputable def code : Code := (Go.Proofs.Try.f5.body).getD .skip
abbrev shp : Shape := [(0, .agg [.int .i64, .row (.t3) false, .row (.int .i64) false]), (1, .one (.int .i64))]
abbrev outs : List KD := [.one (.int .i64)]
abbrev R : Type := Int
def out : R → denL outs := fun r => (r, ())
def into : denL outs → R := fun y => y.1
def cfg : Cfg := ⟨ty, 18, [], fun _ => .plain, fun _ => none⟩
def cal (n : Nat) : List (Nat × PFn) := [(31, laws_szIntA3S.pfn n), (32, laws_szIntS.pfn n)]
theorem cal_ok (n : Nat) : ∀ g, (pick (cal n) g).Ok Go.Proofs.Try.prog g := pick_ok (by
  intro p hp
  simp only [cal, List.mem_cons, List.not_mem_nil, or_false] at hp
  rcases hp with rfl | rfl
  · exact laws_szIntA3S.ok n
  · exact laws_szIntS.ok n)
def fin : St → Option R := finOf ty [.tmp 4] outs into
def lam (n : Nat) : Nat → (St → Option R) → St → Option R := fun _ => fun _ _ => none
theorem loops (n : Nat) : LoopsOk cfg (pick (cal n)) (lam n) fin (loopsOf cfg.blk code) := by
  have h : loopsOf cfg.blk code = [] := by kernel_rfl
  rw [h]
  intro p hp
  cases hp
theorem F_eq (n : Nat) (x0 : Int) (x1 : List (Int × Int × Int)) (x2 : List (Int)) (x3 : Int) : laws_szMaze.F n x0 x1 x2 x3 = exK cfg (pick (cal n)) (lam n) fin code (fun _ _ => none) (mkSt shp ((x0, x1, x2, ()), x3, ())) fin := by
  kernel_rfl
def pfn (n : Nat) : PFn := mkFn shp outs (fun x => laws_szMaze.F n x.1.1 x.1.2.1 x.1.2.2.1 x.2.1) out
theorem ok (n : Nat) : (pfn n).Ok Go.Proofs.Try.prog 5 :=
  mkFn_ok (fn := Go.Proofs.Try.f5) (code := code) Go.Proofs.Try.func5 (by kernel_rfl) (by decide) (C := cfg) (Φ := pick (cal n)) (Λ := lam n) (into := into) hT (cal_ok n) (by kernel_rfl) rfl (by decide) rfl (fun _ => rfl) (loops n)
    (fun x r h => by
      have e := F_eq n x.1.1 x.1.2.1 x.1.2.2.1 x.2.1
      exact e.symm.trans h)
end laws_szMaze
end
/-! ### loop.example/g01158/laws.toIntA3 -/
section
namespace laws_toIntA3
noncomputable def code : Code := (Go.Proofs.Try.f75.body).getD .skip
abbrev shp : Shape := [(0, .agg [.int .i64, .int .i64, .int .i64])]
abbrev outs : List KD := [.agg [.int .i64, .int .i64, .int .i64]]
abbrev R : Type := Int × Int × Int
def out : R → denL outs := fun r => ((r.1, r.2.1, r.2.2, ()), ())
def into : denL outs → R := fun y => (y.1.1, y.1.2.1, y.1.2.2.1)
def cfg : Cfg := ⟨ty, 15, [], fun i => match Nat.beq i 0 with | true => .unroll 4 | false => .plain, fun _ => none⟩
def cal (n : Nat) : List (Nat × PFn) := []
theorem cal_ok (n : Nat) : ∀ g, (pick (cal n) g).Ok Go.Proofs.Try.prog g := pick_ok (by
  intro p hp
  cases hp)
def fin : St → Option R := finOf ty [.cell 2 64] outs into
def lam (n : Nat) : Nat → (St → Option R) → St → Option R := fun _ => fun _ _ => none
theorem loops (n : Nat) : LoopsOk cfg (pick (cal n)) (lam n) fin (loopsOf cfg.blk code) := by
  have h : loopsOf cfg.blk code = [] := by kernel_rfl
  rw [h]
  intro p hp
  cases hp
theorem F_eq (n : Nat) (x0 : Int) (x1 : Int) (x2 : Int) : laws_toIntA3.F n x0 x1 x2 = exK cfg (pick (cal n)) (lam n) fin code (fun _ _ => none) (mkSt shp ((x0, x1, x2, ()), ())) fin := by
  kernel_rfl
def pfn (n : Nat) : PFn := mkFn shp outs (fun x => laws_toIntA3.F n x.1.1 x.1.2.1 x.1.2.2.1) out
theorem ok (n : Nat) : (pfn n).Ok Go.Proofs.Try.prog 75 :=
  mkFn_ok (fn := Go.Proofs.Try.f75) (code := code) Go.Proofs.Try.func75 (by kernel_rfl) (by decide) (C := cfg) (Φ := pick (cal n)) (Λ := lam n) (into := into) hT (cal_ok n) (by kernel_rfl) rfl (by decide) rfl (fun _ => rfl) (loops n)
    (fun x r h => by
      have e := F_eq n x.1.1 x.1.2.1 x.1.2.2.1
      exact e.symm.trans h)
end laws_toIntA3
end
/-! ### loop.example/g01158/laws.toIntA3S -/
section
namespace laws_toIntA3S
noncomputable def code : Code := (Go.Proofs.Try.f37.body).getD .skip
abbrev shp : Shape := [(0, .one (.row (.t3) false))]
abbrev outs : List KD := [.one (.row (.t3) true)]
abbrev R : Type := (List (Int × Int × Int))
def out : R → denL outs := fun r => (r, ())
def into : denL outs → R := fun y => y.1
def cfg : Cfg := ⟨ty, 23, [], fun i => match Nat.beq i 0 with | true => .loop | false => .plain, fun _ => none⟩
def cal (n : Nat) : List (Nat × PFn) := [(75, laws_toIntA3.pfn n)]
theorem cal_ok (n : Nat) : ∀ g, (pick (cal n) g).Ok Go.Proofs.Try.prog g := pick_ok (by
  intro p hp
  simp only [cal, List.mem_cons, List.not_mem_nil, or_false] at hp
  rcases hp with rfl
  · exact laws_toIntA3.ok n)
def fin : St → Option R := finOf ty [.tmp 2] outs into
abbrev sin0 : Shape := [(0, .one (.row (.t3) false)), (3, .one (.row (.t3) true)), (4, .one (.int .i64))]
abbrev sout0 : Shape := [(3, .one (.row (.t3) true))]
def lam (n : Nat) : Nat → (St → Option R) → St → Option R := fun i => match Nat.beq i 0 with | true => (fun K st => match absSt sin0 st with | some (x, _) => laws_toIntA3S.l0 n (fun y0 => K (mkSt sout0 (y0, ()))) n x.1 x.2.1 x.2.2.1 | none => none) | false => fun _ _ => none
noncomputable def lps : List (Nat × Code) := loopsOf cfg.blk code
noncomputable def b0 : Code := bodyOf lps 0
theorem l0_eq (n : Nat) (K : St → Option R) : ∀ (j : Nat) (x0 : List (Int × Int × Int)) (x1 : List (Int × Int × Int)) (x2 : Int), laws_toIntA3S.l0 n (fun y0 => K (mkSt sout0 (y0, ()))) j x0 x1 x2 = iter (roundK cfg (pick (cal n)) (lam n) fin 0 b0 sin0 sout0 K) j (mkSt sin0 (x0, x1, x2, ()))
  | 0, _, _, _ => rfl
  | j + 1, x0, x1, x2 => by
    have ih : laws_toIntA3S.l0 n (fun y0 => K (mkSt sout0 (y0, ()))) j = fun x0 x1 x2 => iter (roundK cfg (pick (cal n)) (lam n) fin 0 b0 sin0 sout0 K) j (mkSt sin0 (x0, x1, x2, ())) := funext fun x0 => funext fun x1 => funext fun x2 => l0_eq n K j x0 x1 x2
    rw [laws_toIntA3S.l0, ih]
    show _ = roundK cfg (pick (cal n)) (lam n) fin 0 b0 sin0 sout0 K (iter (roundK cfg (pick (cal n)) (lam n) fin 0 b0 sin0 sout0 K) j) (mkSt sin0 (x0, x1, x2, ()))
    kernel_rfl
theorem loops (n : Nat) : LoopsOk cfg (pick (cal n)) (lam n) fin (loopsOf cfg.blk code) := by
  have h : loopsOf cfg.blk code = [(0, b0)] := by kernel_rfl
  rw [h]
  intro p hp K st r hr
  simp only [List.mem_cons, List.not_mem_nil, or_false] at hp
  rcases hp with rfl
  · have hr' : (match absSt sin0 st with | some (x, _) => laws_toIntA3S.l0 n (fun y0 => K (mkSt sout0 (y0, ()))) n x.1 x.2.1 x.2.2.1 | none => none) = some r := hr
    split at hr'
    · rename_i x es hx
      rw [l0_eq] at hr'
      exact ⟨sin0, sout0, n, x, es, hx, hr'⟩
    · cases hr'
theorem F_eq (n : Nat) (x0 : List (Int × Int × Int)) : laws_toIntA3S.F n x0 = exK cfg (pick (cal n)) (lam n) fin code (fun _ _ => none) (mkSt shp (x0, ())) fin := by
  kernel_rfl
def pfn (n : Nat) : PFn := mkFn shp outs (fun x => laws_toIntA3S.F n x.1) out
theorem ok (n : Nat) : (pfn n).Ok Go.Proofs.Try.prog 37 :=
  mkFn_ok (fn := Go.Proofs.Try.f37) (code := code) Go.Proofs.Try.func37 (by kernel_rfl) (by decide) (C := cfg) (Φ := pick (cal n)) (Λ := lam n) (into := into) hT (cal_ok n) (by kernel_rfl) rfl (by decide) rfl (fun _ => rfl) (loops n)
    (fun x r h => by
      have e := F_eq n x.1
      exact e.symm.trans h)
end laws_toIntA3S
end
/-! ### loop.example/g01158/laws.toIntS -/
section
namespace laws_toIntS
noncomputable def code : Code := (Go.Proofs.Try.f38.body).getD .skip
abbrev shp : Shape := [(0, .one (.row (.int .i64) false))]
abbrev outs : List KD := [.one (.row (.int .i64) true)]
abbrev R : Type := (List (Int))
def out : R → denL outs := fun r => (r, ())
def into : denL outs → R := fun y => y.1
def cfg : Cfg := ⟨ty, 22, [], fun i => match Nat.beq i 0 with | true => .loop | false => .plain, fun _ => none⟩
def cal (n : Nat) : List (Nat × PFn) := []
theorem cal_ok (n : Nat) : ∀ g, (pick (cal n) g).Ok Go.Proofs.Try.prog g := pick_ok (by
  intro p hp
  cases hp)
def fin : St → Option R := finOf ty [.tmp 2] outs into
abbrev sin0 : Shape := [(0, .one (.row (.int .i64) false)), (3, .one (.row (.int .i64) true)), (4, .one (.int .i64))]
abbrev sout0 : Shape := [(3, .one (.row (.int .i64) true))]
def lam (n : Nat) : Nat → (St → Option R) → St → Option R := fun i => match Nat.beq i 0 with | true => (fun K st => match absSt sin0 st with | some (x, _) => laws_toIntS.l0 n (fun y0 => K (mkSt sout0 (y0, ()))) n x.1 x.2.1 x.2.2.1 | none => none) | false => fun _ _ => none
noncomputable def lps : List (Nat × Code) := loopsOf cfg.blk code
noncomputable def b0 : Code := bodyOf lps 0
theorem l0_eq (n : Nat) (K : St → Option R) : ∀ (j : Nat) (x0 : List (Int)) (x1 : List (Int)) (x2 : Int), laws_toIntS.l0 n (fun y0 => K (mkSt sout0 (y0, ()))) j x0 x1 x2 = iter (roundK cfg (pick (cal n)) (lam n) fin 0 b0 sin0 sout0 K) j (mkSt sin0 (x0, x1, x2, ()))
  | 0, _, _, _ => rfl
  | j + 1, x0, x1, x2 => by
    have ih : laws_toIntS.l0 n (fun y0 => K (mkSt sout0 (y0, ()))) j = fun x0 x1 x2 => iter (roundK cfg (pick (cal n)) (lam n) fin 0 b0 sin0 sout0 K) j (mkSt sin0 (x0, x1, x2, ())) := funext fun x0 => funext fun x1 => funext fun x2 => l0_eq n K j x0 x1 x2
    rw [laws_toIntS.l0, ih]
    show _ = roundK cfg (pick (cal n)) (lam n) fin 0 b0 sin0 sout0 K (iter (roundK cfg (pick (cal n)) (lam n) fin 0 b0 sin0 sout0 K) j) (mkSt sin0 (x0, x1, x2, ()))
    kernel_rfl
theorem loops (n : Nat) : LoopsOk cfg (pick (cal n)) (lam n) fin (loopsOf cfg.blk code) := by
  have h : loopsOf cfg.blk code = [(0, b0)] := by kernel_rfl
  rw [h]
  intro p hp K st r hr
  simp only [List.mem_cons, List.not_mem_nil, or_false] at hp
  rcases hp with rfl
  · have hr' : (match absSt sin0 st with | some (x, _) => laws_toIntS.l0 n (fun y0 => K (mkSt sout0 (y0, ()))) n x.1 x.2.1 x.2.2.1 | none => none) = some r := hr
    split at hr'
    · rename_i x es hx
      rw [l0_eq] at hr'
      exact ⟨sin0, sout0, n, x, es, hx, hr'⟩
    · cases hr'
theorem F_eq (n : Nat) (x0 : List (Int)) : laws_toIntS.F n x0 = exK cfg (pick (cal n)) (lam n) fin code (fun _ _ => none) (mkSt shp (x0, ())) fin := by
  kernel_rfl
def pfn (n : Nat) : PFn := mkFn shp outs (fun x => laws_toIntS.F n x.1) out
theorem ok (n : Nat) : (pfn n).Ok Go.Proofs.Try.prog 38 :=
  mkFn_ok (fn := Go.Proofs.Try.f38) (code := code) Go.Proofs.Try.func38 (by kernel_rfl) (by decide) (C := cfg) (Φ := pick (cal n)) (Λ := lam n) (into := into) hT (cal_ok n) (by kernel_rfl) rfl (by decide) rfl (fun _ => rfl) (loops n)
    (fun x r h => by
      have e := F_eq n x.1
      exact e.symm.trans h)
end laws_toIntS
end
/-! ### loop.example/g01158/laws.toMaze -/
section
namespace laws_toMaze
noncomputable def code : Code := (Go.Proofs.Try.f7.body).getD .skip
abbrev shp : Shape := [(0, .agg [.int .i64, .row (.t3) false, .row (.int .i64) false])]
abbrev outs : List KD := [.agg [.int .i64, .row (.t3) true, .row (.int .i64) true]]
abbrev R : Type := Int × (List (Int × Int × Int)) × (List (Int))
def out : R → denL outs := fun r => ((r.1, r.2.1, r.2.2, ()), ())
def into : denL outs → R := fun y => (y.1.1, y.1.2.1, y.1.2.2.1)
def cfg : Cfg := ⟨ty, 16, [], fun _ => .plain, fun _ => none⟩
def cal (n : Nat) : List (Nat × PFn) := [(37, laws_toIntA3S.pfn n), (38, laws_toIntS.pfn n)]
theorem cal_ok (n : Nat) : ∀ g, (pick (cal n) g).Ok Go.Proofs.Try.prog g := pick_ok (by
  intro p hp
  simp only [cal, List.mem_cons, List.not_mem_nil, or_false] at hp
  rcases hp with rfl | rfl
  · exact laws_toIntA3S.ok n
  · exact laws_toIntS.ok n)
def fin : St → Option R := finOf ty [.cell 2 30] outs into
def lam (n : Nat) : Nat → (St → Option R) → St → Option R := fun _ => fun _ _ => none
theorem loops (n : Nat) : LoopsOk cfg (pick (cal n)) (lam n) fin (loopsOf cfg.blk code) := by
  have h : loopsOf cfg.blk code = [] := by kernel_rfl
  rw [h]
  intro p hp
  cases hp
theorem F_eq (n : Nat) (x0 : Int) (x1 : List (Int × Int × Int)) (x2 : List (Int)) : laws_toMaze.F n x0 x1 x2 = exK cfg (pick (cal n)) (lam n) fin code (fun _ _ => none) (mkSt shp ((x0, x1, x2, ()), ())) fin := by
  kernel_rfl
def pfn (n : Nat) : PFn := mkFn shp outs (fun x => laws_toMaze.F n x.1.1 x.1.2.1 x.1.2.2.1) out
theorem ok (n : Nat) : (pfn n).Ok Go.Proofs.Try.prog 7 :=
  mkFn_ok (fn := Go.Proofs.Try.f7) (code := code) Go.Proofs.Try.func7 (by kernel_rfl) (by decide) (C := cfg) (Φ := pick (cal n)) (Λ := lam n) (into := into) hT (cal_ok n) (by kernel_rfl) rfl (by decide) rfl (fun _ => rfl) (loops n)
    (fun x r h => by
      have e := F_eq n x.1.1 x.1.2.1 x.1.2.2.1
      exact e.symm.trans h)
end laws_toMaze
end
/-! ### loop.example/g01158/spec.l1In -/
section
namespace spec_l1In
noncomputable def code : Code := (Go.Proofs.Try.f72.body).getD .skip
abbrev shp : Shape := [(0, .one (.int .i64)), (1, .one (.int .i64)), (2, .one (.int .i64))]
abbrev outs : List KD := [.one (.bool)]
abbrev R : Type := Bool
def out : R → denL outs := fun r => (r, ())
def into : denL outs → R := fun y => y.1
def cfg : Cfg := ⟨ty, 15, [], fun _ => .plain, fun _ => none⟩
def cal (n : Nat) : List (Nat × PFn) := []
theorem cal_ok (n : Nat) : ∀ g, (pick (cal n) g).Ok Go.Proofs.Try.prog g := pick_ok (by
  intro p hp
  cases hp)
def fin : St → Option R := finOf ty [.tmp 6] outs into
def lam (n : Nat) : Nat → (St → Option R) → St → Option R := fun _ => fun _ _ => none
theorem loops (n : Nat) : LoopsOk cfg (pick (cal n)) (lam n) fin (loopsOf cfg.blk code) := by
  have h : loopsOf cfg.blk code = [] := by kernel_rfl
  rw [h]
  intro p hp
  cases hp
theorem F_eq (n : Nat) (x0 : Int) (x1 : Int) (x2 : Int) : spec_l1In.F n x0 x1 x2 = exK cfg (pick (cal n)) (lam n) fin code (fun _ _ => none) (mkSt shp (x0, x1, x2, ())) fin := by
  kernel_rfl
def pfn (n : Nat) : PFn := mkFn shp outs (fun x => spec_l1In.F n x.1 x.2.1 x.2.2.1) out
theorem ok (n : Nat) : (pfn n).Ok Go.Proofs.Try.prog 72 :=
  mkFn_ok (fn := Go.Proofs.Try.f72) (code := code) Go.Proofs.Try.func72 (by kernel_rfl) (by decide) (C := cfg) (Φ := pick (cal n)) (Λ := lam n) (into := into) hT (cal_ok n) (by kernel_rfl) rfl (by decide) rfl (fun _ => rfl) (loops n)
    (fun x r h => by
      have e := F_eq n x.1 x.2.1 x.2.2.1
      exact e.symm.trans h)
end spec_l1In
end
/-! ### loop.example/g01158/spec.l2Set -/
section
namespace spec_l2Set
noncomputable def code : Code := (Go.Proofs.Try.f60.body).getD .skip
abbrev shp : Shape := [(0, .one (.int .i64))]
abbrev outs : List KD := [.one (.bool)]
abbrev R : Type := Bool
def out : R → denL outs := fun r => (r, ())
def into : denL outs → R := fun y => y.1
def cfg : Cfg := ⟨ty, 5, [], fun _ => .plain, fun _ => none⟩
def cal (n : Nat) : List (Nat × PFn) := [(72, spec_l1In.pfn n)]
theorem cal_ok (n : Nat) : ∀ g, (pick (cal n) g).Ok Go.Proofs.Try.prog g := pick_ok (by
  intro p hp
  simp only [cal, List.mem_cons, List.not_mem_nil, or_false] at hp
  rcases hp with rfl
  · exact spec_l1In.ok n)
def fin : St → Option R := finOf ty [.tmp 2] outs into
def lam (n : Nat) : Nat → (St → Option R) → St → Option R := fun _ => fun _ _ => none
theorem loops (n : Nat) : LoopsOk cfg (pick (cal n)) (lam n) fin (loopsOf cfg.blk code) := by
  have h : loopsOf cfg.blk code = [] := by kernel_rfl
  rw [h]
  intro p hp
  cases hp
theorem F_eq (n : Nat) (x0 : Int) : spec_l2Set.F n x0 = exK cfg (pick (cal n)) (lam n) fin code (fun _ _ => none) (mkSt shp (x0, ())) fin := by
  kernel_rfl
def pfn (n : Nat) : PFn := mkFn shp outs (fun x => spec_l2Set.F n x.1) out
theorem ok (n : Nat) : (pfn n).Ok Go.Proofs.Try.prog 60 :=
  mkFn_ok (fn := Go.Proofs.Try.f60) (code := code) Go.Proofs.Try.func60 (by kernel_rfl) (by decide) (C := cfg) (Φ := pick (cal n)) (Λ := lam n) (into := into) hT (cal_ok n) (by kernel_rfl) rfl (by decide) rfl (fun _ => rfl) (loops n)
    (fun x r h => by
      have e := F_eq n x.1
      exact e.symm.trans h)
end spec_l2Set
end
/-! ### loop.example/g01158/spec.l2Before -/
section
namespace spec_l2Before
noncomputable def code : Code := (Go.Proofs.Try.f73.body).getD .skip
abbrev shp : Shape := [(0, .agg [.int .i64, .int .i64, .int .i64]), (1, .agg [.int .i64, .int .i64, .int .i64])]
abbrev outs : List KD := [.one (.bool)]
abbrev R : Type := Bool
def out : R → denL outs := fun r => (r, ())
def into : denL outs → R := fun y => y.1
def cfg : Cfg := ⟨ty, 24, [], fun i => match Nat.beq i 0 with | true => .unroll 4 | false => .plain, fun _ => none⟩
def cal (n : Nat) : List (Nat × PFn) := []
theorem cal_ok (n : Nat) : ∀ g, (pick (cal n) g).Ok Go.Proofs.Try.prog g := pick_ok (by
  intro p hp
  cases hp)
def fin : St → Option R := finOf ty [.tmp 4] outs into
def lam (n : Nat) : Nat → (St → Option R) → St → Option R := fun _ => fun _ _ => none
theorem loops (n : Nat) : LoopsOk cfg (pick (cal n)) (lam n) fin (loopsOf cfg.blk code) := by
  have h : loopsOf cfg.blk code = [] := by kernel_rfl
  rw [h]
  intro p hp
  cases hp
theorem F_eq (n : Nat) (x0 : Int) (x1 : Int) (x2 : Int) (x3 : Int) (x4 : Int) (x5 : Int) : spec_l2Before.F n x0 x1 x2 x3 x4 x5 = exK cfg (pick (cal n)) (lam n) fin code (fun _ _ => none) (mkSt shp ((x0, x1, x2, ()), (x3, x4, x5, ()), ())) fin := by
  kernel_rfl
def pfn (n : Nat) : PFn := mkFn shp outs (fun x => spec_l2Before.F n x.1.1 x.1.2.1 x.1.2.2.1 x.2.1.1 x.2.1.2.1 x.2.1.2.2.1) out
theorem ok (n : Nat) : (pfn n).Ok Go.Proofs.Try.prog 73 :=
  mkFn_ok (fn := Go.Proofs.Try.f73) (code := code) Go.Proofs.Try.func73 (by kernel_rfl) (by decide) (C := cfg) (Φ := pick (cal n)) (Λ := lam n) (into := into) hT (cal_ok n) (by kernel_rfl) rfl (by decide) rfl (fun _ => rfl) (loops n)
    (fun x r h => by
      have e := F_eq n x.1.1 x.1.2.1 x.1.2.2.1 x.2.1.1 x.2.1.2.1 x.2.1.2.2.1
      exact e.symm.trans h)
end spec_l2Before
end
/-! ### loop.example/g01158/spec.l2Maze -/
section
namespace spec_l2Maze
noncomputable def code : Code := (Go.Proofs.Try.f33.body).getD .skip
abbrev shp : Shape := [(0, .agg [.int .i64, .row (.t3) false, .row (.int .i64) false])]
abbrev outs : List KD := [.one (.bool)]
abbrev R : Type := Bool
def out : R → denL outs := fun r => (r, ())
def into : denL outs → R := fun y => y.1
def cfg : Cfg := ⟨ty, 89, [], fun i => match Nat.beq i 0 with | true => .loop | false => match Nat.beq i 2 with | true => .loop | false => .plain, fun i => match Nat.beq i 3 with | true => some [(1, .box true [.int .i64, .row (.t3) false, .row (.int .i64) false])] | false => none⟩
def cal (n : Nat) : List (Nat × PFn) := [(60, spec_l2Set.pfn n), (72, spec_l1In.pfn n), (73, spec_l2Before.pfn n)]
theorem cal_ok (n : Nat) : ∀ g, (pick (cal n) g).Ok Go.Proofs.Try.prog g := pick_ok (by
  intro p hp
  simp only [cal, List.mem_cons, List.not_mem_nil, or_false] at hp
  rcases hp with rfl | rfl | rfl
  · exact spec_l2Set.ok n
  · exact spec_l1In.ok n
  · exact spec_l2Before.ok n)
def fin : St → Option R := finOf ty [.tmp 2] outs into
abbrev sin0 : Shape := [(1, .box true [.int .i64, .row (.t3) false, .row (.int .i64) false]), (3, .one (.int .i64))]
abbrev sout0 : Shape := [(1, .box true [.int .i64, .row (.t3) false, .row (.int .i64) false])]
abbrev sin2 : Shape := [(1, .box true [.int .i64, .row (.t3) false, .row (.int .i64) false]), (5, .one (.int .i64))]
abbrev sout2 : Shape := []
def lam (n : Nat) : Nat → (St → Option R) → St → Option R := fun i => match Nat.beq i 0 with | true => (fun K st => match absSt sin0 st with | some (x, _) => spec_l2Maze.l0 n (fun y0 y1 y2 => K (mkSt sout0 ((y0, y1, y2, ()), ()))) n x.1.1 x.1.2.1 x.1.2.2.1 x.2.1 | none => none) | false => match Nat.beq i 2 with | true => (fun K st => match absSt sin2 st with | some (x, _) => spec_l2Maze.l2 n (fun _ => K (mkSt sout2 ())) n x.1.1 x.1.2.1 x.1.2.2.1 x.2.1 | none => none) | false => fun _ _ => none
noncomputable def lps : List (Nat × Code) := loopsOf cfg.blk code
noncomputable def b0 : Code := bodyOf lps 0
theorem l0_eq (n : Nat) (K : St → Option R) : ∀ (j : Nat) (x0 : Int) (x1 : List (Int × Int × Int)) (x2 : List (Int)) (x3 : Int), spec_l2Maze.l0 n (fun y0 y1 y2 => K (mkSt sout0 ((y0, y1, y2, ()), ()))) j x0 x1 x2 x3 = iter (roundK cfg (pick (cal n)) (lam n) fin 0 b0 sin0 sout0 K) j (mkSt sin0 ((x0, x1, x2, ()), x3, ()))
  | 0, _, _, _, _ => rfl
  | j + 1, x0, x1, x2, x3 => by
    have ih : spec_l2Maze.l0 n (fun y0 y1 y2 => K (mkSt sout0 ((y0, y1, y2, ()), ()))) j = fun x0 x1 x2 x3 => iter (roundK cfg (pick (cal n)) (lam n) fin 0 b0 sin0 sout0 K) j (mkSt sin0 ((x0, x1, x2, ()), x3, ())) := funext fun x0 => funext fun x1 => funext fun x2 => funext fun x3 => l0_eq n K j x0 x1 x2 x3
    rw [spec_l2Maze.l0, ih]
    show _ = roundK cfg (pick (cal n)) (lam n) fin 0 b0 sin0 sout0 K (iter (roundK cfg (pick (cal n)) (lam n) fin 0 b0 sin0 sout0 K) j) (mkSt sin0 ((x0, x1, x2, ()), x3, ()))
    kernel_rfl
noncomputable def b2 : Code := bodyOf lps 2
theorem l2_eq (n : Nat) (K : St → Option R) : ∀ (j : Nat) (x0 : Int) (x1 : List (Int × Int × Int)) (x2 : List (Int)) (x3 : Int), spec_l2Maze.l2 n (fun _ => K (mkSt sout2 ())) j x0 x1 x2 x3 = iter (roundK cfg (pick (cal n)) (lam n) fin 2 b2 sin2 sout2 K) j (mkSt sin2 ((x0, x1, x2, ()), x3, ()))
  | 0, _, _, _, _ => rfl
  | j + 1, x0, x1, x2, x3 => by
    have ih : spec_l2Maze.l2 n (fun _ => K (mkSt sout2 ())) j = fun x0 x1 x2 x3 => iter (roundK cfg (pick (cal n)) (lam n) fin 2 b2 sin2 sout2 K) j (mkSt sin2 ((x0, x1, x2, ()), x3, ())) := funext fun x0 => funext fun x1 => funext fun x2 => funext fun x3 => l2_eq n K j x0 x1 x2 x3
    rw [spec_l2Maze.l2, ih]
    show _ = roundK cfg (pick (cal n)) (lam n) fin 2 b2 sin2 sout2 K (iter (roundK cfg (pick (cal n)) (lam n) fin 2 b2 sin2 sout2 K) j) (mkSt sin2 ((x0, x1, x2, ()), x3, ()))
    kernel_rfl
theorem loops (n : Nat) : LoopsOk cfg (pick (cal n)) (lam n) fin (loopsOf cfg.blk code) := by
  have h : loopsOf cfg.blk code = [(0, b0), (2, b2)] := by kernel_rfl
  rw [h]
  intro p hp K st r hr
  simp only [List.mem_cons, List.not_mem_nil, or_false] at hp
  rcases hp with rfl | rfl
  · have hr' : (match absSt sin0 st with | some (x, _) => spec_l2Maze.l0 n (fun y0 y1 y2 => K (mkSt sout0 ((y0, y1, y2, ()), ()))) n x.1.1 x.1.2.1 x.1.2.2.1 x.2.1 | none => none) = some r := hr
    split at hr'
    · rename_i x es hx
      rw [l0_eq] at hr'
      exact ⟨sin0, sout0, n, x, es, hx, hr'⟩
    · cases hr'
  · have hr' : (match absSt sin2 st with | some (x, _) => spec_l2Maze.l2 n (fun _ => K (mkSt sout2 ())) n x.1.1 x.1.2.1 x.1.2.2.1 x.2.1 | none => none) = some r := hr
    split at hr'
    · rename_i x es hx
      rw [l2_eq] at hr'
      exact ⟨sin2, sout2, n, x, es, hx, hr'⟩
    · cases hr'
theorem F_eq (n : Nat) (x0 : Int) (x1 : List (Int × Int × Int)) (x2 : List (Int)) : spec_l2Maze.F n x0 x1 x2 = exK cfg (pick (cal n)) (lam n) fin code (fun _ _ => none) (mkSt shp ((x0, x1, x2, ()), ())) fin := by
  kernel_rfl
def pfn (n : Nat) : PFn := mkFn shp outs (fun x => spec_l2Maze.F n x.1.1 x.1.2.1 x.1.2.2.1) out
theorem ok (n : Nat) : (pfn n).Ok Go.Proofs.Try.prog 33 :=
  mkFn_ok (fn := Go.Proofs.Try.f33) (code := code) Go.Proofs.Try.func33 (by kernel_rfl) (by decide) (C := cfg) (Φ := pick (cal n)) (Λ := lam n) (into := into) hT (cal_ok n) (by kernel_rfl) rfl (by decide) rfl (fun _ => rfl) (loops n)
    (fun x r h => by
      have e := F_eq n x.1.1 x.1.2.1 x.1.2.2.1
      exact e.symm.trans h)
end spec_l2Maze
end
/-! ### loop.example/g01158/spec.l2Joins -/
section
namespace spec_l2Joins
noncomputable def code : Code := (Go.Proofs.Try.f101.body).getD .skip
abbrev shp : Shape := [(0, .agg [.int .i64, .int .i64, .int .i64]), (1, .one (.int .i64)), (2, .one (.int .i64))]
abbrev outs : List KD := [.one (.bool)]
abbrev R : Type := Bool
def out : R → denL outs := fun r => (r, ())
def into : denL outs → R := fun y => y.1
def cfg : Cfg := ⟨ty, 29, [], fun _ => .plain, fun _ => none⟩
def cal (n : Nat) : List (Nat × PFn) := []
theorem cal_ok (n : Nat) : ∀ g, (pick (cal n) g).Ok Go.Proofs.Try.prog g := pick_ok (by
  intro p hp
  cases hp)
def fin : St → Option R := finOf ty [.tmp 6] outs into
def lam (n : Nat) : Nat → (St → Option R) → St → Option R := fun _ => fun _ _ => none
theorem loops (n : Nat) : LoopsOk cfg (pick (cal n)) (lam n) fin (loopsOf cfg.blk code) := by
  have h : loopsOf cfg.blk code = [] := by kernel_rfl
  rw [h]
  intro p hp
  cases hp
theorem F_eq (n : Nat) (x0 : Int) (x1 : Int) (x2 : Int) (x3 : Int) (x4 : Int) : spec_l2Joins.F n x0 x1 x2 x3 x4 = exK cfg (pick (cal n)) (lam n) fin code (fun _ _ => none) (mkSt shp ((x0, x1, x2, ()), x3, x4, ())) fin := by
  kernel_rfl
def pfn (n : Nat) : PFn := mkFn shp outs (fun x => spec_l2Joins.F n x.1.1 x.1.2.1 x.1.2.2.1 x.2.1 x.2.2.1) out
theorem ok (n : Nat) : (pfn n).Ok Go.Proofs.Try.prog 101 :=
  mkFn_ok (fn := Go.Proofs.Try.f101) (code := code) Go.Proofs.Try.func101 (by kernel_rfl) (by decide) (C := cfg) (Φ := pick (cal n)) (Λ := lam n) (into := into) hT (cal_ok n) (by kernel_rfl) rfl (by decide) rfl (fun _ => rfl) (loops n)
    (fun x r h => by
      have e := F_eq n x.1.1 x.1.2.1 x.1.2.2.1 x.2.1 x.2.2.1
      exact e.symm.trans h)
end spec_l2Joins
end
/-! ### loop.example/g01158/spec.l2Has -/
section
namespace spec_l2Has
noncomputable def code : Code := (Go.Proofs.Try.f85.body).getD .skip
abbrev shp : Shape := [(0, .one (.int .i64)), (1, .one (.int .i64))]
abbrev outs : List KD := [.one (.bool)]
abbrev R : Type := Bool
def out : R → denL outs := fun r => (r, ())
def into : denL outs → R := fun y => y.1
def cfg : Cfg := ⟨ty, 10, [], fun _ => .plain, fun _ => none⟩
def cal (n : Nat) : List (Nat × PFn) := []
theorem cal_ok (n : Nat) : ∀ g, (pick (cal n) g).Ok Go.Proofs.Try.prog g := pick_ok (by
  intro p hp
  cases hp)
def fin : St → Option R := finOf ty [.tmp 4] outs into
def lam (n : Nat) : Nat → (St → Option R) → St → Option R := fun _ => fun _ _ => none
theorem loops (n : Nat) : LoopsOk cfg (pick (cal n)) (lam n) fin (loopsOf cfg.blk code) := by
  have h : loopsOf cfg.blk code = [] := by kernel_rfl
  rw [h]
  intro p hp
  cases hp
theorem F_eq (n : Nat) (x0 : Int) (x1 : Int) : spec_l2Has.F n x0 x1 = exK cfg (pick (cal n)) (lam n) fin code (fun _ _ => none) (mkSt shp (x0, x1, ())) fin := by
  kernel_rfl
def pfn (n : Nat) : PFn := mkFn shp outs (fun x => spec_l2Has.F n x.1 x.2.1) out
theorem ok (n : Nat) : (pfn n).Ok Go.Proofs.Try.prog 85 :=
  mkFn_ok (fn := Go.Proofs.Try.f85) (code := code) Go.Proofs.Try.func85 (by kernel_rfl) (by decide) (C := cfg) (Φ := pick (cal n)) (Λ := lam n) (into := into) hT (cal_ok n) (by kernel_rfl) rfl (by decide) rfl (fun _ => rfl) (loops n)
    (fun x r h => by
      have e := F_eq n x.1 x.2.1
      exact e.symm.trans h)
end spec_l2Has
end
/-! ### loop.example/g01158/spec.l2Open -/
section
namespace spec_l2Open
noncomputable def code : Code := (Go.Proofs.Try.f94.body).getD .skip
abbrev shp : Shape := [(0, .agg [.int .i64, .row (.t3) false, .row (.int .i64) false]), (1, .one (.int .i64)), (2, .one (.int .i64)), (3, .one (.int .i64))]
abbrev outs : List KD := [.one (.bool)]
abbrev R : Type := Bool
def out : R → denL outs := fun r => (r, ())
def into : denL outs → R := fun y => y.1
def cfg : Cfg := ⟨ty, 35, [], fun i => match Nat.beq i 0 with | true => .loop | false => .plain, fun _ => none⟩
def cal (n : Nat) : List (Nat × PFn) := [(85, spec_l2Has.pfn n), (101, spec_l2Joins.pfn n)]
theorem cal_ok (n : Nat) : ∀ g, (pick (cal n) g).Ok Go.Proofs.Try.prog g := pick_ok (by
  intro p hp
  simp only [cal, List.mem_cons, List.not_mem_nil, or_false] at hp
  rcases hp with rfl | rfl
  · exact spec_l2Has.ok n
  · exact spec_l2Joins.ok n)
def fin : St → Option R := finOf ty [.tmp 8] outs into
abbrev sin0 : Shape := [(1, .one (.int .i64)), (2, .one (.int .i64)), (3, .one (.int .i64)), (4, .box true [.int .i64, .row (.t3) false, .row (.int .i64) false]), (9, .one (.int .i64))]
abbrev sout0 : Shape := []
def lam (n : Nat) : Nat → (St → Option R) → St → Option R := fun i => match Nat.beq i 0 with | true => (fun K st => match absSt sin0 st with | some (x, _) => spec_l2Open.l0 n (fun _ => K (mkSt sout0 ())) n x.1 x.2.1 x.2.2.1 x.2.2.2.1.1 x.2.2.2.1.2.1 x.2.2.2.1.2.2.1 x.2.2.2.2.1 | none => none) | false => fun _ _ => none
noncomputable def lps : List (Nat × Code) := loopsOf cfg.blk code
noncomputable def b0 : Code := bodyOf lps 0
theorem l0_eq (n : Nat) (K : St → Option R) : ∀ (j : Nat) (x0 : Int) (x1 : Int) (x2 : Int) (x3 : Int) (x4 : List (Int × Int × Int)) (x5 : List (Int)) (x6 : Int), spec_l2Open.l0 n (fun _ => K (mkSt sout0 ())) j x0 x1 x2 x3 x4 x5 x6 = iter (roundK cfg (pick (cal n)) (lam n) fin 0 b0 sin0 sout0 K) j (mkSt sin0 (x0, x1, x2, (x3, x4, x5, ()), x6, ()))
  | 0, _, _, _, _, _, _, _ => rfl
  | j + 1, x0, x1, x2, x3, x4, x5, x6 => by
    have ih : spec_l2Open.l0 n (fun _ => K (mkSt sout0 ())) j = fun x0 x1 x2 x3 x4 x5 x6 => iter (roundK cfg (pick (cal n)) (lam n) fin 0 b0 sin0 sout0 K) j (mkSt sin0 (x0, x1, x2, (x3, x4, x5, ()), x6, ())) := funext fun x0 => funext fun x1 => funext fun x2 => funext fun x3 => funext fun x4 => funext fun x5 => funext fun x6 => l0_eq n K j x0 x1 x2 x3 x4 x5 x6
    rw [spec_l2Open.l0, ih]
    show _ = roundK cfg (pick (cal n)) (lam n) fin 0 b0 sin0 sout0 K (iter (roundK cfg (pick (cal n)) (lam n) fin 0 b0 sin0 sout0 K) j) (mkSt sin0 (x0, x1, x2, (x3, x4, x5, ()), x6, ()))
    kernel_rfl
theorem loops (n : Nat) : LoopsOk cfg (pick (cal n)) (lam n) fin (loopsOf cfg.blk code) := by
  have h : loopsOf cfg.blk code = [(0, b0)] := by kernel_rfl
  rw [h]
  intro p hp K st r hr
  simp only [List.mem_cons, List.not_mem_nil, or_false] at hp
  rcases hp with rfl
  · have hr' : (match absSt sin0 st with | some (x, _) => spec_l2Open.l0 n (fun _ => K (mkSt sout0 ())) n x.1 x.2.1 x.2.2.1 x.2.2.2.1.1 x.2.2.2.1.2.1 x.2.2.2.1.2.2.1 x.2.2.2.2.1 | none => none) = some r := hr
    split at hr'
    · rename_i x es hx
      rw [l0_eq] at hr'
      exact ⟨sin0, sout0, n, x, es, hx, hr'⟩
    · cases hr'
theorem F_eq (n : Nat) (x0 : Int) (x1 : List (Int × Int × Int)) (x2 : List (Int)) (x3 : Int) (x4 : Int) (x5 : Int) : spec_l2Open.F n x0 x1 x2 x3 x4 x5 = exK cfg (pick (cal n)) (lam n) fin code (fun _ _ => none) (mkSt shp ((x0, x1, x2, ()), x3, x4, x5, ())) fin := by
  kernel_rfl
def pfn (n : Nat) : PFn := mkFn shp outs (fun x => spec_l2Open.F n x.1.1 x.1.2.1 x.1.2.2.1 x.2.1 x.2.2.1 x.2.2.2.1) out
theorem ok (n : Nat) : (pfn n).Ok Go.Proofs.Try.prog 94 :=
  mkFn_ok (fn := Go.Proofs.Try.f94) (code := code) Go.Proofs.Try.func94 (by kernel_rfl) (by decide) (C := cfg) (Φ := pick (cal n)) (Λ := lam n) (into := into) hT (cal_ok n) (by kernel_rfl) rfl (by decide) rfl (fun _ => rfl) (loops n)
    (fun x r h => by
      have e := F_eq n x.1.1 x.1.2.1 x.1.2.2.1 x.2.1 x.2.2.1 x.2.2.2.1
      exact e.symm.trans h)
end spec_l2Open
end
/-! ### loop.example/g01158/spec.l4Id -/
section
namespace spec_l4Id
noncomputable def code : Code := (Go.Proofs.Try.f36.body).getD .skip
abbrev shp : Shape := [(0, .one (.int .i64)), (1, .one (.int .i64))]
abbrev outs : List KD := [.one (.int .i64)]
abbrev R : Type := Int
def out : R → denL outs := fun r => (r, ())
def into : denL outs → R := fun y => y.1
def cfg : Cfg := ⟨ty, 9, [], fun _ => .plain, fun _ => none⟩
def cal (n : Nat) : List (Nat × PFn) := []
theorem cal_ok (n : Nat) : ∀ g, (pick (cal n) g).Ok Go.Proofs.Try.prog g := pick_ok (by
  intro p hp
  cases hp)
def fin : St → Option R := finOf ty [.tmp 4] outs into
def lam (n : Nat) : Nat → (St → Option R) → St → Option R := fun _ => fun _ _ => none
theorem loops (n : Nat) : LoopsOk cfg (pick (cal n)) (lam n) fin (loopsOf cfg.blk code) := by
  have h : loopsOf cfg.blk code = [] := by kernel_rfl
  rw [h]
  intro p hp
  cases hp
theorem F_eq (n : Nat) (x0 : Int) (x1 : Int) : spec_l4Id.F n x0 x1 = exK cfg (pick (cal n)) (lam n) fin code (fun _ _ => none) (mkSt shp (x0, x1, ())) fin := by
  kernel_rfl
def pfn (n : Nat) : PFn := mkFn shp outs (fun x => spec_l4Id.F n x.1 x.2.1) out
theorem ok (n : Nat) : (pfn n).Ok Go.Proofs.Try.prog 36 :=
  mkFn_ok (fn := Go.Proofs.Try.f36) (code := code) Go.Proofs.Try.func36 (by kernel_rfl) (by decide) (C := cfg) (Φ := pick (cal n)) (Λ := lam n) (into := into) hT (cal_ok n) (by kernel_rfl) rfl (by decide) rfl (fun _ => rfl) (loops n)
    (fun x r h => by
      have e := F_eq n x.1 x.2.1
      exact e.symm.trans h)
end spec_l4Id
end
/-! ### loop.example/g01158/spec.l4Step -/
section
namespace spec_l4Step
noncomputable def code : Code := (Go.Proofs.Try.f74.body).getD .skip
abbrev shp : Shape := [(0, .agg [.int .i64, .row (.t3) false, .row (.int .i64) false]), (1, .one (.int .i64)), (2, .one (.int .i64))]
abbrev outs : List KD := [.one (.row (.int .i64) true)]
abbrev R : Type := (List (Int))
def out : R → denL outs := fun r => (r, ())
def into : denL outs → R := fun y => y.1
def cfg : Cfg := ⟨ty, 34, [], fun i => match Nat.beq i 0 with | true => .loop | false => .plain, fun _ => none⟩
def cal (n : Nat) : List (Nat × PFn) := [(36, spec_l4Id.pfn n), (94, spec_l2Open.pfn n)]
theorem cal_ok (n : Nat) : ∀ g, (pick (cal n) g).Ok Go.Proofs.Try.prog g := pick_ok (by
  intro p hp
  simp only [cal, List.mem_cons, List.not_mem_nil, or_false] at hp
  rcases hp with rfl | rfl
  · exact spec_l4Id.ok n
  · exact spec_l2Open.ok n)
def fin : St → Option R := finOf ty [.tmp 6] outs into
abbrev sin0 : Shape := [(1, .one (.int .i64)), (2, .one (.int .i64)), (3, .box true [.int .i64, .row (.t3) false, .row (.int .i64) false]), (7, .one (.row (.int .i64) true)), (8, .one (.int .i64))]
abbrev sout0 : Shape := [(7, .one (.row (.int .i64) true))]
def lam (n : Nat) : Nat → (St → Option R) → St → Option R := fun i => match Nat.beq i 0 with | true => (fun K st => match absSt sin0 st with | some (x, _) => spec_l4Step.l0 n (fun y0 => K (mkSt sout0 (y0, ()))) n x.1 x.2.1 x.2.2.1.1 x.2.2.1.2.1 x.2.2.1.2.2.1 x.2.2.2.1 x.2.2.2.2.1 | none => none) | false => fun _ _ => none
noncomputable def lps : List (Nat × Code) := loopsOf cfg.blk code
noncomputable def b0 : Code := bodyOf lps 0
theorem l0_eq (n : Nat) (K : St → Option R) : ∀ (j : Nat) (x0 : Int) (x1 : Int) (x2 : Int) (x3 : List (Int × Int × Int)) (x4 : List (Int)) (x5 : List (Int)) (x6 : Int), spec_l4Step.l0 n (fun y0 => K (mkSt sout0 (y0, ()))) j x0 x1 x2 x3 x4 x5 x6 = iter (roundK cfg (pick (cal n)) (lam n) fin 0 b0 sin0 sout0 K) j (mkSt sin0 (x0, x1, (x2, x3, x4, ()), x5, x6, ()))
  | 0, _, _, _, _, _, _, _ => rfl
  | j + 1, x0, x1, x2, x3, x4, x5, x6 => by
    have ih : spec_l4Step.l0 n (fun y0 => K (mkSt sout0 (y0, ()))) j = fun x0 x1 x2 x3 x4 x5 x6 => iter (roundK cfg (pick (cal n)) (lam n) fin 0 b0 sin0 sout0 K) j (mkSt sin0 (x0, x1, (x2, x3, x4, ()), x5, x6, ())) := funext fun x0 => funext fun x1 => funext fun x2 => funext fun x3 => funext fun x4 => funext fun x5 => funext fun x6 => l0_eq n K j x0 x1 x2 x3 x4 x5 x6
    rw [spec_l4Step.l0, ih]
    show _ = roundK cfg (pick (cal n)) (lam n) fin 0 b0 sin0 sout0 K (iter (roundK cfg (pick (cal n)) (lam n) fin 0 b0 sin0 sout0 K) j) (mkSt sin0 (x0, x1, (x2, x3, x4, ()), x5, x6, ()))
    kernel_rfl
theorem loops (n : Nat) : LoopsOk cfg (pick (cal n)) (lam n) fin (loopsOf cfg.blk code) := by
  have h : loopsOf cfg.blk code = [(0, b0)] := by kernel_rfl
  rw [h]
  intro p hp K st r hr
  simp only [List.mem_cons, List.not_mem_nil, or_false] at hp
  rcases hp with rfl
  · have hr' : (match absSt sin0 st with | some (x, _) => spec_l4Step.l0 n (fun y0 => K (mkSt sout0 (y0, ()))) n x.1 x.2.1 x.2.2.1.1 x.2.2.1.2.1 x.2.2.1.2.2.1 x.2.2.2.1 x.2.2.2.2.1 | none => none) = some r := hr
    split at hr'
    · rename_i x es hx
      rw [l0_eq] at hr'
      exact ⟨sin0, sout0, n, x, es, hx, hr'⟩
    · cases hr'
theorem F_eq (n : Nat) (x0 : Int) (x1 : List (Int × Int × Int)) (x2 : List (Int)) (x3 : Int) (x4 : Int) : spec_l4Step.F n x0 x1 x2 x3 x4 = exK cfg (pick (cal n)) (lam n) fin code (fun _ _ => none) (mkSt shp ((x0, x1, x2, ()), x3, x4, ())) fin := by
  kernel_rfl
def pfn (n : Nat) : PFn := mkFn shp outs (fun x => spec_l4Step.F n x.1.1 x.1.2.1 x.1.2.2.1 x.2.1 x.2.2.1) out
theorem ok (n : Nat) : (pfn n).Ok Go.Proofs.Try.prog 74 :=
  mkFn_ok (fn := Go.Proofs.Try.f74) (code := code) Go.Proofs.Try.func74 (by kernel_rfl) (by decide) (C := cfg) (Φ := pick (cal n)) (Λ := lam n) (into := into) hT (cal_ok n) (by kernel_rfl) rfl (by decide) rfl (fun _ => rfl) (loops n)
    (fun x r h => by
      have e := F_eq n x.1.1 x.1.2.1 x.1.2.2.1 x.2.1 x.2.2.1
      exact e.symm.trans h)
end spec_l4Step
end
/-! ### loop.example/g01158/spec.l4Remain -/
section
namespace spec_l4Remain
noncomputable def code : Code := (Go.Proofs.Try.f34.body).getD .skip
abbrev shp : Shape := [(0, .agg [.int .i64, .row (.t3) false, .row (.int .i64) false])]
abbrev outs : List KD := [.one (.row (.int .i64) true)]
abbrev R : Type := (List (Int))
def out : R → denL outs := fun r => (r, ())
def into : denL outs → R := fun y => y.1
def cfg : Cfg := ⟨ty, 88, [], fun i => match Nat.beq i 0 with | true => .loop | false => match Nat.beq i 6 with | true => .loop | false => match Nat.beq i 4 with | true => .loop | false => match Nat.beq i 2 with | true => .loop | false => .plain, fun _ => none⟩
def cal (n : Nat) : List (Nat × PFn) := [(74, spec_l4Step.pfn n)]
theorem cal_ok (n : Nat) : ∀ g, (pick (cal n) g).Ok Go.Proofs.Try.prog g := pick_ok (by
  intro p hp
  simp only [cal, List.mem_cons, List.not_mem_nil, or_false] at hp
  rcases hp with rfl
  · exact spec_l4Step.ok n)
def fin : St → Option R := finOf ty [.tmp 2] outs into
abbrev sin0 : Shape := [(1, .box true [.int .i64, .row (.t3) false, .row (.int .i64) false]), (3, .one (.row (.int .i64) true)), (4, .one (.int .i64))]
abbrev sout0 : Shape := [(1, .box true [.int .i64, .row (.t3) false, .row (.int .i64) false]), (3, .one (.row (.int .i64) true))]
abbrev sin6 : Shape := [(1, .box true [.int .i64, .row (.t3) false, .row (.int .i64) false]), (3, .one (.row (.int .i64) true)), (5, .one (.int .i64)), (6, .one (.bool)), (7, .one (.int .i64)), (8, .one (.row (.int .i64) true)), (9, .one (.int .i64))]
abbrev sout6 : Shape := [(1, .box true [.int .i64, .row (.t3) false, .row (.int .i64) false]), (3, .one (.row (.int .i64) true)), (5, .one (.int .i64)), (6, .one (.bool)), (7, .one (.int .i64))]
abbrev sin4 : Shape := [(1, .box true [.int .i64, .row (.t3) false, .row (.int .i64) false]), (3, .one (.row (.int .i64) true)), (5, .one (.int .i64)), (6, .one (.bool)), (7, .one (.int .i64))]
abbrev sout4 : Shape := [(1, .box true [.int .i64, .row (.t3) false, .row (.int .i64) false]), (3, .one (.row (.int .i64) true)), (5, .one (.int .i64)), (6, .one (.bool))]
abbrev sin2 : Shape := [(1, .box true [.int .i64, .row (.t3) false, .row (.int .i64) false]), (3, .one (.row (.int .i64) true)), (5, .one (.int .i64))]
abbrev sout2 : Shape := [(3, .one (.row (.int .i64) true))]
def lam (n : Nat) : Nat → (St → Option R) → St → Option R := fun i => match Nat.beq i 0 with | true => (fun K st => match absSt sin0 st with | some (x, _) => spec_l4Remain.l0 n (fun y0 y1 y2 y3 => K (mkSt sout0 ((y0, y1, y2, ()), y3, ()))) n x.1.1 x.1.2.1 x.1.2.2.1 x.2.1 x.2.2.1 | none => none) | false => match Nat.beq i 6 with | true => (fun K st => match absSt sin6 st with | some (x, _) => spec_l4Remain.l6 n (fun y0 y1 y2 y3 y4 y5 y6 => K (mkSt sout6 ((y0, y1, y2, ()), y3, y4, y5, y6, ()))) n x.1.1 x.1.2.1 x.1.2.2.1 x.2.1 x.2.2.1 x.2.2.2.1 x.2.2.2.2.1 x.2.2.2.2.2.1 x.2.2.2.2.2.2.1 | none => none) | false => match Nat.beq i 4 with | true => (fun K st => match absSt sin4 st with | some (x, _) => spec_l4Remain.l4 n (fun y0 y1 y2 y3 y4 y5 => K (mkSt sout4 ((y0, y1, y2, ()), y3, y4, y5, ()))) n x.1.1 x.1.2.1 x.1.2.2.1 x.2.1 x.2.2.1 x.2.2.2.1 x.2.2.2.2.1 | none => none) | false => match Nat.beq i 2 with | true => (fun K st => match absSt sin2 st with | some (x, _) => spec_l4Remain.l2 n (fun y0 => K (mkSt sout2 (y0, ()))) n x.1.1 x.1.2.1 x.1.2.2.1 x.2.1 x.2.2.1 | none => none) | false => fun _ _ => none
noncomputable def lps : List (Nat × Code) := loopsOf cfg.blk code
noncomputable def b0 : Code := bodyOf lps 0
theorem l0_eq (n : Nat) (K : St → Option R) : ∀ (j : Nat) (x0 : Int) (x1 : List (Int × Int × Int)) (x2 : List (Int)) (x3 : List (Int)) (x4 : Int), spec_l4Remain.l0 n (fun y0 y1 y2 y3 => K (mkSt sout0 ((y0, y1, y2, ()), y3, ()))) j x0 x1 x2 x3 x4 = iter (roundK cfg (pick (cal n)) (lam n) fin 0 b0 sin0 sout0 K) j (mkSt sin0 ((x0, x1, x2, ()), x3, x4, ()))
  | 0, _, _, _, _, _ => rfl
  | j + 1, x0, x1, x2, x3, x4 => by
    have ih : spec_l4Remain.l0 n (fun y0 y1 y2 y3 => K (mkSt sout0 ((y0, y1, y2, ()), y3, ()))) j = fun x0 x1 x2 x3 x4 => iter (roundK cfg (pick (cal n)) (lam n) fin 0 b0 sin0 sout0 K) j (mkSt sin0 ((x0, x1, x2, ()), x3, x4, ())) := funext fun x0 => funext fun x1 => funext fun x2 => funext fun x3 => funext fun x4 => l0_eq n K j x0 x1 x2 x3 x4
    rw [spec_l4Remain.l0, ih]
    show _ = roundK cfg (pick (cal n)) (lam n) fin 0 b0 sin0 sout0 K (iter (roundK cfg (pick (cal n)) (lam n) fin 0 b0 sin0 sout0 K) j) (mkSt sin0 ((x0, x1, x2, ()), x3, x4, ()))
    kernel_rfl
noncomputable def b6 : Code := bodyOf lps 6
theorem l6_eq (n : Nat) (K : St → Option R) : ∀ (j : Nat) (x0 : Int) (x1 : List (Int × Int × Int)) (x2 : List (Int)) (x3 : List (Int)) (x4 : Int) (x5 : Bool) (x6 : Int) (x7 : List (Int)) (x8 : Int), spec_l4Remain.l6 n (fun y0 y1 y2 y3 y4 y5 y6 => K (mkSt sout6 ((y0, y1, y2, ()), y3, y4, y5, y6, ()))) j x0 x1 x2 x3 x4 x5 x6 x7 x8 = iter (roundK cfg (pick (cal n)) (lam n) fin 6 b6 sin6 sout6 K) j (mkSt sin6 ((x0, x1, x2, ()), x3, x4, x5, x6, x7, x8, ()))
  | 0, _, _, _, _, _, _, _, _, _ => rfl
  | j + 1, x0, x1, x2, x3, x4, x5, x6, x7, x8 => by
    have ih : spec_l4Remain.l6 n (fun y0 y1 y2 y3 y4 y5 y6 => K (mkSt sout6 ((y0, y1, y2, ()), y3, y4, y5, y6, ()))) j = fun x0 x1 x2 x3 x4 x5 x6 x7 x8 => iter (roundK cfg (pick (cal n)) (lam n) fin 6 b6 sin6 sout6 K) j (mkSt sin6 ((x0, x1, x2, ()), x3, x4, x5, x6, x7, x8, ())) := funext fun x0 => funext fun x1 => funext fun x2 => funext fun x3 => funext fun x4 => funext fun x5 => funext fun x6 => funext fun x7 => funext fun x8 => l6_eq n K j x0 x1 x2 x3 x4 x5 x6 x7 x8
    rw [spec_l4Remain.l6, ih]
    show _ = roundK cfg (pick (cal n)) (lam n) fin 6 b6 sin6 sout6 K (iter (roundK cfg (pick (cal n)) (lam n) fin 6 b6 sin6 sout6 K) j) (mkSt sin6 ((x0, x1, x2, ()), x3, x4, x5, x6, x7, x8, ()))
    kernel_rfl
noncomputable def b4 : Code := bodyOf lps 4
theorem l4_eq (n : Nat) (K : St → Option R) : ∀ (j : Nat) (x0 : Int) (x1 : List (Int × Int × Int)) (x2 : List (Int)) (x3 : List (Int)) (x4 : Int) (x5 : Bool) (x6 : Int), spec_l4Remain.l4 n (fun y0 y1 y2 y3 y4 y5 => K (mkSt sout4 ((y0, y1, y2, ()), y3, y4, y5, ()))) j x0 x1 x2 x3 x4 x5 x6 = iter (roundK cfg (pick (cal n)) (lam n) fin 4 b4 sin4 sout4 K) j (mkSt sin4 ((x0, x1, x2, ()), x3, x4, x5, x6, ()))
  | 0, _, _, _, _, _, _, _ => rfl
  | j + 1, x0, x1, x2, x3, x4, x5, x6 => by
    have ih : spec_l4Remain.l4 n (fun y0 y1 y2 y3 y4 y5 => K (mkSt sout4 ((y0, y1, y2, ()), y3, y4, y5, ()))) j = fun x0 x1 x2 x3 x4 x5 x6 => iter (roundK cfg (pick (cal n)) (lam n) fin 4 b4 sin4 sout4 K) j (mkSt sin4 ((x0, x1, x2, ()), x3, x4, x5, x6, ())) := funext fun x0 => funext fun x1 => funext fun x2 => funext fun x3 => funext fun x4 => funext fun x5 => funext fun x6 => l4_eq n K j x0 x1 x2 x3 x4 x5 x6
    rw [spec_l4Remain.l4, ih]
    show _ = roundK cfg (pick (cal n)) (lam n) fin 4 b4 sin4 sout4 K (iter (roundK cfg (pick (cal n)) (lam n) fin 4 b4 sin4 sout4 K) j) (mkSt sin4 ((x0, x1, x2, ()), x3, x4, x5, x6, ()))
    kernel_rfl
noncomputable def b2 : Code := bodyOf lps 2
theorem l2_eq (n : Nat) (K : St → Option R) : ∀ (j : Nat) (x0 : Int) (x1 : List (Int × Int × Int)) (x2 : List (Int)) (x3 : List (Int)) (x4 : Int), spec_l4Remain.l2 n (fun y0 => K (mkSt sout2 (y0, ()))) j x0 x1 x2 x3 x4 = iter (roundK cfg (pick (cal n)) (lam n) fin 2 b2 sin2 sout2 K) j (mkSt sin2 ((x0, x1, x2, ()), x3, x4, ()))
  | 0, _, _, _, _, _ => rfl
  | j + 1, x0, x1, x2, x3, x4 => by
    have ih : spec_l4Remain.l2 n (fun y0 => K (mkSt sout2 (y0, ()))) j = fun x0 x1 x2 x3 x4 => iter (roundK cfg (pick (cal n)) (lam n) fin 2 b2 sin2 sout2 K) j (mkSt sin2 ((x0, x1, x2, ()), x3, x4, ())) := funext fun x0 => funext fun x1 => funext fun x2 => funext fun x3 => funext fun x4 => l2_eq n K j x0 x1 x2 x3 x4
    rw [spec_l4Remain.l2, ih]
    show _ = roundK cfg (pick (cal n)) (lam n) fin 2 b2 sin2 sout2 K (iter (roundK cfg (pick (cal n)) (lam n) fin 2 b2 sin2 sout2 K) j) (mkSt sin2 ((x0, x1, x2, ()), x3, x4, ()))
    kernel_rfl
theorem loops (n : Nat) : LoopsOk cfg (pick (cal n)) (lam n) fin (loopsOf cfg.blk code) := by
  have h : loopsOf cfg.blk code = [(0, b0), (2, b2), (4, b4), (6, b6)] := by kernel_rfl
  rw [h]
  intro p hp K st r hr
  simp only [List.mem_cons, List.not_mem_nil, or_false] at hp
  rcases hp with rfl | rfl | rfl | rfl
  · have hr' : (match absSt sin0 st with | some (x, _) => spec_l4Remain.l0 n (fun y0 y1 y2 y3 => K (mkSt sout0 ((y0, y1, y2, ()), y3, ()))) n x.1.1 x.1.2.1 x.1.2.2.1 x.2.1 x.2.2.1 | none => none) = some r := hr
    split at hr'
    · rename_i x es hx
      rw [l0_eq] at hr'
      exact ⟨sin0, sout0, n, x, es, hx, hr'⟩
    · cases hr'
  · have hr' : (match absSt sin2 st with | some (x, _) => spec_l4Remain.l2 n (fun y0 => K (mkSt sout2 (y0, ()))) n x.1.1 x.1.2.1 x.1.2.2.1 x.2.1 x.2.2.1 | none => none) = some r := hr
    split at hr'
    · rename_i x es hx
      rw [l2_eq] at hr'
      exact ⟨sin2, sout2, n, x, es, hx, hr'⟩
    · cases hr'
  · have hr' : (match absSt sin4 st with | some (x, _) => spec_l4Remain.l4 n (fun y0 y1 y2 y3 y4 y5 => K (mkSt sout4 ((y0, y1, y2, ()), y3, y4, y5, ()))) n x.1.1 x.1.2.1 x.1.2.2.1 x.2.1 x.2.2.1 x.2.2.2.1 x.2.2.2.2.1 | none => none) = some r := hr
    split at hr'
    · rename_i x es hx
      rw [l4_eq] at hr'
      exact ⟨sin4, sout4, n, x, es, hx, hr'⟩
    · cases hr'
  · have hr' : (match absSt sin6 st with | some (x, _) => spec_l4Remain.l6 n (fun y0 y1 y2 y3 y4 y5 y6 => K (mkSt sout6 ((y0, y1, y2, ()), y3, y4, y5, y6, ()))) n x.1.1 x.1.2.1 x.1.2.2.1 x.2.1 x.2.2.1 x.2.2.2.1 x.2.2.2.2.1 x.2.2.2.2.2.1 x.2.2.2.2.2.2.1 | none => none) = some r := hr
    split at hr'
    · rename_i x es hx
      rw [l6_eq] at hr'
      exact ⟨sin6, sout6, n, x, es, hx, hr'⟩
    · cases hr'
theorem F_eq (n : Nat) (x0 : Int) (x1 : List (Int × Int × Int)) (x2 : List (Int)) : spec_l4Remain.F n x0 x1 x2 = exK cfg (pick (cal n)) (lam n) fin code (fun _ _ => none) (mkSt shp ((x0, x1, x2, ()), ())) fin := by
  kernel_rfl
def pfn (n : Nat) : PFn := mkFn shp outs (fun x => spec_l4Remain.F n x.1.1 x.1.2.1 x.1.2.2.1) out
theorem ok (n : Nat) : (pfn n).Ok Go.Proofs.Try.prog 34 :=
  mkFn_ok (fn := Go.Proofs.Try.f34) (code := code) Go.Proofs.Try.func34 (by kernel_rfl) (by decide) (C := cfg) (Φ := pick (cal n)) (Λ := lam n) (into := into) hT (cal_ok n) (by kernel_rfl) rfl (by decide) rfl (fun _ => rfl) (loops n)
    (fun x r h => by
      have e := F_eq n x.1.1 x.1.2.1 x.1.2.2.1
      exact e.symm.trans h)
end spec_l4Remain
end
/-! ### loop.example/g01158/spec.l1Own -/
section
namespace spec_l1Own
noncomputable def code : Code := (Go.Proofs.Try.f35.body).getD .skip
abbrev shp : Shape := [(0, .one (.row (.int .i64) false))]
abbrev outs : List KD := [.one (.row (.int .i64) true)]
abbrev R : Type := (List (Int))
def out : R → denL outs := fun r => (r, ())
def into : denL outs → R := fun y => y.1
def cfg : Cfg := ⟨ty, 6, [], fun _ => .plain, fun _ => none⟩
def cal (n : Nat) : List (Nat × PFn) := []
theorem cal_ok (n : Nat) : ∀ g, (pick (cal n) g).Ok Go.Proofs.Try.prog g := pick_ok (by
  intro p hp
  cases hp)
def fin : St → Option R := finOf ty [.tmp 2] outs into
def lam (n : Nat) : Nat → (St → Option R) → St → Option R := fun _ => fun _ _ => none
theorem loops (n : Nat) : LoopsOk cfg (pick (cal n)) (lam n) fin (loopsOf cfg.blk code) := by
  have h : loopsOf cfg.blk code = [] := by kernel_rfl
  rw [h]
  intro p hp
  cases hp
theorem F_eq (n : Nat) (x0 : List (Int)) : spec_l1Own.F n x0 = exK cfg (pick (cal n)) (lam n) fin code (fun _ _ => none) (mkSt shp (x0, ())) fin := by
  kernel_rfl
def pfn (n : Nat) : PFn := mkFn shp outs (fun x => spec_l1Own.F n x.1) out
theorem ok (n : Nat) : (pfn n).Ok Go.Proofs.Try.prog 35 :=
  mkFn_ok (fn := Go.Proofs.Try.f35) (code := code) Go.Proofs.Try.func35 (by kernel_rfl) (by decide) (C := cfg) (Φ := pick (cal n)) (Λ := lam n) (into := into) hT (cal_ok n) (by kernel_rfl) rfl (by decide) rfl (fun _ => rfl) (loops n)
    (fun x r h => by
      have e := F_eq n x.1
      exact e.symm.trans h)
end spec_l1Own
end
/-! ### loop.example/g01158/spec.RemainTable -/
section
namespace spec_RemainTable
noncomputable def code : Code := (Go.Proofs.Try.f6.body).getD .skip
abbrev shp : Shape := [(0, .agg [.int .i64, .row (.t3) false, .row (.int .i64) false])]
abbrev outs : List KD := [.one (.tab true), .one (.bool)]
abbrev R : Type := (List (List Int)) × Bool
def out : R → denL outs := fun r => (r.1, r.2, ())
def into : denL outs → R := fun y => (y.1, y.2.1)
def cfg : Cfg := ⟨ty, 32, [], fun i => match Nat.beq i 0 with | true => .loop | false => .plain, fun _ => none⟩
def cal (n : Nat) : List (Nat × PFn) := [(33, spec_l2Maze.pfn n), (34, spec_l4Remain.pfn n), (35, spec_l1Own.pfn n), (36, spec_l4Id.pfn n)]
theorem cal_ok (n : Nat) : ∀ g, (pick (cal n) g).Ok Go.Proofs.Try.prog g := pick_ok (by
  intro p hp
  simp only [cal, List.mem_cons, List.not_mem_nil, or_false] at hp
  rcases hp with rfl | rfl | rfl | rfl
  · exact spec_l2Maze.ok n
  · exact spec_l4Remain.ok n
  · exact spec_l1Own.ok n
  · exact spec_l4Id.ok n)
def fin : St → Option R := finOf ty [.tmp 2, .tmp 3] outs into
abbrev sin0 : Shape := [(1, .box true [.int .i64, .row (.t3) false, .row (.int .i64) false]), (4, .one (.tab true)), (5, .one (.row (.int .i64) true)), (6, .one (.int .i64))]
abbrev sout0 : Shape := [(4, .one (.tab true))]
def lam (n : Nat) : Nat → (St → Option R) → St → Option R := fun i => match Nat.beq i 0 with | true => (fun K st => match absSt sin0 st with | some (x, _) => spec_RemainTable.l0 n (fun y0 => K (mkSt sout0 (y0, ()))) n x.1.1 x.1.2.1 x.1.2.2.1 x.2.1 x.2.2.1 x.2.2.2.1 | none => none) | false => fun _ _ => none
noncomputable def lps : List (Nat × Code) := loopsOf cfg.blk code
noncomputable def b0 : Code := bodyOf lps 0
theorem l0_eq (n : Nat) (K : St → Option R) : ∀ (j : Nat) (x0 : Int) (x1 : List (Int × Int × Int)) (x2 : List (Int)) (x3 : List (List Int)) (x4 : List (Int)) (x5 : Int), spec_RemainTable.l0 n (fun y0 => K (mkSt sout0 (y0, ()))) j x0 x1 x2 x3 x4 x5 = iter (roundK cfg (pick (cal n)) (lam n) fin 0 b0 sin0 sout0 K) j (mkSt sin0 ((x0, x1, x2, ()), x3, x4, x5, ()))
  | 0, _, _, _, _, _, _ => rfl
  | j + 1, x0, x1, x2, x3, x4, x5 => by
    have ih : spec_RemainTable.l0 n (fun y0 => K (mkSt sout0 (y0, ()))) j = fun x0 x1 x2 x3 x4 x5 => iter (roundK cfg (pick (cal n)) (lam n) fin 0 b0 sin0 sout0 K) j (mkSt sin0 ((x0, x1, x2, ()), x3, x4, x5, ())) := funext fun x0 => funext fun x1 => funext fun x2 => funext fun x3 => funext fun x4 => funext fun x5 => l0_eq n K j x0 x1 x2 x3 x4 x5
    rw [spec_RemainTable.l0, ih]
    show _ = roundK cfg (pick (cal n)) (lam n) fin 0 b0 sin0 sout0 K (iter (roundK cfg (pick (cal n)) (lam n) fin 0 b0 sin0 sout0 K) j) (mkSt sin0 ((x0, x1, x2, ()), x3, x4, x5, ()))
    kernel_rfl
theorem loops (n : Nat) : LoopsOk cfg (pick (cal n)) (lam n) fin (loopsOf cfg.blk code) := by
  have h : loopsOf cfg.blk code = [(0, b0)] := by kernel_rfl
  rw [h]
  intro p hp K st r hr
  simp only [List.mem_cons, List.not_mem_nil, or_false] at hp
  rcases hp with rfl
  · have hr' : (match absSt sin0 st with | some (x, _) => spec_RemainTable.l0 n (fun y0 => K (mkSt sout0 (y0, ()))) n x.1.1 x.1.2.1 x.1.2.2.1 x.2.1 x.2.2.1 x.2.2.2.1 | none => none) = some r := hr
    split at hr'
    · rename_i x es hx
      rw [l0_eq] at hr'
      exact ⟨sin0, sout0, n, x, es, hx, hr'⟩
    · cases hr'
theorem F_eq (n : Nat) (x0 : Int) (x1 : List (Int × Int × Int)) (x2 : List (Int)) : spec_RemainTable.F n x0 x1 x2 = exK cfg (pick (cal n)) (lam n) fin code (fun _ _ => none) (mkSt shp ((x0, x1, x2, ()), ())) fin := by
  kernel_rfl
def pfn (n : Nat) : PFn := mkFn shp outs (fun x => spec_RemainTable.F n x.1.1 x.1.2.1 x.1.2.2.1) out
theorem ok (n : Nat) : (pfn n).Ok Go.Proofs.Try.prog 6 :=
  mkFn_ok (fn := Go.Proofs.Try.f6) (code := code) Go.Proofs.Try.func6 (by kernel_rfl) (by decide) (C := cfg) (Φ := pick (cal n)) (Λ := lam n) (into := into) hT (cal_ok n) (by kernel_rfl) rfl (by decide) rfl (fun _ => rfl) (loops n)
    (fun x r h => by
      have e := F_eq n x.1.1 x.1.2.1 x.1.2.2.1
      exact e.symm.trans h)
end spec_RemainTable
end
/-! ### loop.example/g01158/impl.within -/
section
namespace impl_within
noncomputable def code : Code := (Go.Proofs.Try.f46.body).getD .skip
abbrev shp : Shape := [(0, .one (.int .i64)), (1, .one (.int .i64)), (2, .one (.int .i64))]
abbrev outs : List KD := [.one (.bool)]
abbrev R : Type := Bool
def out : R → denL outs := fun r => (r, ())
def into : denL outs → R := fun y => y.1
def cfg : Cfg := ⟨ty, 15, [], fun _ => .plain, fun _ => none⟩
def cal (n : Nat) : List (Nat × PFn) := []
theorem cal_ok (n : Nat) : ∀ g, (pick (cal n) g).Ok Go.Proofs.Try.prog g := pick_ok (by
  intro p hp
  cases hp)
def fin : St → Option R := finOf ty [.tmp 6] outs into
def lam (n : Nat) : Nat → (St → Option R) → St → Option R := fun _ => fun _ _ => none
theorem loops (n : Nat) : LoopsOk cfg (pick (cal n)) (lam n) fin (loopsOf cfg.blk code) := by
  have h : loopsOf cfg.blk code = [] := by kernel_rfl
  rw [h]
  intro p hp
  cases hp
theorem F_eq (n : Nat) (x0 : Int) (x1 : Int) (x2 : Int) : impl_within.F n x0 x1 x2 = exK cfg (pick (cal n)) (lam n) fin code (fun _ _ => none) (mkSt shp (x0, x1, x2, ())) fin := by
  kernel_rfl
def pfn (n : Nat) : PFn := mkFn shp outs (fun x => impl_within.F n x.1 x.2.1 x.2.2.1) out
theorem ok (n : Nat) : (pfn n).Ok Go.Proofs.Try.prog 46 :=
  mkFn_ok (fn := Go.Proofs.Try.f46) (code := code) Go.Proofs.Try.func46 (by kernel_rfl) (by decide) (C := cfg) (Φ := pick (cal n)) (Λ := lam n) (into := into) hT (cal_ok n) (by kernel_rfl) rfl (by decide) rfl (fun _ => rfl) (loops n)
    (fun x r h => by
      have e := F_eq n x.1 x.2.1 x.2.2.1
      exact e.symm.trans h)
end impl_within
end
/-! ### loop.example/g01158/impl.isSet -/
section
namespace impl_isSet
noncomputable def code : Code := (Go.Proofs.Try.f47.body).getD .skip
abbrev shp : Shape := [(0, .one (.int .i64))]
abbrev outs : List KD := [.one (.bool)]
abbrev R : Type := Bool
def out : R → denL outs := fun r => (r, ())
def into : denL outs → R := fun y => y.1
def cfg : Cfg := ⟨ty, 5, [], fun _ => .plain, fun _ => none⟩
def cal (n : Nat) : List (Nat × PFn) := [(46, impl_within.pfn n)]
theorem cal_ok (n : Nat) : ∀ g, (pick (cal n) g).Ok Go.Proofs.Try.prog g := pick_ok (by
  intro p hp
  simp only [cal, List.mem_cons, List.not_mem_nil, or_false] at hp
  rcases hp with rfl
  · exact impl_within.ok n)
def fin : St → Option R := finOf ty [.tmp 2] outs into
def lam (n : Nat) : Nat → (St → Option R) → St → Option R := fun _ => fun _ _ => none
theorem loops (n : Nat) : LoopsOk cfg (pick (cal n)) (lam n) fin (loopsOf cfg.blk code) := by
  have h : loopsOf cfg.blk code = [] := by kernel_rfl
  rw [h]
  intro p hp
  cases hp
theorem F_eq (n : Nat) (x0 : Int) : impl_isSet.F n x0 = exK cfg (pick (cal n)) (lam n) fin code (fun _ _ => none) (mkSt shp (x0, ())) fin := by
  kernel_rfl
def pfn (n : Nat) : PFn := mkFn shp outs (fun x => impl_isSet.F n x.1) out
theorem ok (n : Nat) : (pfn n).Ok Go.Proofs.Try.prog 47 :=
  mkFn_ok (fn := Go.Proofs.Try.f47) (code := code) Go.Proofs.Try.func47 (by kernel_rfl) (by decide) (C := cfg) (Φ := pick (cal n)) (Λ := lam n) (into := into) hT (cal_ok n) (by kernel_rfl) rfl (by decide) rfl (fun _ => rfl) (loops n)
    (fun x r h => by
      have e := F_eq n x.1
      exact e.symm.trans h)
end impl_isSet
end
/-! ### cmp.isNaN[int] -/
section
namespace cmp_isNaN_int
noncomputable def code : Code := (Go.Proofs.Try.f95.body).getD .skip
abbrev shp : Shape := [(0, .one (.int .i64))]
abbrev outs : List KD := [.one (.bool)]
abbrev R : Type := Bool
def out : R → denL outs := fun r => (r, ())
def into : denL outs → R := fun y => y.1
def cfg : Cfg := ⟨ty, 6, [], fun _ => .plain, fun _ => none⟩
def cal (n : Nat) : List (Nat × PFn) := []
theorem cal_ok (n : Nat) : ∀ g, (pick (cal n) g).Ok Go.Proofs.Try.prog g := pick_ok (by
  intro p hp
  cases hp)
def fin : St → Option R := finOf ty [.tmp 2] outs into
def lam (n : Nat) : Nat → (St → Option R) → St → Option R := fun _ => fun _ _ => none
theorem loops (n : Nat) : LoopsOk cfg (pick (cal n)) (lam n) fin (loopsOf cfg.blk code) := by
  have h : loopsOf cfg.blk code = [] := by kernel_rfl
  rw [h]
  intro p hp
  cases hp
theorem F_eq (n : Nat) (x0 : Int) : cmp_isNaN_int.F n x0 = exK cfg (pick (cal n)) (lam n) fin code (fun _ _ => none) (mkSt shp (x0, ())) fin := by
  kernel_rfl
def pfn (n : Nat) : PFn := mkFn shp outs (fun x => cmp_isNaN_int.F n x.1) out
theorem ok (n : Nat) : (pfn n).Ok Go.Proofs.Try.prog 95 :=
  mkFn_ok (fn := Go.Proofs.Try.f95) (code := code) Go.Proofs.Try.func95 (by kernel_rfl) (by decide) (C := cfg) (Φ := pick (cal n)) (Λ := lam n) (into := into) hT (cal_ok n) (by kernel_rfl) rfl (by decide) rfl (fun _ => rfl) (loops n)
    (fun x r h => by
      have e := F_eq n x.1
      exact e.symm.trans h)
end cmp_isNaN_int
end
/-! ### cmp.Compare[int] -/
section
namespace cmp_Compare_int
noncomputable def code : Code := (Go.Proofs.Try.f81.body).getD .skip
abbrev shp : Shape := [(0, .one (.int .i64)), (1, .one (.int .i64))]
abbrev outs : List KD := [.one (.int .i64)]
abbrev R : Type := Int
def out : R → denL outs := fun r => (r, ())
def into : denL outs → R := fun y => y.1
def cfg : Cfg := ⟨ty, 20, [], fun _ => .plain, fun _ => none⟩
def cal (n : Nat) : List (Nat × PFn) := [(95, cmp_isNaN_int.pfn n)]
theorem cal_ok (n : Nat) : ∀ g, (pick (cal n) g).Ok Go.Proofs.Try.prog g := pick_ok (by
  intro p hp
  simp only [cal, List.mem_cons, List.not_mem_nil, or_false] at hp
  rcases hp with rfl
  · exact cmp_isNaN_int.ok n)
def fin : St → Option R := finOf ty [.tmp 4] outs into
def lam (n : Nat) : Nat → (St → Option R) → St → Option R := fun _ => fun _ _ => none
theorem loops (n : Nat) : LoopsOk cfg (pick (cal n)) (lam n) fin (loopsOf cfg.blk code) := by
  have h : loopsOf cfg.blk code = [] := by kernel_rfl
  rw [h]
  intro p hp
  cases hp
theorem F_eq (n : Nat) (x0 : Int) (x1 : Int) : cmp_Compare_int.F n x0 x1 = exK cfg (pick (cal n)) (lam n) fin code (fun _ _ => none) (mkSt shp (x0, x1, ())) fin := by
  kernel_rfl
def pfn (n : Nat) : PFn := mkFn shp outs (fun x => cmp_Compare_int.F n x.1 x.2.1) out
theorem ok (n : Nat) : (pfn n).Ok Go.Proofs.Try.prog 81 :=
  mkFn_ok (fn := Go.Proofs.Try.f81) (code := code) Go.Proofs.Try.func81 (by kernel_rfl) (by decide) (C := cfg) (Φ := pick (cal n)) (Λ := lam n) (into := into) hT (cal_ok n) (by kernel_rfl) rfl (by decide) rfl (fun _ => rfl) (loops n)
    (fun x r h => by
      have e := F_eq n x.1 x.2.1
      exact e.symm.trans h)
end cmp_Compare_int
end
/-! ### cmp.Or[int] -/
section
namespace cmp_Or_int
noncomputable def code : Code := (Go.Proofs.Try.f80.body).getD .skip
abbrev shp : Shape := [(0, .one (.row (.int .i64) false))]
abbrev outs : List KD := [.one (.int .i64)]
abbrev R : Type := Int
def out : R → denL outs := fun r => (r, ())
def into : denL outs → R := fun y => y.1
def cfg : Cfg := ⟨ty, 18, [], fun i => match Nat.beq i 0 with | true => .loop | false => .plain, fun _ => none⟩
def cal (n : Nat) : List (Nat × PFn) := []
theorem cal_ok (n : Nat) : ∀ g, (pick (cal n) g).Ok Go.Proofs.Try.prog g := pick_ok (by
  intro p hp
  cases hp)
def fin : St → Option R := finOf ty [.tmp 2] outs into
abbrev sin0 : Shape := [(3, .one (.int .i64)), (6, .one (.row (.int .i64) false)), (7, .one (.int .i64)), (8, .one (.int .i64))]
abbrev sout0 : Shape := [(3, .one (.int .i64))]
def lam (n : Nat) : Nat → (St → Option R) → St → Option R := fun i => match Nat.beq i 0 with | true => (fun K st => match absSt sin0 st with | some (x, _) => cmp_Or_int.l0 n (fun y0 => K (mkSt sout0 (y0, ()))) n x.1 x.2.1 x.2.2.1 x.2.2.2.1 | none => none) | false => fun _ _ => none
noncomputable def lps : List (Nat × Code) := loopsOf cfg.blk code
noncomputable def b0 : Code := bodyOf lps 0
theorem l0_eq (n : Nat) (K : St → Option R) : ∀ (j : Nat) (x0 : Int) (x1 : List (Int)) (x2 : Int) (x3 : Int), cmp_Or_int.l0 n (fun y0 => K (mkSt sout0 (y0, ()))) j x0 x1 x2 x3 = iter (roundK cfg (pick (cal n)) (lam n) fin 0 b0 sin0 sout0 K) j (mkSt sin0 (x0, x1, x2, x3, ()))
  | 0, _, _, _, _ => rfl
  | j + 1, x0, x1, x2, x3 => by
    have ih : cmp_Or_int.l0 n (fun y0 => K (mkSt sout0 (y0, ()))) j = fun x0 x1 x2 x3 => iter (roundK cfg (pick (cal n)) (lam n) fin 0 b0 sin0 sout0 K) j (mkSt sin0 (x0, x1, x2, x3, ())) := funext fun x0 => funext fun x1 => funext fun x2 => funext fun x3 => l0_eq n K j x0 x1 x2 x3
    rw [cmp_Or_int.l0, ih]
    show _ = roundK cfg (pick (cal n)) (lam n) fin 0 b0 sin0 sout0 K (iter (roundK cfg (pick (cal n)) (lam n) fin 0 b0 sin0 sout0 K) j) (mkSt sin0 (x0, x1, x2, x3, ()))
    kernel_rfl
theorem loops (n : Nat) : LoopsOk cfg (pick (cal n)) (lam n) fin (loopsOf cfg.blk code) := by
  have h : loopsOf cfg.blk code = [(0, b0)] := by kernel_rfl
  rw [h]
  intro p hp K st r hr
  simp only [List.mem_cons, List.not_mem_nil, or_false] at hp
  rcases hp with rfl
  · have hr' : (match absSt sin0 st with | some (x, _) => cmp_Or_int.l0 n (fun y0 => K (mkSt sout0 (y0, ()))) n x.1 x.2.1 x.2.2.1 x.2.2.2.1 | none => none) = some r := hr
    split at hr'
    · rename_i x es hx
      rw [l0_eq] at hr'
      exact ⟨sin0, sout0, n, x, es, hx, hr'⟩
    · cases hr'
theorem F_eq (n : Nat) (x0 : List (Int)) : cmp_Or_int.F n x0 = exK cfg (pick (cal n)) (lam n) fin code (fun _ _ => none) (mkSt shp (x0, ())) fin := by
  kernel_rfl
def pfn (n : Nat) : PFn := mkFn shp outs (fun x => cmp_Or_int.F n x.1) out
theorem ok (n : Nat) : (pfn n).Ok Go.Proofs.Try.prog 80 :=
  mkFn_ok (fn := Go.Proofs.Try.f80) (code := code) Go.Proofs.Try.func80 (by kernel_rfl) (by decide) (C := cfg) (Φ := pick (cal n)) (Λ := lam n) (into := into) hT (cal_ok n) (by kernel_rfl) rfl (by decide) rfl (fun _ => rfl) (loops n)
    (fun x r h => by
      have e := F_eq n x.1
      exact e.symm.trans h)
end cmp_Or_int
end
/-! ### loop.example/g01158/impl.compareDoors -/
section
namespace impl_compareDoors
noncomputable def code : Code := (Go.Proofs.Try.f48.body).getD .skip
abbrev shp : Shape := [(0, .agg [.int .i64, .int .i64, .int .i64]), (1, .agg [.int .i64, .int .i64, .int .i64])]
abbrev outs : List KD := [.one (.int .i64)]
abbrev R : Type := Int
def out : R → denL outs := fun r => (r, ())
def into : denL outs → R := fun y => y.1
def cfg : Cfg := ⟨ty, 22, [], fun _ => .plain, fun _ => none⟩
def cal (n : Nat) : List (Nat × PFn) := [(80, cmp_Or_int.pfn n), (81, cmp_Compare_int.pfn n)]
theorem cal_ok (n : Nat) : ∀ g, (pick (cal n) g).Ok Go.Proofs.Try.prog g := pick_ok (by
  intro p hp
  simp only [cal, List.mem_cons, List.not_mem_nil, or_false] at hp
  rcases hp with rfl | rfl
  · exact cmp_Or_int.ok n
  · exact cmp_Compare_int.ok n)
def fin : St → Option R := finOf ty [.tmp 4] outs into
def lam (n : Nat) : Nat → (St → Option R) → St → Option R := fun _ => fun _ _ => none
theorem loops (n : Nat) : LoopsOk cfg (pick (cal n)) (lam n) fin (loopsOf cfg.blk code) := by
  have h : loopsOf cfg.blk code = [] := by kernel_rfl
  rw [h]
  intro p hp
  cases hp
theorem F_eq (n : Nat) (x0 : Int) (x1 : Int) (x2 : Int) (x3 : Int) (x4 : Int) (x5 : Int) : impl_compareDoors.F n x0 x1 x2 x3 x4 x5 = exK cfg (pick (cal n)) (lam n) fin code (fun _ _ => none) (mkSt shp ((x0, x1, x2, ()), (x3, x4, x5, ()), ())) fin := by
  kernel_rfl
def pfn (n : Nat) : PFn := mkFn shp outs (fun x => impl_compareDoors.F n x.1.1 x.1.2.1 x.1.2.2.1 x.2.1.1 x.2.1.2.1 x.2.1.2.2.1) out
theorem ok (n : Nat) : (pfn n).Ok Go.Proofs.Try.prog 48 :=
  mkFn_ok (fn := Go.Proofs.Try.f48) (code := code) Go.Proofs.Try.func48 (by kernel_rfl) (by decide) (C := cfg) (Φ := pick (cal n)) (Λ := lam n) (into := into) hT (cal_ok n) (by kernel_rfl) rfl (by decide) rfl (fun _ => rfl) (loops n)
    (fun x r h => by
      have e := F_eq n x.1.1 x.1.2.1 x.1.2.2.1 x.2.1.1 x.2.1.2.1 x.2.1.2.2.1
      exact e.symm.trans h)
end impl_compareDoors
end
/-! ### loop.example/g01158/impl.IsMaze$1 -/
section
namespace impl_IsMaze_1
noncomputable def code : Code := (Go.Proofs.Try.f50.body).getD .skip
abbrev shp : Shape := [(0, .one (.int .i64))]
abbrev outs : List KD := [.one (.bool)]
abbrev R : Type := Bool
def out : R → denL outs := fun r => (r, ())
def into : denL outs → R := fun y => y.1
def cfg : Cfg := ⟨ty, 6, [], fun _ => .plain, fun _ => none⟩
def cal (n : Nat) : List (Nat × PFn) := [(47, impl_isSet.pfn n)]
theorem cal_ok (n : Nat) : ∀ g, (pick (cal n) g).Ok Go.Proofs.Try.prog g := pick_ok (by
  intro p hp
  simp only [cal, List.mem_cons, List.not_mem_nil, or_false] at hp
  rcases hp with rfl
  · exact impl_isSet.ok n)
def fin : St → Option R := finOf ty [.tmp 2] outs into
def lam (n : Nat) : Nat → (St → Option R) → St → Option R := fun _ => fun _ _ => none
theorem loops (n : Nat) : LoopsOk cfg (pick (cal n)) (lam n) fin (loopsOf cfg.blk code) := by
  have h : loopsOf cfg.blk code = [] := by kernel_rfl
  rw [h]
  intro p hp
  cases hp
theorem F_eq (n : Nat) (x0 : Int) : impl_IsMaze_1.F n x0 = exK cfg (pick (cal n)) (lam n) fin code (fun _ _ => none) (mkSt shp (x0, ())) fin := by
  kernel_rfl
def pfn (n : Nat) : PFn := mkFn shp outs (fun x => impl_IsMaze_1.F n x.1) out
theorem ok (n : Nat) : (pfn n).Ok Go.Proofs.Try.prog 50 :=
  mkFn_ok (fn := Go.Proofs.Try.f50) (code := code) Go.Proofs.Try.func50 (by kernel_rfl) (by decide) (C := cfg) (Φ := pick (cal n)) (Λ := lam n) (into := into) hT (cal_ok n) (by kernel_rfl) rfl (by decide) rfl (fun _ => rfl) (loops n)
    (fun x r h => by
      have e := F_eq n x.1
      exact e.symm.trans h)
end impl_IsMaze_1
end
/-! ### slices.IndexFunc[[]int,int] -/
section
namespace slices_IndexFunc_int_int_cIsMaze_1
noncomputable def code : Code := (Go.Proofs.Try.f55.body).getD .skip
abbrev shp : Shape := [(0, .one (.row (.int .i64) false)), (1, .fn 50 [])]
abbrev outs : List KD := [.one (.int .i64)]
abbrev R : Type := Int
def out : R → denL outs := fun r => (r, ())
def into : denL outs → R := fun y => y.1
def cfg : Cfg := ⟨ty, 19, [], fun i => match Nat.beq i 0 with | true => .loop | false => .plain, fun _ => none⟩
def cal (n : Nat) : List (Nat × PFn) := [(50, impl_IsMaze_1.pfn n)]
theorem cal_ok (n : Nat) : ∀ g, (pick (cal n) g).Ok Go.Proofs.Try.prog g := pick_ok (by
  intro p hp
  simp only [cal, List.mem_cons, List.not_mem_nil, or_false] at hp
  rcases hp with rfl
  · exact impl_IsMaze_1.ok n)
def fin : St → Option R := finOf ty [.tmp 4] outs into
abbrev sin0 : Shape := [(0, .one (.row (.int .i64) false)), (1, .fn 50 []), (7, .one (.int .i64)), (8, .one (.int .i64))]
abbrev sout0 : Shape := []
def lam (n : Nat) : Nat → (St → Option R) → St → Option R := fun i => match Nat.beq i 0 with | true => (fun K st => match absSt sin0 st with | some (x, _) => slices_IndexFunc_int_int_cIsMaze_1.l0 n (fun _ => K (mkSt sout0 ())) n x.1 x.2.2.1 x.2.2.2.1 | none => none) | false => fun _ _ => none
noncomputable def lps : List (Nat × Code) := loopsOf cfg.blk code
noncomputable def b0 : Code := bodyOf lps 0
theorem l0_eq (n : Nat) (K : St → Option R) : ∀ (j : Nat) (x0 : List (Int)) (x1 : Int) (x2 : Int), slices_IndexFunc_int_int_cIsMaze_1.l0 n (fun _ => K (mkSt sout0 ())) j x0 x1 x2 = iter (roundK cfg (pick (cal n)) (lam n) fin 0 b0 sin0 sout0 K) j (mkSt sin0 (x0, (), x1, x2, ()))
  | 0, _, _, _ => rfl
  | j + 1, x0, x1, x2 => by
    have ih : slices_IndexFunc_int_int_cIsMaze_1.l0 n (fun _ => K (mkSt sout0 ())) j = fun x0 x1 x2 => iter (roundK cfg (pick (cal n)) (lam n) fin 0 b0 sin0 sout0 K) j (mkSt sin0 (x0, (), x1, x2, ())) := funext fun x0 => funext fun x1 => funext fun x2 => l0_eq n K j x0 x1 x2
    rw [slices_IndexFunc_int_int_cIsMaze_1.l0, ih]
    show _ = roundK cfg (pick (cal n)) (lam n) fin 0 b0 sin0 sout0 K (iter (roundK cfg (pick (cal n)) (lam n) fin 0 b0 sin0 sout0 K) j) (mkSt sin0 (x0, (), x1, x2, ()))
    kernel_rfl
theorem loops (n : Nat) : LoopsOk cfg (pick (cal n)) (lam n) fin (loopsOf cfg.blk code) := by
  have h : loopsOf cfg.blk code = [(0, b0)] := by kernel_rfl
  rw [h]
  intro p hp K st r hr
  simp only [List.mem_cons, List.not_mem_nil, or_false] at hp
  rcases hp with rfl
  · have hr' : (match absSt sin0 st with | some (x, _) => slices_IndexFunc_int_int_cIsMaze_1.l0 n (fun _ => K (mkSt sout0 ())) n x.1 x.2.2.1 x.2.2.2.1 | none => none) = some r := hr
    split at hr'
    · rename_i x es hx
      rw [l0_eq] at hr'
      exact ⟨sin0, sout0, n, x, es, hx, hr'⟩
    · cases hr'
theorem F_eq (n : Nat) (x0 : List (Int)) : slices_IndexFunc_int_int_cIsMaze_1.F n x0 = exK cfg (pick (cal n)) (lam n) fin code (fun _ _ => none) (mkSt shp (x0, (), ())) fin := by
  kernel_rfl
def pfn (n : Nat) : PFn := mkFn shp outs (fun x => slices_IndexFunc_int_int_cIsMaze_1.F n x.1) out
theorem ok (n : Nat) : (pfn n).Ok Go.Proofs.Try.prog 55 :=
  mkFn_ok (fn := Go.Proofs.Try.f55) (code := code) Go.Proofs.Try.func55 (by kernel_rfl) (by decide) (C := cfg) (Φ := pick (cal n)) (Λ := lam n) (into := into) hT (cal_ok n) (by kernel_rfl) rfl (by decide) rfl (fun _ => rfl) (loops n)
    (fun x r h => by
      have e := F_eq n x.1
      exact e.symm.trans h)
end slices_IndexFunc_int_int_cIsMaze_1
end
/-! ### slices.ContainsFunc[[]int,int] -/
section
namespace slices_ContainsFunc_int_int_cIsMaze_1
noncomputable def code : Code := (Go.Proofs.Try.f49.body).getD .skip
abbrev shp : Shape := [(0, .one (.row (.int .i64) false)), (1, .fn 50 [])]
abbrev outs : List KD := [.one (.bool)]
abbrev R : Type := Bool
def out : R → denL outs := fun r => (r, ())
def into : denL outs → R := fun y => y.1
def cfg : Cfg := ⟨ty, 9, [], fun _ => .plain, fun _ => none⟩
def cal (n : Nat) : List (Nat × PFn) := [(55, slices_IndexFunc_int_int_cIsMaze_1.pfn n)]
theorem cal_ok (n : Nat) : ∀ g, (pick (cal n) g).Ok Go.Proofs.Try.prog g := pick_ok (by
  intro p hp
  simp only [cal, List.mem_cons, List.not_mem_nil, or_false] at hp
  rcases hp with rfl
  · exact slices_IndexFunc_int_int_cIsMaze_1.ok n)
def fin : St → Option R := finOf ty [.tmp 4] outs into
def lam (n : Nat) : Nat → (St → Option R) → St → Option R := fun _ => fun _ _ => none
theorem loops (n : Nat) : LoopsOk cfg (pick (cal n)) (lam n) fin (loopsOf cfg.blk code) := by
  have h : loopsOf cfg.blk code = [] := by kernel_rfl
  rw [h]
  intro p hp
  cases hp
theorem F_eq (n : Nat) (x0 : List (Int)) : slices_ContainsFunc_int_int_cIsMaze_1.F n x0 = exK cfg (pick (cal n)) (lam n) fin code (fun _ _ => none) (mkSt shp (x0, (), ())) fin := by
  kernel_rfl
def pfn (n : Nat) : PFn := mkFn shp outs (fun x => slices_ContainsFunc_int_int_cIsMaze_1.F n x.1) out
theorem ok (n : Nat) : (pfn n).Ok Go.Proofs.Try.prog 49 :=
  mkFn_ok (fn := Go.Proofs.Try.f49) (code := code) Go.Proofs.Try.func49 (by kernel_rfl) (by decide) (C := cfg) (Φ := pick (cal n)) (Λ := lam n) (into := into) hT (cal_ok n) (by kernel_rfl) rfl (by decide) rfl (fun _ => rfl) (loops n)
    (fun x r h => by
      have e := F_eq n x.1
      exact e.symm.trans h)
end slices_ContainsFunc_int_int_cIsMaze_1
end
/-! ### loop.example/g01158/impl.IsMaze -/
section
namespace impl_IsMaze
noncomputable def code : Code := (Go.Proofs.Try.f16.body).getD .skip
abbrev shp : Shape := [(0, .agg [.int .i64, .row (.t3) false, .row (.int .i64) false])]
abbrev outs : List KD := [.one (.bool)]
abbrev R : Type := Bool
def out : R → denL outs := fun r => (r, ())
def into : denL outs → R := fun y => y.1
def cfg : Cfg := ⟨ty, 74, [], fun i => match Nat.beq i 0 with | true => .loop | false => .plain, fun i => match Nat.beq i 3 with | true => some [(1, .box true [.int .i64, .row (.t3) false, .row (.int .i64) false])] | false => none⟩
def cal (n : Nat) : List (Nat × PFn) := [(46, impl_within.pfn n), (47, impl_isSet.pfn n), (48, impl_compareDoors.pfn n), (49, slices_ContainsFunc_int_int_cIsMaze_1.pfn n)]
theorem cal_ok (n : Nat) : ∀ g, (pick (cal n) g).Ok Go.Proofs.Try.prog g := pick_ok (by
  intro p hp
  simp only [cal, List.mem_cons, List.not_mem_nil, or_false] at hp
  rcases hp with rfl | rfl | rfl | rfl
  · exact impl_within.ok n
  · exact impl_isSet.ok n
  · exact impl_compareDoors.ok n
  · exact slices_ContainsFunc_int_int_cIsMaze_1.ok n)
def fin : St → Option R := finOf ty [.tmp 2] outs into
abbrev sin0 : Shape := [(1, .box true [.int .i64, .row (.t3) false, .row (.int .i64) false]), (24, .one (.ref 1)), (25, .one (.int .i64)), (26, .one (.int .i64))]
abbrev sout0 : Shape := [(1, .box true [.int .i64, .row (.t3) false, .row (.int .i64) false])]
def lam (n : Nat) : Nat → (St → Option R) → St → Option R := fun i => match Nat.beq i 0 with | true => (fun K st => match absSt sin0 st with | some (x, _) => impl_IsMaze.l0 n (fun y0 y1 y2 => K (mkSt sout0 ((y0, y1, y2, ()), ()))) n x.1.1 x.1.2.1 x.1.2.2.1 x.2.2.1 x.2.2.2.1 | none => none) | false => fun _ _ => none
noncomputable def lps : List (Nat × Code) := loopsOf cfg.blk code
noncomputable def b0 : Code := bodyOf lps 0
theorem l0_eq (n : Nat) (K : St → Option R) : ∀ (j : Nat) (x0 : Int) (x1 : List (Int × Int × Int)) (x2 : List (Int)) (x3 : Int) (x4 : Int), impl_IsMaze.l0 n (fun y0 y1 y2 => K (mkSt sout0 ((y0, y1, y2, ()), ()))) j x0 x1 x2 x3 x4 = iter (roundK cfg (pick (cal n)) (lam n) fin 0 b0 sin0 sout0 K) j (mkSt sin0 ((x0, x1, x2, ()), (), x3, x4, ()))
  | 0, _, _, _, _, _ => rfl
  | j + 1, x0, x1, x2, x3, x4 => by
    have ih : impl_IsMaze.l0 n (fun y0 y1 y2 => K (mkSt sout0 ((y0, y1, y2, ()), ()))) j = fun x0 x1 x2 x3 x4 => iter (roundK cfg (pick (cal n)) (lam n) fin 0 b0 sin0 sout0 K) j (mkSt sin0 ((x0, x1, x2, ()), (), x3, x4, ())) := funext fun x0 => funext fun x1 => funext fun x2 => funext fun x3 => funext fun x4 => l0_eq n K j x0 x1 x2 x3 x4
    rw [impl_IsMaze.l0, ih]
    show _ = roundK cfg (pick (cal n)) (lam n) fin 0 b0 sin0 sout0 K (iter (roundK cfg (pick (cal n)) (lam n) fin 0 b0 sin0 sout0 K) j) (mkSt sin0 ((x0, x1, x2, ()), (), x3, x4, ()))
    kernel_rfl
theorem loops (n : Nat) : LoopsOk cfg (pick (cal n)) (lam n) fin (loopsOf cfg.blk code) := by
  have h : loopsOf cfg.blk code = [(0, b0)] := by kernel_rfl
  rw [h]
  intro p hp K st r hr
  simp only [List.mem_cons, List.not_mem_nil, or_false] at hp
  rcases hp with rfl
  · have hr' : (match absSt sin0 st with | some (x, _) => impl_IsMaze.l0 n (fun y0 y1 y2 => K (mkSt sout0 ((y0, y1, y2, ()), ()))) n x.1.1 x.1.2.1 x.1.2.2.1 x.2.2.1 x.2.2.2.1 | none => none) = some r := hr
    split at hr'
    · rename_i x es hx
      rw [l0_eq] at hr'
      exact ⟨sin0, sout0, n, x, es, hx, hr'⟩
    · cases hr'
theorem F_eq (n : Nat) (x0 : Int) (x1 : List (Int × Int × Int)) (x2 : List (Int)) : impl_IsMaze.F n x0 x1 x2 = exK cfg (pick (cal n)) (lam n) fin code (fun _ _ => none) (mkSt shp ((x0, x1, x2, ()), ())) fin := by
  kernel_rfl
def pfn (n : Nat) : PFn := mkFn shp outs (fun x => impl_IsMaze.F n x.1.1 x.1.2.1 x.1.2.2.1) out
theorem ok (n : Nat) : (pfn n).Ok Go.Proofs.Try.prog 16 :=
  mkFn_ok (fn := Go.Proofs.Try.f16) (code := code) Go.Proofs.Try.func16 (by kernel_rfl) (by decide) (C := cfg) (Φ := pick (cal n)) (Λ := lam n) (into := into) hT (cal_ok n) (by kernel_rfl) rfl (by decide) rfl (fun _ => rfl) (loops n)
    (fun x r h => by
      have e := F_eq n x.1.1 x.1.2.1 x.1.2.2.1
      exact e.symm.trans h)
end impl_IsMaze
end
/-! ### loop.example/g01158/impl.has -/
section
namespace impl_has
noncomputable def code : Code := (Go.Proofs.Try.f70.body).getD .skip
abbrev shp : Shape := [(0, .one (.int .i64)), (1, .one (.int .i64))]
abbrev outs : List KD := [.one (.bool)]
abbrev R : Type := Bool
def out : R → denL outs := fun r => (r, ())
def into : denL outs → R := fun y => y.1
def cfg : Cfg := ⟨ty, 9, [], fun _ => .plain, fun _ => none⟩
def cal (n : Nat) : List (Nat × PFn) := []
theorem cal_ok (n : Nat) : ∀ g, (pick (cal n) g).Ok Go.Proofs.Try.prog g := pick_ok (by
  intro p hp
  cases hp)
def fin : St → Option R := finOf ty [.tmp 4] outs into
def lam (n : Nat) : Nat → (St → Option R) → St → Option R := fun _ => fun _ _ => none
theorem loops (n : Nat) : LoopsOk cfg (pick (cal n)) (lam n) fin (loopsOf cfg.blk code) := by
  have h : loopsOf cfg.blk code = [] := by kernel_rfl
  rw [h]
  intro p hp
  cases hp
theorem F_eq (n : Nat) (x0 : Int) (x1 : Int) : impl_has.F n x0 x1 = exK cfg (pick (cal n)) (lam n) fin code (fun _ _ => none) (mkSt shp (x0, x1, ())) fin := by
  kernel_rfl
def pfn (n : Nat) : PFn := mkFn shp outs (fun x => impl_has.F n x.1 x.2.1) out
theorem ok (n : Nat) : (pfn n).Ok Go.Proofs.Try.prog 70 :=
  mkFn_ok (fn := Go.Proofs.Try.f70) (code := code) Go.Proofs.Try.func70 (by kernel_rfl) (by decide) (C := cfg) (Φ := pick (cal n)) (Λ := lam n) (into := into) hT (cal_ok n) (by kernel_rfl) rfl (by decide) rfl (fun _ => rfl) (loops n)
    (fun x r h => by
      have e := F_eq n x.1 x.2.1
      exact e.symm.trans h)
end impl_has
end
/-! ### loop.example/g01158/impl.steps -/
section
namespace impl_steps
noncomputable def code : Code := (Go.Proofs.Try.f77.body).getD .skip
abbrev shp : Shape := [(0, .agg [.int .i64, .row (.t3) false, .row (.int .i64) false]), (1, .one (.int .i64)), (2, .one (.int .i64))]
abbrev outs : List KD := [.one (.int .i64)]
abbrev R : Type := Int
def out : R → denL outs := fun r => (r, ())
def into : denL outs → R := fun y => y.1
def cfg : Cfg := ⟨ty, 42, [], fun i => match Nat.beq i 0 with | true => .loop | false => .plain, fun _ => none⟩
def cal (n : Nat) : List (Nat × PFn) := [(70, impl_has.pfn n)]
theorem cal_ok (n : Nat) : ∀ g, (pick (cal n) g).Ok Go.Proofs.Try.prog g := pick_ok (by
  intro p hp
  simp only [cal, List.mem_cons, List.not_mem_nil, or_false] at hp
  rcases hp with rfl
  · exact impl_has.ok n)
def fin : St → Option R := finOf ty [.tmp 6] outs into
abbrev sin0 : Shape := [(1, .one (.int .i64)), (2, .one (.int .i64)), (7, .one (.int .i64)), (11, .one (.row (.t3) false)), (12, .one (.int .i64)), (13, .one (.int .i64))]
abbrev sout0 : Shape := [(7, .one (.int .i64))]
def lam (n : Nat) : Nat → (St → Option R) → St → Option R := fun i => match Nat.beq i 0 with | true => (fun K st => match absSt sin0 st with | some (x, _) => impl_steps.l0 n (fun y0 => K (mkSt sout0 (y0, ()))) n x.1 x.2.1 x.2.2.1 x.2.2.2.1 x.2.2.2.2.1 x.2.2.2.2.2.1 | none => none) | false => fun _ _ => none
noncomputable def lps : List (Nat × Code) := loopsOf cfg.blk code
noncomputable def b0 : Code := bodyOf lps 0
theorem l0_eq (n : Nat) (K : St → Option R) : ∀ (j : Nat) (x0 : Int) (x1 : Int) (x2 : Int) (x3 : List (Int × Int × Int)) (x4 : Int) (x5 : Int), impl_steps.l0 n (fun y0 => K (mkSt sout0 (y0, ()))) j x0 x1 x2 x3 x4 x5 = iter (roundK cfg (pick (cal n)) (lam n) fin 0 b0 sin0 sout0 K) j (mkSt sin0 (x0, x1, x2, x3, x4, x5, ()))
  | 0, _, _, _, _, _, _ => rfl
  | j + 1, x0, x1, x2, x3, x4, x5 => by
    have ih : impl_steps.l0 n (fun y0 => K (mkSt sout0 (y0, ()))) j = fun x0 x1 x2 x3 x4 x5 => iter (roundK cfg (pick (cal n)) (lam n) fin 0 b0 sin0 sout0 K) j (mkSt sin0 (x0, x1, x2, x3, x4, x5, ())) := funext fun x0 => funext fun x1 => funext fun x2 => funext fun x3 => funext fun x4 => funext fun x5 => l0_eq n K j x0 x1 x2 x3 x4 x5
    rw [impl_steps.l0, ih]
    show _ = roundK cfg (pick (cal n)) (lam n) fin 0 b0 sin0 sout0 K (iter (roundK cfg (pick (cal n)) (lam n) fin 0 b0 sin0 sout0 K) j) (mkSt sin0 (x0, x1, x2, x3, x4, x5, ()))
    kernel_rfl
theorem loops (n : Nat) : LoopsOk cfg (pick (cal n)) (lam n) fin (loopsOf cfg.blk code) := by
  have h : loopsOf cfg.blk code = [(0, b0)] := by kernel_rfl
  rw [h]
  intro p hp K st r hr
  simp only [List.mem_cons, List.not_mem_nil, or_false] at hp
  rcases hp with rfl
  · have hr' : (match absSt sin0 st with | some (x, _) => impl_steps.l0 n (fun y0 => K (mkSt sout0 (y0, ()))) n x.1 x.2.1 x.2.2.1 x.2.2.2.1 x.2.2.2.2.1 x.2.2.2.2.2.1 | none => none) = some r := hr
    split at hr'
    · rename_i x es hx
      rw [l0_eq] at hr'
      exact ⟨sin0, sout0, n, x, es, hx, hr'⟩
    · cases hr'
theorem F_eq (n : Nat) (x0 : Int) (x1 : List (Int × Int × Int)) (x2 : List (Int)) (x3 : Int) (x4 : Int) : impl_steps.F n x0 x1 x2 x3 x4 = exK cfg (pick (cal n)) (lam n) fin code (fun _ _ => none) (mkSt shp ((x0, x1, x2, ()), x3, x4, ())) fin := by
  kernel_rfl
def pfn (n : Nat) : PFn := mkFn shp outs (fun x => impl_steps.F n x.1.1 x.1.2.1 x.1.2.2.1 x.2.1 x.2.2.1) out
theorem ok (n : Nat) : (pfn n).Ok Go.Proofs.Try.prog 77 :=
  mkFn_ok (fn := Go.Proofs.Try.f77) (code := code) Go.Proofs.Try.func77 (by kernel_rfl) (by decide) (C := cfg) (Φ := pick (cal n)) (Λ := lam n) (into := into) hT (cal_ok n) (by kernel_rfl) rfl (by decide) rfl (fun _ => rfl) (loops n)
    (fun x r h => by
      have e := F_eq n x.1.1 x.1.2.1 x.1.2.2.1 x.2.1 x.2.2.1
      exact e.symm.trans h)
end impl_steps
end
/-! ### loop.example/g01158/impl.members -/
section
namespace impl_members
noncomputable def code : Code := (Go.Proofs.Try.f76.body).getD .skip
abbrev shp : Shape := [(0, .one (.int .i64))]
abbrev outs : List KD := [.one (.row (.int .i64) true)]
abbrev R : Type := (List (Int))
def out : R → denL outs := fun r => (r, ())
def into : denL outs → R := fun y => y.1
def cfg : Cfg := ⟨ty, 22, [], fun i => match Nat.beq i 0 with | true => .loop | false => .plain, fun _ => none⟩
def cal (n : Nat) : List (Nat × PFn) := []
theorem cal_ok (n : Nat) : ∀ g, (pick (cal n) g).Ok Go.Proofs.Try.prog g := pick_ok (by
  intro p hp
  cases hp)
def fin : St → Option R := finOf ty [.tmp 2] outs into
abbrev sin0 : Shape := [(0, .one (.int .i64)), (3, .one (.row (.int .i64) true)), (4, .one (.int .i64))]
abbrev sout0 : Shape := [(3, .one (.row (.int .i64) true))]
def lam (n : Nat) : Nat → (St → Option R) → St → Option R := fun i => match Nat.beq i 0 with | true => (fun K st => match absSt sin0 st with | some (x, _) => impl_members.l0 n (fun y0 => K (mkSt sout0 (y0, ()))) n x.1 x.2.1 x.2.2.1 | none => none) | false => fun _ _ => none
noncomputable def lps : List (Nat × Code) := loopsOf cfg.blk code
noncomputable def b0 : Code := bodyOf lps 0
theorem l0_eq (n : Nat) (K : St → Option R) : ∀ (j : Nat) (x0 : Int) (x1 : List (Int)) (x2 : Int), impl_members.l0 n (fun y0 => K (mkSt sout0 (y0, ()))) j x0 x1 x2 = iter (roundK cfg (pick (cal n)) (lam n) fin 0 b0 sin0 sout0 K) j (mkSt sin0 (x0, x1, x2, ()))
  | 0, _, _, _ => rfl
  | j + 1, x0, x1, x2 => by
    have ih : impl_members.l0 n (fun y0 => K (mkSt sout0 (y0, ()))) j = fun x0 x1 x2 => iter (roundK cfg (pick (cal n)) (lam n) fin 0 b0 sin0 sout0 K) j (mkSt sin0 (x0, x1, x2, ())) := funext fun x0 => funext fun x1 => funext fun x2 => l0_eq n K j x0 x1 x2
    rw [impl_members.l0, ih]
    show _ = roundK cfg (pick (cal n)) (lam n) fin 0 b0 sin0 sout0 K (iter (roundK cfg (pick (cal n)) (lam n) fin 0 b0 sin0 sout0 K) j) (mkSt sin0 (x0, x1, x2, ()))
    kernel_rfl
theorem loops (n : Nat) : LoopsOk cfg (pick (cal n)) (lam n) fin (loopsOf cfg.blk code) := by
  have h : loopsOf cfg.blk code = [(0, b0)] := by kernel_rfl
  rw [h]
  intro p hp K st r hr
  simp only [List.mem_cons, List.not_mem_nil, or_false] at hp
  rcases hp with rfl
  · have hr' : (match absSt sin0 st with | some (x, _) => impl_members.l0 n (fun y0 => K (mkSt sout0 (y0, ()))) n x.1 x.2.1 x.2.2.1 | none => none) = some r := hr
    split at hr'
    · rename_i x es hx
      rw [l0_eq] at hr'
      exact ⟨sin0, sout0, n, x, es, hx, hr'⟩
    · cases hr'
theorem F_eq (n : Nat) (x0 : Int) : impl_members.F n x0 = exK cfg (pick (cal n)) (lam n) fin code (fun _ _ => none) (mkSt shp (x0, ())) fin := by
  kernel_rfl
def pfn (n : Nat) : PFn := mkFn shp outs (fun x => impl_members.F n x.1) out
theorem ok (n : Nat) : (pfn n).Ok Go.Proofs.Try.prog 76 :=
  mkFn_ok (fn := Go.Proofs.Try.f76) (code := code) Go.Proofs.Try.func76 (by kernel_rfl) (by decide) (C := cfg) (Φ := pick (cal n)) (Λ := lam n) (into := into) hT (cal_ok n) (by kernel_rfl) rfl (by decide) rfl (fun _ => rfl) (loops n)
    (fun x r h => by
      have e := F_eq n x.1
      exact e.symm.trans h)
end impl_members
end
/-! ### loop.example/g01158/impl.better -/
section
namespace impl_better
noncomputable def code : Code := (Go.Proofs.Try.f78.body).getD .skip
abbrev shp : Shape := [(0, .one (.int .i64)), (1, .one (.int .i64))]
abbrev outs : List KD := [.one (.bool)]
abbrev R : Type := Bool
def out : R → denL outs := fun r => (r, ())
def into : denL outs → R := fun y => y.1
def cfg : Cfg := ⟨ty, 16, [], fun _ => .plain, fun _ => none⟩
def cal (n : Nat) : List (Nat × PFn) := []
theorem cal_ok (n : Nat) : ∀ g, (pick (cal n) g).Ok Go.Proofs.Try.prog g := pick_ok (by
  intro p hp
  cases hp)
def fin : St → Option R := finOf ty [.tmp 4] outs into
def lam (n : Nat) : Nat → (St → Option R) → St → Option R := fun _ => fun _ _ => none
theorem loops (n : Nat) : LoopsOk cfg (pick (cal n)) (lam n) fin (loopsOf cfg.blk code) := by
  have h : loopsOf cfg.blk code = [] := by kernel_rfl
  rw [h]
  intro p hp
  cases hp
theorem F_eq (n : Nat) (x0 : Int) (x1 : Int) : impl_better.F n x0 x1 = exK cfg (pick (cal n)) (lam n) fin code (fun _ _ => none) (mkSt shp (x0, x1, ())) fin := by
  kernel_rfl
def pfn (n : Nat) : PFn := mkFn shp outs (fun x => impl_better.F n x.1 x.2.1) out
theorem ok (n : Nat) : (pfn n).Ok Go.Proofs.Try.prog 78 :=
  mkFn_ok (fn := Go.Proofs.Try.f78) (code := code) Go.Proofs.Try.func78 (by kernel_rfl) (by decide) (C := cfg) (Φ := pick (cal n)) (Λ := lam n) (into := into) hT (cal_ok n) (by kernel_rfl) rfl (by decide) rfl (fun _ => rfl) (loops n)
    (fun x r h => by
      have e := F_eq n x.1 x.2.1
      exact e.symm.trans h)
end impl_better
end
/-! ### loop.example/g01158/impl.remain -/
section
namespace impl_remain
noncomputable def code : Code := (Go.Proofs.Try.f39.body).getD .skip
abbrev shp : Shape := [(0, .agg [.int .i64, .row (.t3) false, .row (.int .i64) false])]
abbrev outs : List KD := [.ints 768]
abbrev R : Type := (List Int)
def out : R → denL outs := fun r => (r, ())
def into : denL outs → R := fun y => y.1
def cfg : Cfg := ⟨ty, 98, [], fun i => match Nat.beq i 2 with | true => .loop | false => match Nat.beq i 0 with | true => .loop | false => match Nat.beq i 13 with | true => .loop | false => match Nat.beq i 11 with | true => .loop | false => match Nat.beq i 9 with | true => .loop | false => match Nat.beq i 7 with | true => .loop | false => match Nat.beq i 5 with | true => .loop | false => match Nat.beq i 4 with | true => .loop | false => .plain, fun i => match Nat.beq i 23 with | true => some [(1, .box true [.int .i64, .row (.t3) false, .row (.int .i64) false]), (2, .arr 768 true), (3, .arr 768 true)] | false => none⟩
def cal (n : Nat) : List (Nat × PFn) := [(76, impl_members.pfn n), (77, impl_steps.pfn n), (78, impl_better.pfn n)]
theorem cal_ok (n : Nat) : ∀ g, (pick (cal n) g).Ok Go.Proofs.Try.prog g := pick_ok (by
  intro p hp
  simp only [cal, List.mem_cons, List.not_mem_nil, or_false] at hp
  rcases hp with rfl | rfl | rfl
  · exact impl_members.ok n
  · exact impl_steps.ok n
  · exact impl_better.ok n)
def fin : St → Option R := finOf ty [.cell 2 60] outs into
abbrev sin2 : Shape := [(1, .box true [.int .i64, .row (.t3) false, .row (.int .i64) false]), (2, .arr 768 true), (3, .arr 768 true), (4, .one (.int .i64)), (14, .one (.int .i64)), (17, .one (.int .i64))]
abbrev sout2 : Shape := [(1, .box true [.int .i64, .row (.t3) false, .row (.int .i64) false]), (2, .arr 768 true), (3, .arr 768 true), (14, .one (.int .i64))]
abbrev sin0 : Shape := [(1, .box true [.int .i64, .row (.t3) false, .row (.int .i64) false]), (2, .arr 768 true), (3, .arr 768 true), (14, .one (.int .i64))]
abbrev sout0 : Shape := [(1, .box true [.int .i64, .row (.t3) false, .row (.int .i64) false]), (2, .arr 768 true), (3, .arr 768 true)]
abbrev sin13 : Shape := [(1, .box true [.int .i64, .row (.t3) false, .row (.int .i64) false]), (2, .arr 768 true), (3, .arr 768 true), (7, .one (.bool)), (8, .one (.int .i64)), (9, .one (.int .i64)), (48, .one (.int .i64)), (49, .one (.int .i64)), (52, .one (.int .i64)), (59, .one (.row (.int .i64) true)), (60, .one (.int .i64)), (61, .one (.int .i64))]
abbrev sout13 : Shape := [(1, .box true [.int .i64, .row (.t3) false, .row (.int .i64) false]), (2, .arr 768 true), (3, .arr 768 true), (7, .one (.bool)), (8, .one (.int .i64)), (48, .one (.int .i64)), (49, .one (.int .i64)), (52, .one (.int .i64))]
abbrev sin11 : Shape := [(1, .box true [.int .i64, .row (.t3) false, .row (.int .i64) false]), (2, .arr 768 true), (3, .arr 768 true), (7, .one (.bool)), (8, .one (.int .i64)), (48, .one (.int .i64)), (49, .one (.int .i64)), (52, .one (.int .i64))]
abbrev sout11 : Shape := [(1, .box true [.int .i64, .row (.t3) false, .row (.int .i64) false]), (2, .arr 768 true), (3, .arr 768 true), (7, .one (.bool)), (48, .one (.int .i64)), (49, .one (.int .i64))]
abbrev sin9 : Shape := [(1, .box true [.int .i64, .row (.t3) false, .row (.int .i64) false]), (2, .arr 768 true), (3, .arr 768 true), (7, .one (.bool)), (48, .one (.int .i64)), (49, .one (.int .i64))]
abbrev sout9 : Shape := [(1, .box true [.int .i64, .row (.t3) false, .row (.int .i64) false]), (2, .arr 768 true), (3, .arr 768 true), (7, .one (.bool))]
abbrev sin7 : Shape := [(1, .box true [.int .i64, .row (.t3) false, .row (.int .i64) false]), (2, .arr 768 true), (3, .arr 768 true), (7, .one (.bool))]
abbrev sout7 : Shape := [(2, .arr 768 true), (3, .arr 768 true)]
abbrev sin5 : Shape := [(1, .box true [.int .i64, .row (.t3) false, .row (.int .i64) false]), (2, .arr 768 true), (3, .arr 768 true), (36, .one (.int .i64))]
abbrev sout5 : Shape := [(1, .box true [.int .i64, .row (.t3) false, .row (.int .i64) false]), (2, .arr 768 true), (3, .arr 768 true)]
abbrev sin4 : Shape := [(1, .box true [.int .i64, .row (.t3) false, .row (.int .i64) false]), (2, .arr 768 true), (3, .arr 768 true), (30, .one (.int .i64)), (31, .one (.int .i64))]
abbrev sout4 : Shape := [(1, .box true [.int .i64, .row (.t3) false, .row (.int .i64) false]), (2, .arr 768 true), (3, .arr 768 true)]
def lam (n : Nat) : Nat → (St → Option R) → St → Option R := fun i => match Nat.beq i 2 with | true => (fun K st => match absSt sin2 st with | some (x, _) => impl_remain.l2 n (fun y0 y1 y2 y3 y4 y5 => K (mkSt sout2 ((y0, y1, y2, ()), y3, y4, y5, ()))) n x.1.1 x.1.2.1 x.1.2.2.1 x.2.1 x.2.2.1 x.2.2.2.1 x.2.2.2.2.1 x.2.2.2.2.2.1 | none => none) | false => match Nat.beq i 0 with | true => (fun K st => match absSt sin0 st with | some (x, _) => impl_remain.l0 n (fun y0 y1 y2 y3 y4 => K (mkSt sout0 ((y0, y1, y2, ()), y3, y4, ()))) n x.1.1 x.1.2.1 x.1.2.2.1 x.2.1 x.2.2.1 x.2.2.2.1 | none => none) | false => match Nat.beq i 13 with | true => (fun K st => match absSt sin13 st with | some (x, _) => impl_remain.l13 n (fun y0 y1 y2 y3 y4 y5 y6 y7 y8 y9 => K (mkSt sout13 ((y0, y1, y2, ()), y3, y4, y5, y6, y7, y8, y9, ()))) n x.1.1 x.1.2.1 x.1.2.2.1 x.2.1 x.2.2.1 x.2.2.2.1 x.2.2.2.2.1 x.2.2.2.2.2.1 x.2.2.2.2.2.2.1 x.2.2.2.2.2.2.2.1 x.2.2.2.2.2.2.2.2.1 x.2.2.2.2.2.2.2.2.2.1 x.2.2.2.2.2.2.2.2.2.2.1 x.2.2.2.2.2.2.2.2.2.2.2.1 | none => none) | false => match Nat.beq i 11 with | true => (fun K st => match absSt sin11 st with | some (x, _) => impl_remain.l11 n (fun y0 y1 y2 y3 y4 y5 y6 y7 => K (mkSt sout11 ((y0, y1, y2, ()), y3, y4, y5, y6, y7, ()))) n x.1.1 x.1.2.1 x.1.2.2.1 x.2.1 x.2.2.1 x.2.2.2.1 x.2.2.2.2.1 x.2.2.2.2.2.1 x.2.2.2.2.2.2.1 x.2.2.2.2.2.2.2.1 | none => none) | false => match Nat.beq i 9 with | true => (fun K st => match absSt sin9 st with | some (x, _) => impl_remain.l9 n (fun y0 y1 y2 y3 y4 y5 => K (mkSt sout9 ((y0, y1, y2, ()), y3, y4, y5, ()))) n x.1.1 x.1.2.1 x.1.2.2.1 x.2.1 x.2.2.1 x.2.2.2.1 x.2.2.2.2.1 x.2.2.2.2.2.1 | none => none) | false => match Nat.beq i 7 with | true => (fun K st => match absSt sin7 st with | some (x, _) => impl_remain.l7 n (fun y0 y1 => K (mkSt sout7 (y0, y1, ()))) n x.1.1 x.1.2.1 x.1.2.2.1 x.2.1 x.2.2.1 x.2.2.2.1 | none => none) | false => match Nat.beq i 5 with | true => (fun K st => match absSt sin5 st with | some (x, _) => impl_remain.l5 n (fun y0 y1 y2 y3 y4 => K (mkSt sout5 ((y0, y1, y2, ()), y3, y4, ()))) n x.1.1 x.1.2.1 x.1.2.2.1 x.2.1 x.2.2.1 x.2.2.2.1 | none => none) | false => match Nat.beq i 4 with | true => (fun K st => match absSt sin4 st with | some (x, _) => impl_remain.l4 n (fun y0 y1 y2 y3 y4 => K (mkSt sout4 ((y0, y1, y2, ()), y3, y4, ()))) n x.1.1 x.1.2.1 x.1.2.2.1 x.2.1 x.2.2.1 x.2.2.2.1 x.2.2.2.2.1 | none => none) | false => fun _ _ => none
noncomputable def lps : List (Nat × Code) := loopsOf cfg.blk code
noncomputable def b2 : Code := bodyOf lps 2
theorem l2_eq (n : Nat) (K : St → Option R) : ∀ (j : Nat) (x0 : Int) (x1 : List (Int × Int × Int)) (x2 : List (Int)) (x3 : List Int) (x4 : List Int) (x5 : Int) (x6 : Int) (x7 : Int), impl_remain.l2 n (fun y0 y1 y2 y3 y4 y5 => K (mkSt sout2 ((y0, y1, y2, ()), y3, y4, y5, ()))) j x0 x1 x2 x3 x4 x5 x6 x7 = iter (roundK cfg (pick (cal n)) (lam n) fin 2 b2 sin2 sout2 K) j (mkSt sin2 ((x0, x1, x2, ()), x3, x4, x5, x6, x7, ()))
  | 0, _, _, _, _, _, _, _, _ => rfl
  | j + 1, x0, x1, x2, x3, x4, x5, x6, x7 => by
    have ih : impl_remain.l2 n (fun y0 y1 y2 y3 y4 y5 => K (mkSt sout2 ((y0, y1, y2, ()), y3, y4, y5, ()))) j = fun x0 x1 x2 x3 x4 x5 x6 x7 => iter (roundK cfg (pick (cal n)) (lam n) fin 2 b2 sin2 sout2 K) j (mkSt sin2 ((x0, x1, x2, ()), x3, x4, x5, x6, x7, ())) := funext fun x0 => funext fun x1 => funext fun x2 => funext fun x3 => funext fun x4 => funext fun x5 => funext fun x6 => funext fun x7 => l2_eq n K j x0 x1 x2 x3 x4 x5 x6 x7
    rw [impl_remain.l2, ih]
    show _ = roundK cfg (pick (cal n)) (lam n) fin 2 b2 sin2 sout2 K (iter (roundK cfg (pick (cal n)) (lam n) fin 2 b2 sin2 sout2 K) j) (mkSt sin2 ((x0, x1, x2, ()), x3, x4, x5, x6, x7, ()))
    kernel_rfl
noncomputable def b0 : Code := bodyOf lps 0
theorem l0_eq (n : Nat) (K : St → Option R) : ∀ (j : Nat) (x0 : Int) (x1 : List (Int × Int × Int)) (x2 : List (Int)) (x3 : List Int) (x4 : List Int) (x5 : Int), impl_remain.l0 n (fun y0 y1 y2 y3 y4 => K (mkSt sout0 ((y0, y1, y2, ()), y3, y4, ()))) j x0 x1 x2 x3 x4 x5 = iter (roundK cfg (pick (cal n)) (lam n) fin 0 b0 sin0 sout0 K) j (mkSt sin0 ((x0, x1, x2, ()), x3, x4, x5, ()))
  | 0, _, _, _, _, _, _ => rfl
  | j + 1, x0, x1, x2, x3, x4, x5 => by
    have ih : impl_remain.l0 n (fun y0 y1 y2 y3 y4 => K (mkSt sout0 ((y0, y1, y2, ()), y3, y4, ()))) j = fun x0 x1 x2 x3 x4 x5 => iter (roundK cfg (pick (cal n)) (lam n) fin 0 b0 sin0 sout0 K) j (mkSt sin0 ((x0, x1, x2, ()), x3, x4, x5, ())) := funext fun x0 => funext fun x1 => funext fun x2 => funext fun x3 => funext fun x4 => funext fun x5 => l0_eq n K j x0 x1 x2 x3 x4 x5
    rw [impl_remain.l0, ih]
    show _ = roundK cfg (pick (cal n)) (lam n) fin 0 b0 sin0 sout0 K (iter (roundK cfg (pick (cal n)) (lam n) fin 0 b0 sin0 sout0 K) j) (mkSt sin0 ((x0, x1, x2, ()), x3, x4, x5, ()))
    kernel_rfl
noncomputable def b13 : Code := bodyOf lps 13
theorem l13_eq (n : Nat) (K : St → Option R) : ∀ (j : Nat) (x0 : Int) (x1 : List (Int × Int × Int)) (x2 : List (Int)) (x3 : List Int) (x4 : List Int) (x5 : Bool) (x6 : Int) (x7 : Int) (x8 : Int) (x9 : Int) (x10 : Int) (x11 : List (Int)) (x12 : Int) (x13 : Int), impl_remain.l13 n (fun y0 y1 y2 y3 y4 y5 y6 y7 y8 y9 => K (mkSt sout13 ((y0, y1, y2, ()), y3, y4, y5, y6, y7, y8, y9, ()))) j x0 x1 x2 x3 x4 x5 x6 x7 x8 x9 x10 x11 x12 x13 = iter (roundK cfg (pick (cal n)) (lam n) fin 13 b13 sin13 sout13 K) j (mkSt sin13 ((x0, x1, x2, ()), x3, x4, x5, x6, x7, x8, x9, x10, x11, x12, x13, ()))
  | 0, _, _, _, _, _, _, _, _, _, _, _, _, _, _ => rfl
  | j + 1, x0, x1, x2, x3, x4, x5, x6, x7, x8, x9, x10, x11, x12, x13 => by
    have ih : impl_remain.l13 n (fun y0 y1 y2 y3 y4 y5 y6 y7 y8 y9 => K (mkSt sout13 ((y0, y1, y2, ()), y3, y4, y5, y6, y7, y8, y9, ()))) j = fun x0 x1 x2 x3 x4 x5 x6 x7 x8 x9 x10 x11 x12 x13 => iter (roundK cfg (pick (cal n)) (lam n) fin 13 b13 sin13 sout13 K) j (mkSt sin13 ((x0, x1, x2, ()), x3, x4, x5, x6, x7, x8, x9, x10, x11, x12, x13, ())) := funext fun x0 => funext fun x1 => funext fun x2 => funext fun x3 => funext fun x4 => funext fun x5 => funext fun x6 => funext fun x7 => funext fun x8 => funext fun x9 => funext fun x10 => funext fun x11 => funext fun x12 => funext fun x13 => l13_eq n K j x0 x1 x2 x3 x4 x5 x6 x7 x8 x9 x10 x11 x12 x13
    rw [impl_remain.l13, ih]
    show _ = roundK cfg (pick (cal n)) (lam n) fin 13 b13 sin13 sout13 K (iter (roundK cfg (pick (cal n)) (lam n) fin 13 b13 sin13 sout13 K) j) (mkSt sin13 ((x0, x1, x2, ()), x3, x4, x5, x6, x7, x8, x9, x10, x11, x12, x13, ()))
    kernel_rfl
noncomputable def b11 : Code := bodyOf lps 11
theorem l11_eq (n : Nat) (K : St → Option R) : ∀ (j : Nat) (x0 : Int) (x1 : List (Int × Int × Int)) (x2 : List (Int)) (x3 : List Int) (x4 : List Int) (x5 : Bool) (x6 : Int) (x7 : Int) (x8 : Int) (x9 : Int), impl_remain.l11 n (fun y0 y1 y2 y3 y4 y5 y6 y7 => K (mkSt sout11 ((y0, y1, y2, ()), y3, y4, y5, y6, y7, ()))) j x0 x1 x2 x3 x4 x5 x6 x7 x8 x9 = iter (roundK cfg (pick (cal n)) (lam n) fin 11 b11 sin11 sout11 K) j (mkSt sin11 ((x0, x1, x2, ()), x3, x4, x5, x6, x7, x8, x9, ()))
  | 0, _, _, _, _, _, _, _, _, _, _ => rfl
  | j + 1, x0, x1, x2, x3, x4, x5, x6, x7, x8, x9 => by
    have ih : impl_remain.l11 n (fun y0 y1 y2 y3 y4 y5 y6 y7 => K (mkSt sout11 ((y0, y1, y2, ()), y3, y4, y5, y6, y7, ()))) j = fun x0 x1 x2 x3 x4 x5 x6 x7 x8 x9 => iter (roundK cfg (pick (cal n)) (lam n) fin 11 b11 sin11 sout11 K) j (mkSt sin11 ((x0, x1, x2, ()), x3, x4, x5, x6, x7, x8, x9, ())) := funext fun x0 => funext fun x1 => funext fun x2 => funext fun x3 => funext fun x4 => funext fun x5 => funext fun x6 => funext fun x7 => funext fun x8 => funext fun x9 => l11_eq n K j x0 x1 x2 x3 x4 x5 x6 x7 x8 x9
    rw [impl_remain.l11, ih]
    show _ = roundK cfg (pick (cal n)) (lam n) fin 11 b11 sin11 sout11 K (iter (roundK cfg (pick (cal n)) (lam n) fin 11 b11 sin11 sout11 K) j) (mkSt sin11 ((x0, x1, x2, ()), x3, x4, x5, x6, x7, x8, x9, ()))
    kernel_rfl
noncomputable def b9 : Code := bodyOf lps 9
theorem l9_eq (n : Nat) (K : St → Option R) : ∀ (j : Nat) (x0 : Int) (x1 : List (Int × Int × Int)) (x2 : List (Int)) (x3 : List Int) (x4 : List Int) (x5 : Bool) (x6 : Int) (x7 : Int), impl_remain.l9 n (fun y0 y1 y2 y3 y4 y5 => K (mkSt sout9 ((y0, y1, y2, ()), y3, y4, y5, ()))) j x0 x1 x2 x3 x4 x5 x6 x7 = iter (roundK cfg (pick (cal n)) (lam n) fin 9 b9 sin9 sout9 K) j (mkSt sin9 ((x0, x1, x2, ()), x3, x4, x5, x6, x7, ()))
  | 0, _, _, _, _, _, _, _, _ => rfl
  | j + 1, x0, x1, x2, x3, x4, x5, x6, x7 => by
    have ih : impl_remain.l9 n (fun y0 y1 y2 y3 y4 y5 => K (mkSt sout9 ((y0, y1, y2, ()), y3, y4, y5, ()))) j = fun x0 x1 x2 x3 x4 x5 x6 x7 => iter (roundK cfg (pick (cal n)) (lam n) fin 9 b9 sin9 sout9 K) j (mkSt sin9 ((x0, x1, x2, ()), x3, x4, x5, x6, x7, ())) := funext fun x0 => funext fun x1 => funext fun x2 => funext fun x3 => funext fun x4 => funext fun x5 => funext fun x6 => funext fun x7 => l9_eq n K j x0 x1 x2 x3 x4 x5 x6 x7
    rw [impl_remain.l9, ih]
    show _ = roundK cfg (pick (cal n)) (lam n) fin 9 b9 sin9 sout9 K (iter (roundK cfg (pick (cal n)) (lam n) fin 9 b9 sin9 sout9 K) j) (mkSt sin9 ((x0, x1, x2, ()), x3, x4, x5, x6, x7, ()))
    kernel_rfl
noncomputable def b7 : Code := bodyOf lps 7
theorem l7_eq (n : Nat) (K : St → Option R) : ∀ (j : Nat) (x0 : Int) (x1 : List (Int × Int × Int)) (x2 : List (Int)) (x3 : List Int) (x4 : List Int) (x5 : Bool), impl_remain.l7 n (fun y0 y1 => K (mkSt sout7 (y0, y1, ()))) j x0 x1 x2 x3 x4 x5 = iter (roundK cfg (pick (cal n)) (lam n) fin 7 b7 sin7 sout7 K) j (mkSt sin7 ((x0, x1, x2, ()), x3, x4, x5, ()))
  | 0, _, _, _, _, _, _ => rfl
  | j + 1, x0, x1, x2, x3, x4, x5 => by
    have ih : impl_remain.l7 n (fun y0 y1 => K (mkSt sout7 (y0, y1, ()))) j = fun x0 x1 x2 x3 x4 x5 => iter (roundK cfg (pick (cal n)) (lam n) fin 7 b7 sin7 sout7 K) j (mkSt sin7 ((x0, x1, x2, ()), x3, x4, x5, ())) := funext fun x0 => funext fun x1 => funext fun x2 => funext fun x3 => funext fun x4 => funext fun x5 => l7_eq n K j x0 x1 x2 x3 x4 x5
    rw [impl_remain.l7, ih]
    show _ = roundK cfg (pick (cal n)) (lam n) fin 7 b7 sin7 sout7 K (iter (roundK cfg (pick (cal n)) (lam n) fin 7 b7 sin7 sout7 K) j) (mkSt sin7 ((x0, x1, x2, ()), x3, x4, x5, ()))
    kernel_rfl
noncomputable def b5 : Code := bodyOf lps 5
theorem l5_eq (n : Nat) (K : St → Option R) : ∀ (j : Nat) (x0 : Int) (x1 : List (Int × Int × Int)) (x2 : List (Int)) (x3 : List Int) (x4 : List Int) (x5 : Int), impl_remain.l5 n (fun y0 y1 y2 y3 y4 => K (mkSt sout5 ((y0, y1, y2, ()), y3, y4, ()))) j x0 x1 x2 x3 x4 x5 = iter (roundK cfg (pick (cal n)) (lam n) fin 5 b5 sin5 sout5 K) j (mkSt sin5 ((x0, x1, x2, ()), x3, x4, x5, ()))
  | 0, _, _, _, _, _, _ => rfl
  | j + 1, x0, x1, x2, x3, x4, x5 => by
    have ih : impl_remain.l5 n (fun y0 y1 y2 y3 y4 => K (mkSt sout5 ((y0, y1, y2, ()), y3, y4, ()))) j = fun x0 x1 x2 x3 x4 x5 => iter (roundK cfg (pick (cal n)) (lam n) fin 5 b5 sin5 sout5 K) j (mkSt sin5 ((x0, x1, x2, ()), x3, x4, x5, ())) := funext fun x0 => funext fun x1 => funext fun x2 => funext fun x3 => funext fun x4 => funext fun x5 => l5_eq n K j x0 x1 x2 x3 x4 x5
    rw [impl_remain.l5, ih]
    show _ = roundK cfg (pick (cal n)) (lam n) fin 5 b5 sin5 sout5 K (iter (roundK cfg (pick (cal n)) (lam n) fin 5 b5 sin5 sout5 K) j) (mkSt sin5 ((x0, x1, x2, ()), x3, x4, x5, ()))
    kernel_rfl
noncomputable def b4 : Code := bodyOf lps 4
theorem l4_eq (n : Nat) (K : St → Option R) : ∀ (j : Nat) (x0 : Int) (x1 : List (Int × Int × Int)) (x2 : List (Int)) (x3 : List Int) (x4 : List Int) (x5 : Int) (x6 : Int), impl_remain.l4 n (fun y0 y1 y2 y3 y4 => K (mkSt sout4 ((y0, y1, y2, ()), y3, y4, ()))) j x0 x1 x2 x3 x4 x5 x6 = iter (roundK cfg (pick (cal n)) (lam n) fin 4 b4 sin4 sout4 K) j (mkSt sin4 ((x0, x1, x2, ()), x3, x4, x5, x6, ()))
  | 0, _, _, _, _, _, _, _ => rfl
  | j + 1, x0, x1, x2, x3, x4, x5, x6 => by
    have ih : impl_remain.l4 n (fun y0 y1 y2 y3 y4 => K (mkSt sout4 ((y0, y1, y2, ()), y3, y4, ()))) j = fun x0 x1 x2 x3 x4 x5 x6 => iter (roundK cfg (pick (cal n)) (lam n) fin 4 b4 sin4 sout4 K) j (mkSt sin4 ((x0, x1, x2, ()), x3, x4, x5, x6, ())) := funext fun x0 => funext fun x1 => funext fun x2 => funext fun x3 => funext fun x4 => funext fun x5 => funext fun x6 => l4_eq n K j x0 x1 x2 x3 x4 x5 x6
    rw [impl_remain.l4, ih]
    show _ = roundK cfg (pick (cal n)) (lam n) fin 4 b4 sin4 sout4 K (iter (roundK cfg (pick (cal n)) (lam n) fin 4 b4 sin4 sout4 K) j) (mkSt sin4 ((x0, x1, x2, ()), x3, x4, x5, x6, ()))
    kernel_rfl
theorem loops (n : Nat) : LoopsOk cfg (pick (cal n)) (lam n) fin (loopsOf cfg.blk code) := by
  have h : loopsOf cfg.blk code = [(0, b0), (2, b2), (4, b4), (5, b5), (7, b7), (9, b9), (11, b11), (13, b13)] := by kernel_rfl
  rw [h]
  intro p hp K st r hr
  simp only [List.mem_cons, List.not_mem_nil, or_false] at hp
  rcases hp with rfl | rfl | rfl | rfl | rfl | rfl | rfl | rfl
  · have hr' : (match absSt sin0 st with | some (x, _) => impl_remain.l0 n (fun y0 y1 y2 y3 y4 => K (mkSt sout0 ((y0, y1, y2, ()), y3, y4, ()))) n x.1.1 x.1.2.1 x.1.2.2.1 x.2.1 x.2.2.1 x.2.2.2.1 | none => none) = some r := hr
    split at hr'
    · rename_i x es hx
      rw [l0_eq] at hr'
      exact ⟨sin0, sout0, n, x, es, hx, hr'⟩
    · cases hr'
  · have hr' : (match absSt sin2 st with | some (x, _) => impl_remain.l2 n (fun y0 y1 y2 y3 y4 y5 => K (mkSt sout2 ((y0, y1, y2, ()), y3, y4, y5, ()))) n x.1.1 x.1.2.1 x.1.2.2.1 x.2.1 x.2.2.1 x.2.2.2.1 x.2.2.2.2.1 x.2.2.2.2.2.1 | none => none) = some r := hr
    split at hr'
    · rename_i x es hx
      rw [l2_eq] at hr'
      exact ⟨sin2, sout2, n, x, es, hx, hr'⟩
    · cases hr'
  · have hr' : (match absSt sin4 st with | some (x, _) => impl_remain.l4 n (fun y0 y1 y2 y3 y4 => K (mkSt sout4 ((y0, y1, y2, ()), y3, y4, ()))) n x.1.1 x.1.2.1 x.1.2.2.1 x.2.1 x.2.2.1 x.2.2.2.1 x.2.2.2.2.1 | none => none) = some r := hr
    split at hr'
    · rename_i x es hx
      rw [l4_eq] at hr'
      exact ⟨sin4, sout4, n, x, es, hx, hr'⟩
    · cases hr'
  · have hr' : (match absSt sin5 st with | some (x, _) => impl_remain.l5 n (fun y0 y1 y2 y3 y4 => K (mkSt sout5 ((y0, y1, y2, ()), y3, y4, ()))) n x.1.1 x.1.2.1 x.1.2.2.1 x.2.1 x.2.2.1 x.2.2.2.1 | none => none) = some r := hr
    split at hr'
    · rename_i x es hx
      rw [l5_eq] at hr'
      exact ⟨sin5, sout5, n, x, es, hx, hr'⟩
    · cases hr'
  · have hr' : (match absSt sin7 st with | some (x, _) => impl_remain.l7 n (fun y0 y1 => K (mkSt sout7 (y0, y1, ()))) n x.1.1 x.1.2.1 x.1.2.2.1 x.2.1 x.2.2.1 x.2.2.2.1 | none => none) = some r := hr
    split at hr'
    · rename_i x es hx
      rw [l7_eq] at hr'
      exact ⟨sin7, sout7, n, x, es, hx, hr'⟩
    · cases hr'
  · have hr' : (match absSt sin9 st with | some (x, _) => impl_remain.l9 n (fun y0 y1 y2 y3 y4 y5 => K (mkSt sout9 ((y0, y1, y2, ()), y3, y4, y5, ()))) n x.1.1 x.1.2.1 x.1.2.2.1 x.2.1 x.2.2.1 x.2.2.2.1 x.2.2.2.2.1 x.2.2.2.2.2.1 | none => none) = some r := hr
    split at hr'
    · rename_i x es hx
      rw [l9_eq] at hr'
      exact ⟨sin9, sout9, n, x, es, hx, hr'⟩
    · cases hr'
  · have hr' : (match absSt sin11 st with | some (x, _) => impl_remain.l11 n (fun y0 y1 y2 y3 y4 y5 y6 y7 => K (mkSt sout11 ((y0, y1, y2, ()), y3, y4, y5, y6, y7, ()))) n x.1.1 x.1.2.1 x.1.2.2.1 x.2.1 x.2.2.1 x.2.2.2.1 x.2.2.2.2.1 x.2.2.2.2.2.1 x.2.2.2.2.2.2.1 x.2.2.2.2.2.2.2.1 | none => none) = some r := hr
    split at hr'
    · rename_i x es hx
      rw [l11_eq] at hr'
      exact ⟨sin11, sout11, n, x, es, hx, hr'⟩
    · cases hr'
  · have hr' : (match absSt sin13 st with | some (x, _) => impl_remain.l13 n (fun y0 y1 y2 y3 y4 y5 y6 y7 y8 y9 => K (mkSt sout13 ((y0, y1, y2, ()), y3, y4, y5, y6, y7, y8, y9, ()))) n x.1.1 x.1.2.1 x.1.2.2.1 x.2.1 x.2.2.1 x.2.2.2.1 x.2.2.2.2.1 x.2.2.2.2.2.1 x.2.2.2.2.2.2.1 x.2.2.2.2.2.2.2.1 x.2.2.2.2.2.2.2.2.1 x.2.2.2.2.2.2.2.2.2.1 x.2.2.2.2.2.2.2.2.2.2.1 x.2.2.2.2.2.2.2.2.2.2.2.1 | none => none) = some r := hr
    split at hr'
    · rename_i x es hx
      rw [l13_eq] at hr'
      exact ⟨sin13, sout13, n, x, es, hx, hr'⟩
    · cases hr'
theorem F_eq (n : Nat) (x0 : Int) (x1 : List (Int × Int × Int)) (x2 : List (Int)) : impl_remain.F n x0 x1 x2 = exK cfg (pick (cal n)) (lam n) fin code (fun _ _ => none) (mkSt shp ((x0, x1, x2, ()), ())) fin := by
  kernel_rfl
def pfn (n : Nat) : PFn := mkFn shp outs (fun x => impl_remain.F n x.1.1 x.1.2.1 x.1.2.2.1) out
theorem ok (n : Nat) : (pfn n).Ok Go.Proofs.Try.prog 39 :=
  mkFn_ok (fn := Go.Proofs.Try.f39) (code := code) Go.Proofs.Try.func39 (by kernel_rfl) (by decide) (C := cfg) (Φ := pick (cal n)) (Λ := lam n) (into := into) hT (cal_ok n) (by kernel_rfl) rfl (by decide) rfl (fun _ => rfl) (loops n)
    (fun x r h => by
      have e := F_eq n x.1.1 x.1.2.1 x.1.2.2.1
      exact e.symm.trans h)
end impl_remain
end
/-! ### loop.example/g01158/impl.RemainTable -/
section
namespace impl_RemainTable
noncomputable def code : Code := (Go.Proofs.Try.f8.body).getD .skip
abbrev shp : Shape := [(0, .agg [.int .i64, .row (.t3) false, .row (.int .i64) false])]
abbrev outs : List KD := [.one (.tab true), .one (.bool)]
abbrev R : Type := (List (List Int)) × Bool
def out : R → denL outs := fun r => (r.1, r.2, ())
def into : denL outs → R := fun y => (y.1, y.2.1)
def cfg : Cfg := ⟨ty, 45, [], fun i => match Nat.beq i 2 with | true => .loop | false => match Nat.beq i 0 with | true => .loop | false => .plain, fun _ => none⟩
def cal (n : Nat) : List (Nat × PFn) := [(16, impl_IsMaze.pfn n), (39, impl_remain.pfn n)]
theorem cal_ok (n : Nat) : ∀ g, (pick (cal n) g).Ok Go.Proofs.Try.prog g := pick_ok (by
  intro p hp
  simp only [cal, List.mem_cons, List.not_mem_nil, or_false] at hp
  rcases hp with rfl | rfl
  · exact impl_IsMaze.ok n
  · exact impl_remain.ok n)
def fin : St → Option R := finOf ty [.tmp 2, .tmp 3] outs into
abbrev sin2 : Shape := [(1, .box true [.int .i64, .row (.t3) false, .row (.int .i64) false]), (4, .arr 768 true), (5, .one (.tab true)), (6, .one (.int .i64)), (7, .one (.row (.int .i64) true)), (16, .one (.int .i64)), (17, .one (.int .i64)), (21, .one (.int .i64))]
abbrev sout2 : Shape := [(1, .box true [.int .i64, .row (.t3) false, .row (.int .i64) false]), (4, .arr 768 true), (5, .one (.tab true)), (7, .one (.row (.int .i64) true)), (16, .one (.int .i64)), (17, .one (.int .i64))]
abbrev sin0 : Shape := [(1, .box true [.int .i64, .row (.t3) false, .row (.int .i64) false]), (4, .arr 768 true), (5, .one (.tab true)), (16, .one (.int .i64)), (17, .one (.int .i64))]
abbrev sout0 : Shape := [(5, .one (.tab true))]
def lam (n : Nat) : Nat → (St → Option R) → St → Option R := fun i => match Nat.beq i 2 with | true => (fun K st => match absSt sin2 st with | some (x, _) => impl_RemainTable.l2 n (fun y0 y1 y2 y3 y4 y5 y6 y7 => K (mkSt sout2 ((y0, y1, y2, ()), y3, y4, y5, y6, y7, ()))) n x.1.1 x.1.2.1 x.1.2.2.1 x.2.1 x.2.2.1 x.2.2.2.1 x.2.2.2.2.1 x.2.2.2.2.2.1 x.2.2.2.2.2.2.1 x.2.2.2.2.2.2.2.1 | none => none) | false => match Nat.beq i 0 with | true => (fun K st => match absSt sin0 st with | some (x, _) => impl_RemainTable.l0 n (fun y0 => K (mkSt sout0 (y0, ()))) n x.1.1 x.1.2.1 x.1.2.2.1 x.2.1 x.2.2.1 x.2.2.2.1 x.2.2.2.2.1 | none => none) | false => fun _ _ => none
noncomputable def lps : List (Nat × Code) := loopsOf cfg.blk code
noncomputable def b2 : Code := bodyOf lps 2
theorem l2_eq (n : Nat) (K : St → Option R) : ∀ (j : Nat) (x0 : Int) (x1 : List (Int × Int × Int)) (x2 : List (Int)) (x3 : List Int) (x4 : List (List Int)) (x5 : Int) (x6 : List (Int)) (x7 : Int) (x8 : Int) (x9 : Int), impl_RemainTable.l2 n (fun y0 y1 y2 y3 y4 y5 y6 y7 => K (mkSt sout2 ((y0, y1, y2, ()), y3, y4, y5, y6, y7, ()))) j x0 x1 x2 x3 x4 x5 x6 x7 x8 x9 = iter (roundK cfg (pick (cal n)) (lam n) fin 2 b2 sin2 sout2 K) j (mkSt sin2 ((x0, x1, x2, ()), x3, x4, x5, x6, x7, x8, x9, ()))
  | 0, _, _, _, _, _, _, _, _, _, _ => rfl
  | j + 1, x0, x1, x2, x3, x4, x5, x6, x7, x8, x9 => by
    have ih : impl_RemainTable.l2 n (fun y0 y1 y2 y3 y4 y5 y6 y7 => K (mkSt sout2 ((y0, y1, y2, ()), y3, y4, y5, y6, y7, ()))) j = fun x0 x1 x2 x3 x4 x5 x6 x7 x8 x9 => iter (roundK cfg (pick (cal n)) (lam n) fin 2 b2 sin2 sout2 K) j (mkSt sin2 ((x0, x1, x2, ()), x3, x4, x5, x6, x7, x8, x9, ())) := funext fun x0 => funext fun x1 => funext fun x2 => funext fun x3 => funext fun x4 => funext fun x5 => funext fun x6 => funext fun x7 => funext fun x8 => funext fun x9 => l2_eq n K j x0 x1 x2 x3 x4 x5 x6 x7 x8 x9
    rw [impl_RemainTable.l2, ih]
    show _ = roundK cfg (pick (cal n)) (lam n) fin 2 b2 sin2 sout2 K (iter (roundK cfg (pick (cal n)) (lam n) fin 2 b2 sin2 sout2 K) j) (mkSt sin2 ((x0, x1, x2, ()), x3, x4, x5, x6, x7, x8, x9, ()))
    kernel_rfl
noncomputable def b0 : Code := bodyOf lps 0
theorem l0_eq (n : Nat) (K : St → Option R) : ∀ (j : Nat) (x0 : Int) (x1 : List (Int × Int × Int)) (x2 : List (Int)) (x3 : List Int) (x4 : List (List Int)) (x5 : Int) (x6 : Int), impl_RemainTable.l0 n (fun y0 => K (mkSt sout0 (y0, ()))) j x0 x1 x2 x3 x4 x5 x6 = iter (roundK cfg (pick (cal n)) (lam n) fin 0 b0 sin0 sout0 K) j (mkSt sin0 ((x0, x1, x2, ()), x3, x4, x5, x6, ()))
  | 0, _, _, _, _, _, _, _ => rfl
  | j + 1, x0, x1, x2, x3, x4, x5, x6 => by
    have ih : impl_RemainTable.l0 n (fun y0 => K (mkSt sout0 (y0, ()))) j = fun x0 x1 x2 x3 x4 x5 x6 => iter (roundK cfg (pick (cal n)) (lam n) fin 0 b0 sin0 sout0 K) j (mkSt sin0 ((x0, x1, x2, ()), x3, x4, x5, x6, ())) := funext fun x0 => funext fun x1 => funext fun x2 => funext fun x3 => funext fun x4 => funext fun x5 => funext fun x6 => l0_eq n K j x0 x1 x2 x3 x4 x5 x6
    rw [impl_RemainTable.l0, ih]
    show _ = roundK cfg (pick (cal n)) (lam n) fin 0 b0 sin0 sout0 K (iter (roundK cfg (pick (cal n)) (lam n) fin 0 b0 sin0 sout0 K) j) (mkSt sin0 ((x0, x1, x2, ()), x3, x4, x5, x6, ()))
    kernel_rfl
theorem loops (n : Nat) : LoopsOk cfg (pick (cal n)) (lam n) fin (loopsOf cfg.blk code) := by
  have h : loopsOf cfg.blk code = [(0, b0), (2, b2)] := by kernel_rfl
  rw [h]
  intro p hp K st r hr
  simp only [List.mem_cons, List.not_mem_nil, or_false] at hp
  rcases hp with rfl | rfl
  · have hr' : (match absSt sin0 st with | some (x, _) => impl_RemainTable.l0 n (fun y0 => K (mkSt sout0 (y0, ()))) n x.1.1 x.1.2.1 x.1.2.2.1 x.2.1 x.2.2.1 x.2.2.2.1 x.2.2.2.2.1 | none => none) = some r := hr
    split at hr'
    · rename_i x es hx
      rw [l0_eq] at hr'
      exact ⟨sin0, sout0, n, x, es, hx, hr'⟩
    · cases hr'
  · have hr' : (match absSt sin2 st with | some (x, _) => impl_RemainTable.l2 n (fun y0 y1 y2 y3 y4 y5 y6 y7 => K (mkSt sout2 ((y0, y1, y2, ()), y3, y4, y5, y6, y7, ()))) n x.1.1 x.1.2.1 x.1.2.2.1 x.2.1 x.2.2.1 x.2.2.2.1 x.2.2.2.2.1 x.2.2.2.2.2.1 x.2.2.2.2.2.2.1 x.2.2.2.2.2.2.2.1 | none => none) = some r := hr
    split at hr'
    · rename_i x es hx
      rw [l2_eq] at hr'
      exact ⟨sin2, sout2, n, x, es, hx, hr'⟩
    · cases hr'
theorem F_eq (n : Nat) (x0 : Int) (x1 : List (Int × Int × Int)) (x2 : List (Int)) : impl_RemainTable.F n x0 x1 x2 = exK cfg (pick (cal n)) (lam n) fin code (fun _ _ => none) (mkSt shp ((x0, x1, x2, ()), ())) fin := by
  kernel_rfl
def pfn (n : Nat) : PFn := mkFn shp outs (fun x => impl_RemainTable.F n x.1.1 x.1.2.1 x.1.2.2.1) out
theorem ok (n : Nat) : (pfn n).Ok Go.Proofs.Try.prog 8 :=
  mkFn_ok (fn := Go.Proofs.Try.f8) (code := code) Go.Proofs.Try.func8 (by kernel_rfl) (by decide) (C := cfg) (Φ := pick (cal n)) (Λ := lam n) (into := into) hT (cal_ok n) (by kernel_rfl) rfl (by decide) rfl (fun _ => rfl) (loops n)
    (fun x r h => by
      have e := F_eq n x.1.1 x.1.2.1 x.1.2.2.1
      exact e.symm.trans h)
end impl_RemainTable
end
/-! ### loop.example/g01158/laws.eqIntS -/
section
namespace laws_eqIntS
noncomputable def code : Code := (Go.Proofs.Try.f40.body).getD .skip
abbrev shp : Shape := [(0, .one (.row (.int .i64) false)), (1, .one (.row (.int .i64) false))]
abbrev outs : List KD := [.one (.bool)]
abbrev R : Type := Bool
def out : R → denL outs := fun r => (r, ())
def into : denL outs → R := fun y => y.1
def cfg : Cfg := ⟨ty, 26, [], fun i => match Nat.beq i 0 with | true => .loop | false => .plain, fun _ => none⟩
def cal (n : Nat) : List (Nat × PFn) := []
theorem cal_ok (n : Nat) : ∀ g, (pick (cal n) g).Ok Go.Proofs.Try.prog g := pick_ok (by
  intro p hp
  cases hp)
def fin : St → Option R := finOf ty [.tmp 4] outs into
abbrev sin0 : Shape := [(0, .one (.row (.int .i64) false)), (1, .one (.row (.int .i64) false)), (5, .one (.int .i64))]
abbrev sout0 : Shape := []
def lam (n : Nat) : Nat → (St → Option R) → St → Option R := fun i => match Nat.beq i 0 with | true => (fun K st => match absSt sin0 st with | some (x, _) => laws_eqIntS.l0 n (fun _ => K (mkSt sout0 ())) n x.1 x.2.1 x.2.2.1 | none => none) | false => fun _ _ => none
noncomputable def lps : List (Nat × Code) := loopsOf cfg.blk code
noncomputable def b0 : Code := bodyOf lps 0
theorem l0_eq (n : Nat) (K : St → Option R) : ∀ (j : Nat) (x0 : List (Int)) (x1 : List (Int)) (x2 : Int), laws_eqIntS.l0 n (fun _ => K (mkSt sout0 ())) j x0 x1 x2 = iter (roundK cfg (pick (cal n)) (lam n) fin 0 b0 sin0 sout0 K) j (mkSt sin0 (x0, x1, x2, ()))
  | 0, _, _, _ => rfl
  | j + 1, x0, x1, x2 => by
    have ih : laws_eqIntS.l0 n (fun _ => K (mkSt sout0 ())) j = fun x0 x1 x2 => iter (roundK cfg (pick (cal n)) (lam n) fin 0 b0 sin0 sout0 K) j (mkSt sin0 (x0, x1, x2, ())) := funext fun x0 => funext fun x1 => funext fun x2 => l0_eq n K j x0 x1 x2
    rw [laws_eqIntS.l0, ih]
    show _ = roundK cfg (pick (cal n)) (lam n) fin 0 b0 sin0 sout0 K (iter (roundK cfg (pick (cal n)) (lam n) fin 0 b0 sin0 sout0 K) j) (mkSt sin0 (x0, x1, x2, ()))
    kernel_rfl
theorem loops (n : Nat) : LoopsOk cfg (pick (cal n)) (lam n) fin (loopsOf cfg.blk code) := by
  have h : loopsOf cfg.blk code = [(0, b0)] := by kernel_rfl
  rw [h]
  intro p hp K st r hr
  simp only [List.mem_cons, List.not_mem_nil, or_false] at hp
  rcases hp with rfl
  · have hr' : (match absSt sin0 st with | some (x, _) => laws_eqIntS.l0 n (fun _ => K (mkSt sout0 ())) n x.1 x.2.1 x.2.2.1 | none => none) = some r := hr
    split at hr'
    · rename_i x es hx
      rw [l0_eq] at hr'
      exact ⟨sin0, sout0, n, x, es, hx, hr'⟩
    · cases hr'
theorem F_eq (n : Nat) (x0 : List (Int)) (x1 : List (Int)) : laws_eqIntS.F n x0 x1 = exK cfg (pick (cal n)) (lam n) fin code (fun _ _ => none) (mkSt shp (x0, x1, ())) fin := by
  kernel_rfl
def pfn (n : Nat) : PFn := mkFn shp outs (fun x => laws_eqIntS.F n x.1 x.2.1) out
theorem ok (n : Nat) : (pfn n).Ok Go.Proofs.Try.prog 40 :=
  mkFn_ok (fn := Go.Proofs.Try.f40) (code := code) Go.Proofs.Try.func40 (by kernel_rfl) (by decide) (C := cfg) (Φ := pick (cal n)) (Λ := lam n) (into := into) hT (cal_ok n) (by kernel_rfl) rfl (by decide) rfl (fun _ => rfl) (loops n)
    (fun x r h => by
      have e := F_eq n x.1 x.2.1
      exact e.symm.trans h)
end laws_eqIntS
end
/-! ### loop.example/g01158/laws.eqIntSS -/
section
namespace laws_eqIntSS
noncomputable def code : Code := (Go.Proofs.Try.f9.body).getD .skip
abbrev shp : Shape := [(0, .one (.tab false)), (1, .one (.tab false))]
abbrev outs : List KD := [.one (.bool)]
abbrev R : Type := Bool
def out : R → denL outs := fun r => (r, ())
def into : denL outs → R := fun y => y.1
def cfg : Cfg := ⟨ty, 27, [], fun i => match Nat.beq i 0 with | true => .loop | false => .plain, fun _ => none⟩
def cal (n : Nat) : List (Nat × PFn) := [(40, laws_eqIntS.pfn n)]
theorem cal_ok (n : Nat) : ∀ g, (pick (cal n) g).Ok Go.Proofs.Try.prog g := pick_ok (by
  intro p hp
  simp only [cal, List.mem_cons, List.not_mem_nil, or_false] at hp
  rcases hp with rfl
  · exact laws_eqIntS.ok n)
def fin : St → Option R := finOf ty [.tmp 4] outs into
abbrev sin0 : Shape := [(0, .one (.tab false)), (1, .one (.tab false)), (5, .one (.int .i64))]
abbrev sout0 : Shape := []
def lam (n : Nat) : Nat → (St → Option R) → St → Option R := fun i => match Nat.beq i 0 with | true => (fun K st => match absSt sin0 st with | some (x, _) => laws_eqIntSS.l0 n (fun _ => K (mkSt sout0 ())) n x.1 x.2.1 x.2.2.1 | none => none) | false => fun _ _ => none
noncomputable def lps : List (Nat × Code) := loopsOf cfg.blk code
noncomputable def b0 : Code := bodyOf lps 0
theorem l0_eq (n : Nat) (K : St → Option R) : ∀ (j : Nat) (x0 : List (List Int)) (x1 : List (List Int)) (x2 : Int), laws_eqIntSS.l0 n (fun _ => K (mkSt sout0 ())) j x0 x1 x2 = iter (roundK cfg (pick (cal n)) (lam n) fin 0 b0 sin0 sout0 K) j (mkSt sin0 (x0, x1, x2, ()))
  | 0, _, _, _ => rfl
  | j + 1, x0, x1, x2 => by
    have ih : laws_eqIntSS.l0 n (fun _ => K (mkSt sout0 ())) j = fun x0 x1 x2 => iter (roundK cfg (pick (cal n)) (lam n) fin 0 b0 sin0 sout0 K) j (mkSt sin0 (x0, x1, x2, ())) := funext fun x0 => funext fun x1 => funext fun x2 => l0_eq n K j x0 x1 x2
    rw [laws_eqIntSS.l0, ih]
    show _ = roundK cfg (pick (cal n)) (lam n) fin 0 b0 sin0 sout0 K (iter (roundK cfg (pick (cal n)) (lam n) fin 0 b0 sin0 sout0 K) j) (mkSt sin0 (x0, x1, x2, ()))
    kernel_rfl
theorem loops (n : Nat) : LoopsOk cfg (pick (cal n)) (lam n) fin (loopsOf cfg.blk code) := by
  have h : loopsOf cfg.blk code = [(0, b0)] := by kernel_rfl
  rw [h]
  intro p hp K st r hr
  simp only [List.mem_cons, List.not_mem_nil, or_false] at hp
  rcases hp with rfl
  · have hr' : (match absSt sin0 st with | some (x, _) => laws_eqIntSS.l0 n (fun _ => K (mkSt sout0 ())) n x.1 x.2.1 x.2.2.1 | none => none) = some r := hr
    split at hr'
    · rename_i x es hx
      rw [l0_eq] at hr'
      exact ⟨sin0, sout0, n, x, es, hx, hr'⟩
    · cases hr'
theorem F_eq (n : Nat) (x0 : List (List Int)) (x1 : List (List Int)) : laws_eqIntSS.F n x0 x1 = exK cfg (pick (cal n)) (lam n) fin code (fun _ _ => none) (mkSt shp (x0, x1, ())) fin := by
  kernel_rfl
def pfn (n : Nat) : PFn := mkFn shp outs (fun x => laws_eqIntSS.F n x.1 x.2.1) out
theorem ok (n : Nat) : (pfn n).Ok Go.Proofs.Try.prog 9 :=
  mkFn_ok (fn := Go.Proofs.Try.f9) (code := code) Go.Proofs.Try.func9 (by kernel_rfl) (by decide) (C := cfg) (Φ := pick (cal n)) (Λ := lam n) (into := into) hT (cal_ok n) (by kernel_rfl) rfl (by decide) rfl (fun _ => rfl) (loops n)
    (fun x r h => by
      have e := F_eq n x.1 x.2.1
      exact e.symm.trans h)
end laws_eqIntSS
end
/-! ### loop.example/g01158/laws.eqIntA3 -/
section
namespace laws_eqIntA3
noncomputable def code : Code := (Go.Proofs.Try.f79.body).getD .skip
abbrev shp : Shape := [(0, .agg [.int .i64, .int .i64, .int .i64]), (1, .agg [.int .i64, .int .i64, .int .i64])]
abbrev outs : List KD := [.one (.bool)]
abbrev R : Type := Bool
def out : R → denL outs := fun r => (r, ())
def into : denL outs → R := fun y => y.1
def cfg : Cfg := ⟨ty, 17, [], fun i => match Nat.beq i 0 with | true => .unroll 4 | false => .plain, fun _ => none⟩
def cal (n : Nat) : List (Nat × PFn) := []
theorem cal_ok (n : Nat) : ∀ g, (pick (cal n) g).Ok Go.Proofs.Try.prog g := pick_ok (by
  intro p hp
  cases hp)
def fin : St → Option R := finOf ty [.tmp 4] outs into
def lam (n : Nat) : Nat → (St → Option R) → St → Option R := fun _ => fun _ _ => none
theorem loops (n : Nat) : LoopsOk cfg (pick (cal n)) (lam n) fin (loopsOf cfg.blk code) := by
  have h : loopsOf cfg.blk code = [] := by kernel_rfl
  rw [h]
  intro p hp
  cases hp
theorem F_eq (n : Nat) (x0 : Int) (x1 : Int) (x2 : Int) (x3 : Int) (x4 : Int) (x5 : Int) : laws_eqIntA3.F n x0 x1 x2 x3 x4 x5 = exK cfg (pick (cal n)) (lam n) fin code (fun _ _ => none) (mkSt shp ((x0, x1, x2, ()), (x3, x4, x5, ()), ())) fin := by
  kernel_rfl
def pfn (n : Nat) : PFn := mkFn shp outs (fun x => laws_eqIntA3.F n x.1.1 x.1.2.1 x.1.2.2.1 x.2.1.1 x.2.1.2.1 x.2.1.2.2.1) out
theorem ok (n : Nat) : (pfn n).Ok Go.Proofs.Try.prog 79 :=
  mkFn_ok (fn := Go.Proofs.Try.f79) (code := code) Go.Proofs.Try.func79 (by kernel_rfl) (by decide) (C := cfg) (Φ := pick (cal n)) (Λ := lam n) (into := into) hT (cal_ok n) (by kernel_rfl) rfl (by decide) rfl (fun _ => rfl) (loops n)
    (fun x r h => by
      have e := F_eq n x.1.1 x.1.2.1 x.1.2.2.1 x.2.1.1 x.2.1.2.1 x.2.1.2.2.1
      exact e.symm.trans h)
end laws_eqIntA3
end
/-! ### loop.example/g01158/laws.eqIntA3S -/
section
namespace laws_eqIntA3S
noncomputable def code : Code := (Go.Proofs.Try.f41.body).getD .skip
abbrev shp : Shape := [(0, .one (.row (.t3) false)), (1, .one (.row (.t3) false))]
abbrev outs : List KD := [.one (.bool)]
abbrev R : Type := Bool
def out : R → denL outs := fun r => (r, ())
def into : denL outs → R := fun y => y.1
def cfg : Cfg := ⟨ty, 27, [], fun i => match Nat.beq i 0 with | true => .loop | false => .plain, fun _ => none⟩
def cal (n : Nat) : List (Nat × PFn) := [(79, laws_eqIntA3.pfn n)]
theorem cal_ok (n : Nat) : ∀ g, (pick (cal n) g).Ok Go.Proofs.Try.prog g := pick_ok (by
  intro p hp
  simp only [cal, List.mem_cons, List.not_mem_nil, or_false] at hp
  rcases hp with rfl
  · exact laws_eqIntA3.ok n)
def fin : St → Option R := finOf ty [.tmp 4] outs into
abbrev sin0 : Shape := [(0, .one (.row (.t3) false)), (1, .one (.row (.t3) false)), (5, .one (.int .i64))]
abbrev sout0 : Shape := []
def lam (n : Nat) : Nat → (St → Option R) → St → Option R := fun i => match Nat.beq i 0 with | true => (fun K st => match absSt sin0 st with | some (x, _) => laws_eqIntA3S.l0 n (fun _ => K (mkSt sout0 ())) n x.1 x.2.1 x.2.2.1 | none => none) | false => fun _ _ => none
noncomputable def lps : List (Nat × Code) := loopsOf cfg.blk code
noncomputable def b0 : Code := bodyOf lps 0
theorem l0_eq (n : Nat) (K : St → Option R) : ∀ (j : Nat) (x0 : List (Int × Int × Int)) (x1 : List (Int × Int × Int)) (x2 : Int), laws_eqIntA3S.l0 n (fun _ => K (mkSt sout0 ())) j x0 x1 x2 = iter (roundK cfg (pick (cal n)) (lam n) fin 0 b0 sin0 sout0 K) j (mkSt sin0 (x0, x1, x2, ()))
  | 0, _, _, _ => rfl
  | j + 1, x0, x1, x2 => by
    have ih : laws_eqIntA3S.l0 n (fun _ => K (mkSt sout0 ())) j = fun x0 x1 x2 => iter (roundK cfg (pick (cal n)) (lam n) fin 0 b0 sin0 sout0 K) j (mkSt sin0 (x0, x1, x2, ())) := funext fun x0 => funext fun x1 => funext fun x2 => l0_eq n K j x0 x1 x2
    rw [laws_eqIntA3S.l0, ih]
    show _ = roundK cfg (pick (cal n)) (lam n) fin 0 b0 sin0 sout0 K (iter (roundK cfg (pick (cal n)) (lam n) fin 0 b0 sin0 sout0 K) j) (mkSt sin0 (x0, x1, x2, ()))
    kernel_rfl
theorem loops (n : Nat) : LoopsOk cfg (pick (cal n)) (lam n) fin (loopsOf cfg.blk code) := by
  have h : loopsOf cfg.blk code = [(0, b0)] := by kernel_rfl
  rw [h]
  intro p hp K st r hr
  simp only [List.mem_cons, List.not_mem_nil, or_false] at hp
  rcases hp with rfl
  · have hr' : (match absSt sin0 st with | some (x, _) => laws_eqIntA3S.l0 n (fun _ => K (mkSt sout0 ())) n x.1 x.2.1 x.2.2.1 | none => none) = some r := hr
    split at hr'
    · rename_i x es hx
      rw [l0_eq] at hr'
      exact ⟨sin0, sout0, n, x, es, hx, hr'⟩
    · cases hr'
theorem F_eq (n : Nat) (x0 : List (Int × Int × Int)) (x1 : List (Int × Int × Int)) : laws_eqIntA3S.F n x0 x1 = exK cfg (pick (cal n)) (lam n) fin code (fun _ _ => none) (mkSt shp (x0, x1, ())) fin := by
  kernel_rfl
def pfn (n : Nat) : PFn := mkFn shp outs (fun x => laws_eqIntA3S.F n x.1 x.2.1) out
theorem ok (n : Nat) : (pfn n).Ok Go.Proofs.Try.prog 41 :=
  mkFn_ok (fn := Go.Proofs.Try.f41) (code := code) Go.Proofs.Try.func41 (by kernel_rfl) (by decide) (C := cfg) (Φ := pick (cal n)) (Λ := lam n) (into := into) hT (cal_ok n) (by kernel_rfl) rfl (by decide) rfl (fun _ => rfl) (loops n)
    (fun x r h => by
      have e := F_eq n x.1 x.2.1
      exact e.symm.trans h)
end laws_eqIntA3S
end
/-! ### loop.example/g01158/laws.eqMaze -/
section
namespace laws_eqMaze
noncomputable def code : Code := (Go.Proofs.Try.f10.body).getD .skip
abbrev shp : Shape := [(0, .agg [.int .i64, .row (.t3) false, .row (.int .i64) false]), (1, .agg [.int .i64, .row (.t3) false, .row (.int .i64) false])]
abbrev outs : List KD := [.one (.bool)]
abbrev R : Type := Bool
def out : R → denL outs := fun r => (r, ())
def into : denL outs → R := fun y => y.1
def cfg : Cfg := ⟨ty, 22, [], fun _ => .plain, fun _ => none⟩
def cal (n : Nat) : List (Nat × PFn) := [(40, laws_eqIntS.pfn n), (41, laws_eqIntA3S.pfn n)]
theorem cal_ok (n : Nat) : ∀ g, (pick (cal n) g).Ok Go.Proofs.Try.prog g := pick_ok (by
  intro p hp
  simp only [cal, List.mem_cons, List.not_mem_nil, or_false] at hp
  rcases hp with rfl | rfl
  · exact laws_eqIntS.ok n
  · exact laws_eqIntA3S.ok n)
def fin : St → Option R := finOf ty [.tmp 4] outs into
def lam (n : Nat) : Nat → (St → Option R) → St → Option R := fun _ => fun _ _ => none
theorem loops (n : Nat) : LoopsOk cfg (pick (cal n)) (lam n) fin (loopsOf cfg.blk code) := by
  have h : loopsOf cfg.blk code = [] := by kernel_rfl
  rw [h]
  intro p hp
  cases hp
theorem F_eq (n : Nat) (x0 : Int) (x1 : List (Int × Int × Int)) (x2 : List (Int)) (x3 : Int) (x4 : List (Int × Int × Int)) (x5 : List (Int)) : laws_eqMaze.F n x0 x1 x2 x3 x4 x5 = exK cfg (pick (cal n)) (lam n) fin code (fun _ _ => none) (mkSt shp ((x0, x1, x2, ()), (x3, x4, x5, ()), ())) fin := by
  kernel_rfl
def pfn (n : Nat) : PFn := mkFn shp outs (fun x => laws_eqMaze.F n x.1.1 x.1.2.1 x.1.2.2.1 x.2.1.1 x.2.1.2.1 x.2.1.2.2.1) out
theorem ok (n : Nat) : (pfn n).Ok Go.Proofs.Try.prog 10 :=
  mkFn_ok (fn := Go.Proofs.Try.f10) (code := code) Go.Proofs.Try.func10 (by kernel_rfl) (by decide) (C := cfg) (Φ := pick (cal n)) (Λ := lam n) (into := into) hT (cal_ok n) (by kernel_rfl) rfl (by decide) rfl (fun _ => rfl) (loops n)
    (fun x r h => by
      have e := F_eq n x.1.1 x.1.2.1 x.1.2.2.1 x.2.1.1 x.2.1.2.1 x.2.1.2.2.1
      exact e.symm.trans h)
end laws_eqMaze
end
/-! ### loop.example/g01158/laws.markIntA3S -/
section
namespace laws_markIntA3S
noncomputable def code : Code := (Go.Proofs.Try.f42.body).getD .skip
abbrev shp : Shape := [(0, .one (.row (.t3) true)), (1, .one (.int .i64))]
abbrev outs : List KD := [.one (.int .i64)]
abbrev R : Type := Int × (List (Int × Int × Int))
abbrev k0 : KD := .one (.row (.t3) true)
abbrev rshp : Shape := [(1, .one (.int .i64))]
def out : R → denL outs := fun r => (r.1, ())
def up : R → k0.den := fun r => r.2
def into : denL outs → k0.den → R := fun y z => (y.1, z)
def cfg : Cfg := ⟨ty, 26, [0], fun i => match Nat.beq i 0 with | true => .loop | false => match Nat.beq i 2 with | true => .unroll 4 | false => .plain, fun _ => none⟩
def cal (n : Nat) : List (Nat × PFn) := []
theorem cal_ok (n : Nat) : ∀ g, (pick (cal n) g).Ok Go.Proofs.Try.prog g := pick_ok (by
  intro p hp
  cases hp)
def fin : St → Option R := finMut ty [.tmp 4] outs k0 into
abbrev sin0 : Shape := [(0, .one (.row (.t3) true)), (1, .one (.int .i64)), (5, .one (.int .i64))]
abbrev sout0 : Shape := [(0, .one (.row (.t3) true)), (1, .one (.int .i64))]
def lam (n : Nat) : Nat → (St → Option R) → St → Option R := fun i => match Nat.beq i 0 with | true => (fun K st => match absSt sin0 st with | some (x, _) => laws_markIntA3S.l0 n (fun y0 y1 => K (mkSt sout0 (y0, y1, ()))) n x.1 x.2.1 x.2.2.1 | none => none) | false => fun _ _ => none
noncomputable def lps : List (Nat × Code) := loopsOf cfg.blk code
noncomputable def b0 : Code := bodyOf lps 0
theorem l0_eq (n : Nat) (K : St → Option R) : ∀ (j : Nat) (x0 : List (Int × Int × Int)) (x1 : Int) (x2 : Int), laws_markIntA3S.l0 n (fun y0 y1 => K (mkSt sout0 (y0, y1, ()))) j x0 x1 x2 = iter (roundK cfg (pick (cal n)) (lam n) fin 0 b0 sin0 sout0 K) j (mkSt sin0 (x0, x1, x2, ()))
  | 0, _, _, _ => rfl
  | j + 1, x0, x1, x2 => by
    have ih : laws_markIntA3S.l0 n (fun y0 y1 => K (mkSt sout0 (y0, y1, ()))) j = fun x0 x1 x2 => iter (roundK cfg (pick (cal n)) (lam n) fin 0 b0 sin0 sout0 K) j (mkSt sin0 (x0, x1, x2, ())) := funext fun x0 => funext fun x1 => funext fun x2 => l0_eq n K j x0 x1 x2
    rw [laws_markIntA3S.l0, ih]
    show _ = roundK cfg (pick (cal n)) (lam n) fin 0 b0 sin0 sout0 K (iter (roundK cfg (pick (cal n)) (lam n) fin 0 b0 sin0 sout0 K) j) (mkSt sin0 (x0, x1, x2, ()))
    kernel_rfl
theorem loops (n : Nat) : LoopsOk cfg (pick (cal n)) (lam n) fin (loopsOf cfg.blk code) := by
  have h : loopsOf cfg.blk code = [(0, b0)] := by kernel_rfl
  rw [h]
  intro p hp K st r hr
  simp only [List.mem_cons, List.not_mem_nil, or_false] at hp
  rcases hp with rfl
  · have hr' : (match absSt sin0 st with | some (x, _) => laws_markIntA3S.l0 n (fun y0 y1 => K (mkSt sout0 (y0, y1, ()))) n x.1 x.2.1 x.2.2.1 | none => none) = some r := hr
    split at hr'
    · rename_i x es hx
      rw [l0_eq] at hr'
      exact ⟨sin0, sout0, n, x, es, hx, hr'⟩
    · cases hr'
theorem F_eq (n : Nat) (x0 : List (Int × Int × Int)) (x1 : Int) : laws_markIntA3S.F n x0 x1 = exK cfg (pick (cal n)) (lam n) fin code (fun _ _ => none) (mkSt shp (x0, x1, ())) fin := by
  kernel_rfl
def pfn (n : Nat) : PFn := mkMut k0 rshp.ks outs (fun x xs => laws_markIntA3S.F n x xs.1) out up
theorem ok (n : Nat) : (pfn n).Ok Go.Proofs.Try.prog 42 :=
  mkMut_ok (rshp := rshp) (fn := Go.Proofs.Try.f42) (code := code) Go.Proofs.Try.func42 (by kernel_rfl) (by decide) (C := cfg) (Φ := pick (cal n)) (Λ := lam n) (into := into) hT (cal_ok n) (by kernel_rfl) rfl (by decide) rfl rfl (by decide) (int1_loc .i64) (int1_ext .i64) (fun _ _ => rfl) (fun _ _ => rfl) (loops n)
    (fun x xs r h => by
      have e := F_eq n x xs.1
      exact e.symm.trans h)
end laws_markIntA3S
end
/-! ### loop.example/g01158/laws.markIntS -/
section
namespace laws_markIntS
noncomputable def code : Code := (Go.Proofs.Try.f43.body).getD .skip
abbrev shp : Shape := [(0, .one (.row (.int .i64) true)), (1, .one (.int .i64))]
abbrev outs : List KD := [.one (.int .i64)]
abbrev R : Type := Int × (List (Int))
abbrev k0 : KD := .one (.row (.int .i64) true)
abbrev rshp : Shape := [(1, .one (.int .i64))]
def out : R → denL outs := fun r => (r.1, ())
def up : R → k0.den := fun r => r.2
def into : denL outs → k0.den → R := fun y z => (y.1, z)
def cfg : Cfg := ⟨ty, 19, [0], fun i => match Nat.beq i 0 with | true => .loop | false => .plain, fun _ => none⟩
def cal (n : Nat) : List (Nat × PFn) := []
theorem cal_ok (n : Nat) : ∀ g, (pick (cal n) g).Ok Go.Proofs.Try.prog g := pick_ok (by
  intro p hp
  cases hp)
def fin : St → Option R := finMut ty [.tmp 4] outs k0 into
abbrev sin0 : Shape := [(0, .one (.row (.int .i64) true)), (1, .one (.int .i64)), (5, .one (.int .i64))]
abbrev sout0 : Shape := [(0, .one (.row (.int .i64) true)), (1, .one (.int .i64))]
def lam (n : Nat) : Nat → (St → Option R) → St → Option R := fun i => match Nat.beq i 0 with | true => (fun K st => match absSt sin0 st with | some (x, _) => laws_markIntS.l0 n (fun y0 y1 => K (mkSt sout0 (y0, y1, ()))) n x.1 x.2.1 x.2.2.1 | none => none) | false => fun _ _ => none
noncomputable def lps : List (Nat × Code) := loopsOf cfg.blk code
noncomputable def b0 : Code := bodyOf lps 0
theorem l0_eq (n : Nat) (K : St → Option R) : ∀ (j : Nat) (x0 : List (Int)) (x1 : Int) (x2 : Int), laws_markIntS.l0 n (fun y0 y1 => K (mkSt sout0 (y0, y1, ()))) j x0 x1 x2 = iter (roundK cfg (pick (cal n)) (lam n) fin 0 b0 sin0 sout0 K) j (mkSt sin0 (x0, x1, x2, ()))
  | 0, _, _, _ => rfl
  | j + 1, x0, x1, x2 => by
    have ih : laws_markIntS.l0 n (fun y0 y1 => K (mkSt sout0 (y0, y1, ()))) j = fun x0 x1 x2 => iter (roundK cfg (pick (cal n)) (lam n) fin 0 b0 sin0 sout0 K) j (mkSt sin0 (x0, x1, x2, ())) := funext fun x0 => funext fun x1 => funext fun x2 => l0_eq n K j x0 x1 x2
    rw [laws_markIntS.l0, ih]
    show _ = roundK cfg (pick (cal n)) (lam n) fin 0 b0 sin0 sout0 K (iter (roundK cfg (pick (cal n)) (lam n) fin 0 b0 sin0 sout0 K) j) (mkSt sin0 (x0, x1, x2, ()))
    kernel_rfl
theorem loops (n : Nat) : LoopsOk cfg (pick (cal n)) (lam n) fin (loopsOf cfg.blk code) := by
  have h : loopsOf cfg.blk code = [(0, b0)] := by kernel_rfl
  rw [h]
  intro p hp K st r hr
  simp only [List.mem_cons, List.not_mem_nil, or_false] at hp
  rcases hp with rfl
  · have hr' : (match absSt sin0 st with | some (x, _) => laws_markIntS.l0 n (fun y0 y1 => K (mkSt sout0 (y0, y1, ()))) n x.1 x.2.1 x.2.2.1 | none => none) = some r := hr
    split at hr'
    · rename_i x es hx
      rw [l0_eq] at hr'
      exact ⟨sin0, sout0, n, x, es, hx, hr'⟩
    · cases hr'
theorem F_eq (n : Nat) (x0 : List (Int)) (x1 : Int) : laws_markIntS.F n x0 x1 = exK cfg (pick (cal n)) (lam n) fin code (fun _ _ => none) (mkSt shp (x0, x1, ())) fin := by
  kernel_rfl
def pfn (n : Nat) : PFn := mkMut k0 rshp.ks outs (fun x xs => laws_markIntS.F n x xs.1) out up
theorem ok (n : Nat) : (pfn n).Ok Go.Proofs.Try.prog 43 :=
  mkMut_ok (rshp := rshp) (fn := Go.Proofs.Try.f43) (code := code) Go.Proofs.Try.func43 (by kernel_rfl) (by decide) (C := cfg) (Φ := pick (cal n)) (Λ := lam n) (into := into) hT (cal_ok n) (by kernel_rfl) rfl (by decide) rfl rfl (by decide) (int1_loc .i64) (int1_ext .i64) (fun _ _ => rfl) (fun _ _ => rfl) (loops n)
    (fun x xs r h => by
      have e := F_eq n x xs.1
      exact e.symm.trans h)
end laws_markIntS
end
/-! ### loop.example/g01158/laws.markMaze -/
section
namespace laws_markMaze
noncomputable def code : Code := (Go.Proofs.Try.f11.body).getD .skip
abbrev shp : Shape := [(0, .agg [.int .i64, .row (.t3) true, .row (.int .i64) true]), (1, .one (.int .i64))]
abbrev outs : List KD := [.one (.int .i64)]
abbrev R : Type := Int × Int × (List (Int × Int × Int)) × (List (Int))
abbrev k0 : KD := .agg [.int .i64, .row (.t3) true, .row (.int .i64) true]
abbrev rshp : Shape := [(1, .one (.int .i64))]
def out : R → denL outs := fun r => (r.1, ())
def up : R → k0.den := fun r => (r.2.1, r.2.2.1, r.2.2.2, ())
def into : denL outs → k0.den → R := fun y z => (y.1, z.1, z.2.1, z.2.2.1)
def cfg : Cfg := ⟨ty, 14, [0], fun _ => .plain, fun _ => none⟩
def cal (n : Nat) : List (Nat × PFn) := [(42, laws_markIntA3S.pfn n), (43, laws_markIntS.pfn n)]
theorem cal_ok (n : Nat) : ∀ g, (pick (cal n) g).Ok Go.Proofs.Try.prog g := pick_ok (by
  intro p hp
  simp only [cal, List.mem_cons, List.not_mem_nil, or_false] at hp
  rcases hp with rfl | rfl
  · exact laws_markIntA3S.ok n
  · exact laws_markIntS.ok n)
def fin : St → Option R := finMut ty [.tmp 4] outs k0 into
def lam (n : Nat) : Nat → (St → Option R) → St → Option R := fun _ => fun _ _ => none
theorem loops (n : Nat) : LoopsOk cfg (pick (cal n)) (lam n) fin (loopsOf cfg.blk code) := by
  have h : loopsOf cfg.blk code = [] := by kernel_rfl
  rw [h]
  intro p hp
  cases hp
theorem F_eq (n : Nat) (x0 : Int) (x1 : List (Int × Int × Int)) (x2 : List (Int)) (x3 : Int) : laws_markMaze.F n x0 x1 x2 x3 = exK cfg (pick (cal n)) (lam n) fin code (fun _ _ => none) (mkSt shp ((x0, x1, x2, ()), x3, ())) fin := by
  kernel_rfl
def pfn (n : Nat) : PFn := mkMut k0 rshp.ks outs (fun x xs => laws_markMaze.F n x.1 x.2.1 x.2.2.1 xs.1) out up
theorem ok (n : Nat) : (pfn n).Ok Go.Proofs.Try.prog 11 :=
  mkMut_ok (rshp := rshp) (fn := Go.Proofs.Try.f11) (code := code) Go.Proofs.Try.func11 (by kernel_rfl) (by decide) (C := cfg) (Φ := pick (cal n)) (Λ := lam n) (into := into) hT (cal_ok n) (by kernel_rfl) rfl (by decide) rfl rfl (by decide) (int1_loc .i64) (int1_ext .i64) (fun _ _ => rfl) (fun _ _ => rfl) (loops n)
    (fun x xs r h => by
      have e := F_eq n x.1 x.2.1 x.2.2.1 xs.1
      exact e.symm.trans h)
end laws_markMaze
end
/-! ### loop.example/g01158/laws.markIntSS -/
section
namespace laws_markIntSS
open Go.RowKit in
set_option maxRecDepth 100000 in
theorem walk (n : Nat) (hn : n ≤ 1048576) (A : Option Addr) (cap : Nat) (k : Int) (w : World) (I : Nat → Int → World → Prop) (V : Nat → Value) (h0 : I 0 k w)
    (step : ∀ i k wr, I i k wr → i < n → ∃ b o, A = some ⟨b, o, none⟩ ∧ wr.cell? ⟨b, o + i, none⟩ = some (V i) ∧ Calls Go.Proofs.Try.prog 43 #[V i, .int .i64 k] wr fun e w' => ∃ k', e = .returned (.int .i64 k') ∧ I (i + 1) k' w') :
    Calls Go.Proofs.Try.prog 12 #[.slice A n cap, .int .i64 k] w fun e w' => ∃ k', e = .returned (.int .i64 k') ∧ I n k' w' := by
  go_enter Go.Proofs.Try.func12, Go.Proofs.Try.ntmps12
  go_wp2
  go_loopg [1, 5] n (fun m a b wr => ∃ (i : Nat) (k' : Int), m = n - i ∧ i ≤ n ∧ b = .int .i64 i ∧ a = .int .i64 k' ∧ I i k' wr)
  case atStart => exact ⟨0, k, rfl, Nat.zero_le _, rfl, rfl, h0⟩
  case round =>
    obtain ⟨i, k', hm, hi, rfl, rfl, hI⟩ := hrel
    by_cases hlt : i < n
    · obtain ⟨b, o, rfl, hc, hcall⟩ := step i k' wr hI hlt
      have hlt' : (i : Int) < (n : Int) := by omega
      go_wp2_with fail
      refine hcall.mono fun e w' ⟨k2, he, hI2⟩ => ?_
      subst he
      go_wp2
      go_roundg (n - (i + 1))
      case measure => omega
      case rel => exact ⟨i + 1, k2, rfl, by omega, by go_num, rfl, hI2⟩
    · obtain rfl : i = n := by omega
      go_wp2
      go_ret
      exact ⟨k', rfl, hI⟩
def pfn (n : Nat) : PFn := tabMut (laws_markIntSS.F n)
theorem ok (n : Nat) : (pfn n).Ok Go.Proofs.Try.prog 12 :=
  tabMut_ok (fn := Go.Proofs.Try.f12) (c := (Go.Proofs.Try.f12.body).getD .skip) Go.Proofs.Try.func12 (by kernel_rfl) (by decide) (laws_markIntS.ok n) (fun ll k r h => by
    have h' : (if ll.length ≤ 1048576 then markT (laws_markIntS.F n) ll k else none) = some r := h
    split at h'
    · rename_i hl
      exact ⟨hl, h'⟩
    · cases h') walk
end laws_markIntSS
end
/-! ### loop.example/g01158/laws.heldIntS -/
section
namespace laws_heldIntS
noncomputable def code : Code := (Go.Proofs.Try.f44.body).getD .skip
abbrev shp : Shape := [(0, .one (.row (.int .i64) false)), (1, .one (.int .i64))]
abbrev outs : List KD := [.one (.int .i64)]
abbrev R : Type := Int
def out : R → denL outs := fun r => (r, ())
def into : denL outs → R := fun y => y.1
def cfg : Cfg := ⟨ty, 21, [], fun i => match Nat.beq i 0 with | true => .loop | false => .plain, fun _ => none⟩
def cal (n : Nat) : List (Nat × PFn) := []
theorem cal_ok (n : Nat) : ∀ g, (pick (cal n) g).Ok Go.Proofs.Try.prog g := pick_ok (by
  intro p hp
  cases hp)
def fin : St → Option R := finOf ty [.tmp 4] outs into
abbrev sin0 : Shape := [(0, .one (.row (.int .i64) false)), (1, .one (.int .i64)), (5, .one (.int .i64))]
abbrev sout0 : Shape := [(1, .one (.int .i64))]
def lam (n : Nat) : Nat → (St → Option R) → St → Option R := fun i => match Nat.beq i 0 with | true => (fun K st => match absSt sin0 st with | some (x, _) => laws_heldIntS.l0 n (fun y0 => K (mkSt sout0 (y0, ()))) n x.1 x.2.1 x.2.2.1 | none => none) | false => fun _ _ => none
noncomputable def lps : List (Nat × Code) := loopsOf cfg.blk code
noncomputable def b0 : Code := bodyOf lps 0
theorem l0_eq (n : Nat) (K : St → Option R) : ∀ (j : Nat) (x0 : List (Int)) (x1 : Int) (x2 : Int), laws_heldIntS.l0 n (fun y0 => K (mkSt sout0 (y0, ()))) j x0 x1 x2 = iter (roundK cfg (pick (cal n)) (lam n) fin 0 b0 sin0 sout0 K) j (mkSt sin0 (x0, x1, x2, ()))
  | 0, _, _, _ => rfl
  | j + 1, x0, x1, x2 => by
    have ih : laws_heldIntS.l0 n (fun y0 => K (mkSt sout0 (y0, ()))) j = fun x0 x1 x2 => iter (roundK cfg (pick (cal n)) (lam n) fin 0 b0 sin0 sout0 K) j (mkSt sin0 (x0, x1, x2, ())) := funext fun x0 => funext fun x1 => funext fun x2 => l0_eq n K j x0 x1 x2
    rw [laws_heldIntS.l0, ih]
    show _ = roundK cfg (pick (cal n)) (lam n) fin 0 b0 sin0 sout0 K (iter (roundK cfg (pick (cal n)) (lam n) fin 0 b0 sin0 sout0 K) j) (mkSt sin0 (x0, x1, x2, ()))
    kernel_rfl
theorem loops (n : Nat) : LoopsOk cfg (pick (cal n)) (lam n) fin (loopsOf cfg.blk code) := by
  have h : loopsOf cfg.blk code = [(0, b0)] := by kernel_rfl
  rw [h]
  intro p hp K st r hr
  simp only [List.mem_cons, List.not_mem_nil, or_false] at hp
  rcases hp with rfl
  · have hr' : (match absSt sin0 st with | some (x, _) => laws_heldIntS.l0 n (fun y0 => K (mkSt sout0 (y0, ()))) n x.1 x.2.1 x.2.2.1 | none => none) = some r := hr
    split at hr'
    · rename_i x es hx
      rw [l0_eq] at hr'
      exact ⟨sin0, sout0, n, x, es, hx, hr'⟩
    · cases hr'
theorem F_eq (n : Nat) (x0 : List (Int)) (x1 : Int) : laws_heldIntS.F n x0 x1 = exK cfg (pick (cal n)) (lam n) fin code (fun _ _ => none) (mkSt shp (x0, x1, ())) fin := by
  kernel_rfl
def pfn (n : Nat) : PFn := mkFn shp outs (fun x => laws_heldIntS.F n x.1 x.2.1) out
theorem ok (n : Nat) : (pfn n).Ok Go.Proofs.Try.prog 44 :=
  mkFn_ok (fn := Go.Proofs.Try.f44) (code := code) Go.Proofs.Try.func44 (by kernel_rfl) (by decide) (C := cfg) (Φ := pick (cal n)) (Λ := lam n) (into := into) hT (cal_ok n) (by kernel_rfl) rfl (by decide) rfl (fun _ => rfl) (loops n)
    (fun x r h => by
      have e := F_eq n x.1 x.2.1
      exact e.symm.trans h)
end laws_heldIntS
end
/-! ### loop.example/g01158/laws.heldIntSS -/
section
namespace laws_heldIntSS
noncomputable def code : Code := (Go.Proofs.Try.f13.body).getD .skip
abbrev shp : Shape := [(0, .one (.tab false)), (1, .one (.int .i64))]
abbrev outs : List KD := [.one (.int .i64)]
abbrev R : Type := Int
def out : R → denL outs := fun r => (r, ())
def into : denL outs → R := fun y => y.1
def cfg : Cfg := ⟨ty, 21, [], fun i => match Nat.beq i 0 with | true => .loop | false => .plain, fun _ => none⟩
def cal (n : Nat) : List (Nat × PFn) := [(44, laws_heldIntS.pfn n)]
theorem cal_ok (n : Nat) : ∀ g, (pick (cal n) g).Ok Go.Proofs.Try.prog g := pick_ok (by
  intro p hp
  simp only [cal, List.mem_cons, List.not_mem_nil, or_false] at hp
  rcases hp with rfl
  · exact laws_heldIntS.ok n)
def fin : St → Option R := finOf ty [.tmp 4] outs into
abbrev sin0 : Shape := [(0, .one (.tab false)), (1, .one (.int .i64)), (5, .one (.int .i64))]
abbrev sout0 : Shape := [(1, .one (.int .i64))]
def lam (n : Nat) : Nat → (St → Option R) → St → Option R := fun i => match Nat.beq i 0 with | true => (fun K st => match absSt sin0 st with | some (x, _) => laws_heldIntSS.l0 n (fun y0 => K (mkSt sout0 (y0, ()))) n x.1 x.2.1 x.2.2.1 | none => none) | false => fun _ _ => none
noncomputable def lps : List (Nat × Code) := loopsOf cfg.blk code
noncomputable def b0 : Code := bodyOf lps 0
theorem l0_eq (n : Nat) (K : St → Option R) : ∀ (j : Nat) (x0 : List (List Int)) (x1 : Int) (x2 : Int), laws_heldIntSS.l0 n (fun y0 => K (mkSt sout0 (y0, ()))) j x0 x1 x2 = iter (roundK cfg (pick (cal n)) (lam n) fin 0 b0 sin0 sout0 K) j (mkSt sin0 (x0, x1, x2, ()))
  | 0, _, _, _ => rfl
  | j + 1, x0, x1, x2 => by
    have ih : laws_heldIntSS.l0 n (fun y0 => K (mkSt sout0 (y0, ()))) j = fun x0 x1 x2 => iter (roundK cfg (pick (cal n)) (lam n) fin 0 b0 sin0 sout0 K) j (mkSt sin0 (x0, x1, x2, ())) := funext fun x0 => funext fun x1 => funext fun x2 => l0_eq n K j x0 x1 x2
    rw [laws_heldIntSS.l0, ih]
    show _ = roundK cfg (pick (cal n)) (lam n) fin 0 b0 sin0 sout0 K (iter (roundK cfg (pick (cal n)) (lam n) fin 0 b0 sin0 sout0 K) j) (mkSt sin0 (x0, x1, x2, ()))
    kernel_rfl
theorem loops (n : Nat) : LoopsOk cfg (pick (cal n)) (lam n) fin (loopsOf cfg.blk code) := by
  have h : loopsOf cfg.blk code = [(0, b0)] := by kernel_rfl
  rw [h]
  intro p hp K st r hr
  simp only [List.mem_cons, List.not_mem_nil, or_false] at hp
  rcases hp with rfl
  · have hr' : (match absSt sin0 st with | some (x, _) => laws_heldIntSS.l0 n (fun y0 => K (mkSt sout0 (y0, ()))) n x.1 x.2.1 x.2.2.1 | none => none) = some r := hr
    split at hr'
    · rename_i x es hx
      rw [l0_eq] at hr'
      exact ⟨sin0, sout0, n, x, es, hx, hr'⟩
    · cases hr'
theorem F_eq (n : Nat) (x0 : List (List Int)) (x1 : Int) : laws_heldIntSS.F n x0 x1 = exK cfg (pick (cal n)) (lam n) fin code (fun _ _ => none) (mkSt shp (x0, x1, ())) fin := by
  kernel_rfl
def pfn (n : Nat) : PFn := mkFn shp outs (fun x => laws_heldIntSS.F n x.1 x.2.1) out
theorem ok (n : Nat) : (pfn n).Ok Go.Proofs.Try.prog 13 :=
  mkFn_ok (fn := Go.Proofs.Try.f13) (code := code) Go.Proofs.Try.func13 (by kernel_rfl) (by decide) (C := cfg) (Φ := pick (cal n)) (Λ := lam n) (into := into) hT (cal_ok n) (by kernel_rfl) rfl (by decide) rfl (fun _ => rfl) (loops n)
    (fun x r h => by
      have e := F_eq n x.1 x.2.1
      exact e.symm.trans h)
end laws_heldIntSS
end
/-! ### loop.example/g01158/laws.FnExactRemainTable -/
section
namespace laws_FnExactRemainTable
noncomputable def code : Code := (Go.Proofs.Try.f3.body).getD .skip
abbrev shp : Shape := [(0, .agg [.int .i64, .row (.t3) false, .row (.int .i64) false])]
abbrev outs : List KD := [.one (.bool)]
abbrev R : Type := Bool
def out : R → denL outs := fun r => (r, ())
def into : denL outs → R := fun y => y.1
def cfg : Cfg := ⟨ty, 96, [], fun _ => .plain, fun i => match Nat.beq i 10 with | true => some [(1, .box true [.int .i64, .row (.t3) false, .row (.int .i64) false]), (4, .one (.tab true)), (5, .one (.bool)), (6, .box true [.int .i64, .row (.t3) true, .row (.int .i64) true]), (7, .one (.tab true)), (8, .one (.bool))] | false => match Nat.beq i 16 with | true => some [(1, .box true [.int .i64, .row (.t3) false, .row (.int .i64) false]), (4, .one (.tab true)), (5, .one (.bool)), (7, .one (.tab true))] | false => none⟩
def cal (n : Nat) : List (Nat × PFn) := [(5, laws_szMaze.pfn n), (6, spec_RemainTable.pfn n), (7, laws_toMaze.pfn n), (8, impl_RemainTable.pfn n), (9, laws_eqIntSS.pfn n), (10, laws_eqMaze.pfn n), (11, laws_markMaze.pfn n), (12, laws_markIntSS.pfn n), (13, laws_heldIntSS.pfn n)]
theorem cal_ok (n : Nat) : ∀ g, (pick (cal n) g).Ok Go.Proofs.Try.prog g := pick_ok (by
  intro p hp
  simp only [cal, List.mem_cons, List.not_mem_nil, or_false] at hp
  rcases hp with rfl | rfl | rfl | rfl | rfl | rfl | rfl | rfl | rfl
  · exact laws_szMaze.ok n
  · exact spec_RemainTable.ok n
  · exact laws_toMaze.ok n
  · exact impl_RemainTable.ok n
  · exact laws_eqIntSS.ok n
  · exact laws_eqMaze.ok n
  · exact laws_markMaze.ok n
  · exact laws_markIntSS.ok n
  · exact laws_heldIntSS.ok n)
def fin : St → Option R := finOf ty [.tmp 2] outs into
def lam (n : Nat) : Nat → (St → Option R) → St → Option R := fun _ => fun _ _ => none
theorem loops (n : Nat) : LoopsOk cfg (pick (cal n)) (lam n) fin (loopsOf cfg.blk code) := by
  have h : loopsOf cfg.blk code = [] := by kernel_rfl
  rw [h]
  intro p hp
  cases hp
theorem F_eq (n : Nat) (x0 : Int) (x1 : List (Int × Int × Int)) (x2 : List (Int)) : laws_FnExactRemainTable.F n x0 x1 x2 = exK cfg (pick (cal n)) (lam n) fin code (fun _ _ => none) (mkSt shp ((x0, x1, x2, ()), ())) fin := by
  kernel_rfl
def pfn (n : Nat) : PFn := mkFn shp outs (fun x => laws_FnExactRemainTable.F n x.1.1 x.1.2.1 x.1.2.2.1) out
theorem ok (n : Nat) : (pfn n).Ok Go.Proofs.Try.prog 3 :=
  mkFn_ok (fn := Go.Proofs.Try.f3) (code := code) Go.Proofs.Try.func3 (by kernel_rfl) (by decide) (C := cfg) (Φ := pick (cal n)) (Λ := lam n) (into := into) hT (cal_ok n) (by kernel_rfl) rfl (by decide) rfl (fun _ => rfl) (loops n)
    (fun x r h => by
      have e := F_eq n x.1.1 x.1.2.1 x.1.2.2.1
      exact e.symm.trans h)
end laws_FnExactRemainTable
end
end
end Go.Pf
