/- The Go functions of this seat do what their pure functions tell; printed by a program of mine (mach.py). -/
import Derived.Test.YtnnonephkmikmaaProg
import Derived.Test.YtnnonephkmikmaaFw28
import Derived.Test.YtnnonephkmikmaaPure
import Derived.KernelRfl
set_option linter.unusedVariables false
set_option autoImplicit false
set_option maxRecDepth 100000
set_option maxHeartbeats 4000000
namespace Go.Pf
open Go Go.Fx

def tys : List (Nat × TI) := [(3, ⟨.int .i64, 1, [.int .i64 0], some (.int .i64), false⟩),
  (4, ⟨.bool, 1, [.bool false], some (.bool), false⟩),
  (22, ⟨.slice 77, 1, [.nil], none, false⟩),
  (23, ⟨.slice 3, 1, [.nil], none, false⟩),
  (25, ⟨.struct [(3, 0), (22, 1), (23, 2)], 3, [.int .i64 0, .nil, .nil], none, false⟩),
  (29, ⟨.struct [(3, 0), (22, 1), (23, 2)], 3, [.int .i64 0, .nil, .nil], none, false⟩),
  (61, ⟨.slice 64, 1, [.nil], none, false⟩),
  (64, ⟨.struct [(3, 0), (3, 1)], 2, [.int .i64 0, .int .i64 0], some (.p2), false⟩),
  (77, ⟨.arr 3 3, 3, [.int .i64 0, .int .i64 0, .int .i64 0], some (.t3), false⟩)]
def ty : Ty := tyOf tys
theorem hT : TyOk Go.Proofs.Try.prog ty := tyOf_ok (by kernel_rfl)

/-! ### loop.example/g01158/laws.szIntA3S -/
section
namespace laws_szIntA3S
noncomputable def code : Code := (Go.Proofs.Try.f47.body).getD .skip
abbrev shp : Shape := [(0, .one (.row (.t3) false)), (1, .one (.int .i64))]
abbrev outs : List KD := [.one (.int .i64)]
abbrev R : Type := Int
def out : R → denL outs := fun r => (r, ())
def into : denL outs → R := fun y => y.1
def cfg : Cfg := ⟨ty, 12, [], fun _ => .plain, fun _ => none⟩
def cal (n : Nat) : List (Nat × PFn) := []
theorem cal_ok (n : Nat) : ∀ g, (pick (cal n) g).Ok Go.Proofs.Try.prog g := pick_ok (by
  intro p hp
  cases hp)
def fin : St → Option R := finOf ty [.tmp 4] outs into
def lam (n : Nat) : Nat → (St → Option R) → St → Option R := fun _ => fun _ _ => none
theorem loops (n : Nat) : LoopsOk cfg (pick (cal n)) (lam n) fin (loopsOf cfg.blk code) := by
  have h : loopsOf cfg.blk code = [] := by kernel_rfl
  rw [h]
  intro p hp
  cases hp
theorem F_eq (n : Nat) (x0 : List (Int × Int × Int)) (x1 : Int) : laws_szIntA3S.F n x0 x1 = exK cfg (pick (cal n)) (lam n) fin code (fun _ _ => none) (mkSt shp (x0, x1, ())) fin := by
  kernel_rfl
def pfn (n : Nat) : PFn := mkFn shp outs (fun x => laws_szIntA3S.F n x.1 x.2.1) out
theorem ok (n : Nat) : (pfn n).Ok Go.Proofs.Try.prog 47 :=
  mkFn_ok (fn := Go.Proofs.Try.f47) (code := code) Go.Proofs.Try.func47 (by kernel_rfl) (by decide) (C := cfg) (Φ := pick (cal n)) (Λ := lam n) (into := into) hT (cal_ok n) (by kernel_rfl) rfl (by decide) rfl (fun _ => rfl) (loops n)
    (fun x r h => by
      have e := F_eq n x.1 x.2.1
      exact e.symm.trans h)
end laws_szIntA3S
end
/-! ### loop.example/g01158/laws.szIntS -/
section
namespace laws_szIntS
noncomputable def code : Code := (Go.Proofs.Try.f48.body).getD .skip
abbrev shp : Shape := [(0, .one (.row (.int .i64) false)), (1, .one (.int .i64))]
abbrev outs : List KD := [.one (.int .i64)]
abbrev R : Type := Int
def out : R → denL outs := fun r => (r, ())
def into : denL outs → R := fun y => y.1
def cfg : Cfg := ⟨ty, 12, [], fun _ => .plain, fun _ => none⟩
def cal (n : Nat) : List (Nat × PFn) := []
theorem cal_ok (n : Nat) : ∀ g, (pick (cal n) g).Ok Go.Proofs.Try.prog g := pick_ok (by
  intro p hp
  cases hp)
def fin : St → Option R := finOf ty [.tmp 4] outs into
def lam (n : Nat) : Nat → (St → Option R) → St → Option R := fun _ => fun _ _ => none
theorem loops (n : Nat) : LoopsOk cfg (pick (cal n)) (lam n) fin (loopsOf cfg.blk code) := by
  have h : loopsOf cfg.blk code = [] := by kernel_rfl
  rw [h]
  intro p hp
  cases hp
theorem F_eq (n : Nat) (x0 : List (Int)) (x1 : Int) : laws_szIntS.F n x0 x1 = exK cfg (pick (cal n)) (lam n) fin code (fun _ _ => none) (mkSt shp (x0, x1, ())) fin := by
  kernel_rfl
def pfn (n : Nat) : PFn := mkFn shp outs (fun x => laws_szIntS.F n x.1 x.2.1) out
theorem ok (n : Nat) : (pfn n).Ok Go.Proofs.Try.prog 48 :=
  mkFn_ok (fn := Go.Proofs.Try.f48) (code := code) Go.Proofs.Try.func48 (by kernel_rfl) (by decide) (C := cfg) (Φ := pick (cal n)) (Λ := lam n) (into := into) hT (cal_ok n) (by kernel_rfl) rfl (by decide) rfl (fun _ => rfl) (loops n)
    (fun x r h => by
      have e := F_eq n x.1 x.2.1
      exact e.symm.trans h)
end laws_szIntS
end
/-! ### loop.example/g01158/laws.szMaze -/
section
namespace laws_szMaze
noncomputable def code : Code := (Go.Proofs.Try.f15.body).getD .skip
abbrev shp : Shape := [(0, .agg [.int .i64, .row (.t3) false, .row (.int .i64) false]), (1, .one (.int .i64))]
abbrev outs : List KD := [.one (.int .i64)]
abbrev R : Type := Int
def out : R → denL outs := fun r => (r, ())
def into : denL outs → R := fun y => y.1
def cfg : Cfg := ⟨ty, 18, [], fun _ => .plain, fun _ => none⟩
def cal (n : Nat) : List (Nat × PFn) := [(47, laws_szIntA3S.pfn n), (48, laws_szIntS.pfn n)]
theorem cal_ok (n : Nat) : ∀ g, (pick (cal n) g).Ok Go.Proofs.Try.prog g := pick_ok (by
  intro p hp
  simp only [cal, List.mem_cons, List.not_mem_nil, or_false] at hp
  rcases hp with rfl | rfl
  · exact laws_szIntA3S.ok n
  · exact laws_szIntS.ok n)
def fin : St → Option R := finOf ty [.tmp 4] outs into
def lam (n : Nat) : Nat → (St → Option R) → St → Option R := fun _ => fun _ _ => none
theorem loops (n : Nat) : LoopsOk cfg (pick (cal n)) (lam n) fin (loopsOf cfg.blk code) := by
  have h : loopsOf cfg.blk code = [] := by kernel_rfl
  rw [h]
  intro p hp
  cases hp
theorem F_eq (n : Nat) (x0 : Int) (x1 : List (Int × Int × Int)) (x2 : List (Int)) (x3 : Int) : laws_szMaze.F n x0 x1 x2 x3 = exK cfg (pick (cal n)) (lam n) fin code (fun _ _ => none) (mkSt shp ((x0, x1, x2, ()), x3, ())) fin := by
  kernel_rfl
def pfn (n : Nat) : PFn := mkFn shp outs (fun x => laws_szMaze.F n x.1.1 x.1.2.1 x.1.2.2.1 x.2.1) out
theorem ok (n : Nat) : (pfn n).Ok Go.Proofs.Try.prog 15 :=
  mkFn_ok (fn := Go.Proofs.Try.f15) (code := code) Go.Proofs.Try.func15 (by kernel_rfl) (by decide) (C := cfg) (Φ := pick (cal n)) (Λ := lam n) (into := into) hT (cal_ok n) (by kernel_rfl) rfl (by decide) rfl (fun _ => rfl) (loops n)
    (fun x r h => by
      have e := F_eq n x.1.1 x.1.2.1 x.1.2.2.1 x.2.1
      exact e.symm.trans h)
end laws_szMaze
end
/-! ### loop.example/g01158/laws.toIntA3 -/
section
namespace laws_toIntA3
noncomputable def code : Code := (Go.Proofs.Try.f90.body).getD .skip
abbrev shp : Shape := [(0, .agg [.int .i64, .int .i64, .int .i64])]
abbrev outs : List KD := [.agg [.int .i64, .int .i64, .int .i64]]
abbrev R : Type := Int × Int × Int
def out : R → denL outs := fun r => ((r.1, r.2.1, r.2.2, ()), ())
def into : denL outs → R := fun y => (y.1.1, y.1.2.1, y.1.2.2.1)
def cfg : Cfg := ⟨ty, 15, [], fun i => match Nat.beq i 0 with | true => .unroll 4 | false => .plain, fun _ => none⟩
def cal (n : Nat) : List (Nat × PFn) := []
theorem cal_ok (n : Nat) : ∀ g, (pick (cal n) g).Ok Go.Proofs.Try.prog g := pick_ok (by
  intro p hp
  cases hp)
def fin : St → Option R := finOf ty [.cell 2 77] outs into
def lam (n : Nat) : Nat → (St → Option R) → St → Option R := fun _ => fun _ _ => none
theorem loops (n : Nat) : LoopsOk cfg (pick (cal n)) (lam n) fin (loopsOf cfg.blk code) := by
  have h : loopsOf cfg.blk code = [] := by kernel_rfl
  rw [h]
  intro p hp
  cases hp
theorem F_eq (n : Nat) (x0 : Int) (x1 : Int) (x2 : Int) : laws_toIntA3.F n x0 x1 x2 = exK cfg (pick (cal n)) (lam n) fin code (fun _ _ => none) (mkSt shp ((x0, x1, x2, ()), ())) fin := by
  kernel_rfl
def pfn (n : Nat) : PFn := mkFn shp outs (fun x => laws_toIntA3.F n x.1.1 x.1.2.1 x.1.2.2.1) out
theorem ok (n : Nat) : (pfn n).Ok Go.Proofs.Try.prog 90 :=
  mkFn_ok (fn := Go.Proofs.Try.f90) (code := code) Go.Proofs.Try.func90 (by kernel_rfl) (by decide) (C := cfg) (Φ := pick (cal n)) (Λ := lam n) (into := into) hT (cal_ok n) (by kernel_rfl) rfl (by decide) rfl (fun _ => rfl) (loops n)
    (fun x r h => by
      have e := F_eq n x.1.1 x.1.2.1 x.1.2.2.1
      exact e.symm.trans h)
end laws_toIntA3
end
/-! ### loop.example/g01158/laws.toIntA3S -/
section
namespace laws_toIntA3S
noncomputable def code : Code := (Go.Proofs.Try.f52.body).getD .skip
abbrev shp : Shape := [(0, .one (.row (.t3) false))]
abbrev outs : List KD := [.one (.row (.t3) true)]
abbrev R : Type := (List (Int × Int × Int))
def out : R → denL outs := fun r => (r, ())
def into : denL outs → R := fun y => y.1
def cfg : Cfg := ⟨ty, 23, [], fun i => match Nat.beq i 0 with | true => .loop | false => .plain, fun _ => none⟩
def cal (n : Nat) : List (Nat × PFn) := [(90, laws_toIntA3.pfn n)]
theorem cal_ok (n : Nat) : ∀ g, (pick (cal n) g).Ok Go.Proofs.Try.prog g := pick_ok (by
  intro p hp
  simp only [cal, List.mem_cons, List.not_mem_nil, or_false] at hp
  rcases hp with rfl
  · exact laws_toIntA3.ok n)
def fin : St → Option R := finOf ty [.tmp 2] outs into
abbrev sin0 : Shape := [(0, .one (.row (.t3) false)), (3, .one (.row (.t3) true)), (4, .one (.int .i64))]
abbrev sout0 : Shape := [(3, .one (.row (.t3) true))]
def lam (n : Nat) : Nat → (St → Option R) → St → Option R := fun i => match Nat.beq i 0 with | true => (fun K st => match absSt sin0 st with | some (x, _) => laws_toIntA3S.l0 n (fun y0 => K (mkSt sout0 (y0, ()))) n x.1 x.2.1 x.2.2.1 | none => none) | false => fun _ _ => none
noncomputable def lps : List (Nat × Code) := loopsOf cfg.blk code
noncomputable def b0 : Code := bodyOf lps 0
theorem l0_eq (n : Nat) (K : St → Option R) : ∀ (j : Nat) (x0 : List (Int × Int × Int)) (x1 : List (Int × Int × Int)) (x2 : Int), laws_toIntA3S.l0 n (fun y0 => K (mkSt sout0 (y0, ()))) j x0 x1 x2 = iter (roundK cfg (pick (cal n)) (lam n) fin 0 b0 sin0 sout0 K) j (mkSt sin0 (x0, x1, x2, ()))
  | 0, _, _, _ => rfl
  | j + 1, x0, x1, x2 => by
    have ih : laws_toIntA3S.l0 n (fun y0 => K (mkSt sout0 (y0, ()))) j = fun x0 x1 x2 => iter (roundK cfg (pick (cal n)) (lam n) fin 0 b0 sin0 sout0 K) j (mkSt sin0 (x0, x1, x2, ())) := funext fun x0 => funext fun x1 => funext fun x2 => l0_eq n K j x0 x1 x2
    rw [laws_toIntA3S.l0, ih]
    show _ = roundK cfg (pick (cal n)) (lam n) fin 0 b0 sin0 sout0 K (iter (roundK cfg (pick (cal n)) (lam n) fin 0 b0 sin0 sout0 K) j) (mkSt sin0 (x0, x1, x2, ()))
    kernel_rfl
theorem loops (n : Nat) : LoopsOk cfg (pick (cal n)) (lam n) fin (loopsOf cfg.blk code) := by
  have h : loopsOf cfg.blk code = [(0, b0)] := by kernel_rfl
  rw [h]
  intro p hp K st r hr
  simp only [List.mem_cons, List.not_mem_nil, or_false] at hp
  rcases hp with rfl
  · have hr' : (match absSt sin0 st with | some (x, _) => laws_toIntA3S.l0 n (fun y0 => K (mkSt sout0 (y0, ()))) n x.1 x.2.1 x.2.2.1 | none => none) = some r := hr
    split at hr'
    · rename_i x es hx
      rw [l0_eq] at hr'
      exact ⟨sin0, sout0, n, x, es, hx, hr'⟩
    · cases hr'
theorem F_eq (n : Nat) (x0 : List (Int × Int × Int)) : laws_toIntA3S.F n x0 = exK cfg (pick (cal n)) (lam n) fin code (fun _ _ => none) (mkSt shp (x0, ())) fin := by
  kernel_rfl
def pfn (n : Nat) : PFn := mkFn shp outs (fun x => laws_toIntA3S.F n x.1) out
theorem ok (n : Nat) : (pfn n).Ok Go.Proofs.Try.prog 52 :=
  mkFn_ok (fn := Go.Proofs.Try.f52) (code := code) Go.Proofs.Try.func52 (by kernel_rfl) (by decide) (C := cfg) (Φ := pick (cal n)) (Λ := lam n) (into := into) hT (cal_ok n) (by kernel_rfl) rfl (by decide) rfl (fun _ => rfl) (loops n)
    (fun x r h => by
      have e := F_eq n x.1
      exact e.symm.trans h)
end laws_toIntA3S
end
/-! ### loop.example/g01158/laws.toIntS -/
section
namespace laws_toIntS
noncomputable def code : Code := (Go.Proofs.Try.f39.body).getD .skip
abbrev shp : Shape := [(0, .one (.row (.int .i64) false))]
abbrev outs : List KD := [.one (.row (.int .i64) true)]
abbrev R : Type := (List (Int))
def out : R → denL outs := fun r => (r, ())
def into : denL outs → R := fun y => y.1
def cfg : Cfg := ⟨ty, 22, [], fun i => match Nat.beq i 0 with | true => .loop | false => .plain, fun _ => none⟩
def cal (n : Nat) : List (Nat × PFn) := []
theorem cal_ok (n : Nat) : ∀ g, (pick (cal n) g).Ok Go.Proofs.Try.prog g := pick_ok (by
  intro p hp
  cases hp)
def fin : St → Option R := finOf ty [.tmp 2] outs into
abbrev sin0 : Shape := [(0, .one (.row (.int .i64) false)), (3, .one (.row (.int .i64) true)), (4, .one (.int .i64))]
abbrev sout0 : Shape := [(3, .one (.row (.int .i64) true))]
def lam (n : Nat) : Nat → (St → Option R) → St → Option R := fun i => match Nat.beq i 0 with | true => (fun K st => match absSt sin0 st with | some (x, _) => laws_toIntS.l0 n (fun y0 => K (mkSt sout0 (y0, ()))) n x.1 x.2.1 x.2.2.1 | none => none) | false => fun _ _ => none
noncomputable def lps : List (Nat × Code) := loopsOf cfg.blk code
noncomputable def b0 : Code := bodyOf lps 0
theorem l0_eq (n : Nat) (K : St → Option R) : ∀ (j : Nat) (x0 : List (Int)) (x1 : List (Int)) (x2 : Int), laws_toIntS.l0 n (fun y0 => K (mkSt sout0 (y0, ()))) j x0 x1 x2 = iter (roundK cfg (pick (cal n)) (lam n) fin 0 b0 sin0 sout0 K) j (mkSt sin0 (x0, x1, x2, ()))
  | 0, _, _, _ => rfl
  | j + 1, x0, x1, x2 => by
    have ih : laws_toIntS.l0 n (fun y0 => K (mkSt sout0 (y0, ()))) j = fun x0 x1 x2 => iter (roundK cfg (pick (cal n)) (lam n) fin 0 b0 sin0 sout0 K) j (mkSt sin0 (x0, x1, x2, ())) := funext fun x0 => funext fun x1 => funext fun x2 => l0_eq n K j x0 x1 x2
    rw [laws_toIntS.l0, ih]
    show _ = roundK cfg (pick (cal n)) (lam n) fin 0 b0 sin0 sout0 K (iter (roundK cfg (pick (cal n)) (lam n) fin 0 b0 sin0 sout0 K) j) (mkSt sin0 (x0, x1, x2, ()))
    kernel_rfl
theorem loops (n : Nat) : LoopsOk cfg (pick (cal n)) (lam n) fin (loopsOf cfg.blk code) := by
  have h : loopsOf cfg.blk code = [(0, b0)] := by kernel_rfl
  rw [h]
  intro p hp K st r hr
  simp only [List.mem_cons, List.not_mem_nil, or_false] at hp
  rcases hp with rfl
  · have hr' : (match absSt sin0 st with | some (x, _) => laws_toIntS.l0 n (fun y0 => K (mkSt sout0 (y0, ()))) n x.1 x.2.1 x.2.2.1 | none => none) = some r := hr
    split at hr'
    · rename_i x es hx
      rw [l0_eq] at hr'
      exact ⟨sin0, sout0, n, x, es, hx, hr'⟩
    · cases hr'
theorem F_eq (n : Nat) (x0 : List (Int)) : laws_toIntS.F n x0 = exK cfg (pick (cal n)) (lam n) fin code (fun _ _ => none) (mkSt shp (x0, ())) fin := by
  kernel_rfl
def pfn (n : Nat) : PFn := mkFn shp outs (fun x => laws_toIntS.F n x.1) out
theorem ok (n : Nat) : (pfn n).Ok Go.Proofs.Try.prog 39 :=
  mkFn_ok (fn := Go.Proofs.Try.f39) (code := code) Go.Proofs.Try.func39 (by kernel_rfl) (by decide) (C := cfg) (Φ := pick (cal n)) (Λ := lam n) (into := into) hT (cal_ok n) (by kernel_rfl) rfl (by decide) rfl (fun _ => rfl) (loops n)
    (fun x r h => by
      have e := F_eq n x.1
      exact e.symm.trans h)
end laws_toIntS
end
/-! ### loop.example/g01158/laws.toMaze -/
section
namespace laws_toMaze
noncomputable def code : Code := (Go.Proofs.Try.f17.body).getD .skip
abbrev shp : Shape := [(0, .agg [.int .i64, .row (.t3) false, .row (.int .i64) false])]
abbrev outs : List KD := [.agg [.int .i64, .row (.t3) true, .row (.int .i64) true]]
abbrev R : Type := Int × (List (Int × Int × Int)) × (List (Int))
def out : R → denL outs := fun r => ((r.1, r.2.1, r.2.2, ()), ())
def into : denL outs → R := fun y => (y.1.1, y.1.2.1, y.1.2.2.1)
def cfg : Cfg := ⟨ty, 16, [], fun _ => .plain, fun _ => none⟩
def cal (n : Nat) : List (Nat × PFn) := [(39, laws_toIntS.pfn n), (52, laws_toIntA3S.pfn n)]
theorem cal_ok (n : Nat) : ∀ g, (pick (cal n) g).Ok Go.Proofs.Try.prog g := pick_ok (by
  intro p hp
  simp only [cal, List.mem_cons, List.not_mem_nil, or_false] at hp
  rcases hp with rfl | rfl
  · exact laws_toIntS.ok n
  · exact laws_toIntA3S.ok n)
def fin : St → Option R := finOf ty [.cell 2 29] outs into
def lam (n : Nat) : Nat → (St → Option R) → St → Option R := fun _ => fun _ _ => none
theorem loops (n : Nat) : LoopsOk cfg (pick (cal n)) (lam n) fin (loopsOf cfg.blk code) := by
  have h : loopsOf cfg.blk code = [] := by kernel_rfl
  rw [h]
  intro p hp
  cases hp
theorem F_eq (n : Nat) (x0 : Int) (x1 : List (Int × Int × Int)) (x2 : List (Int)) : laws_toMaze.F n x0 x1 x2 = exK cfg (pick (cal n)) (lam n) fin code (fun _ _ => none) (mkSt shp ((x0, x1, x2, ()), ())) fin := by
  kernel_rfl
def pfn (n : Nat) : PFn := mkFn shp outs (fun x => laws_toMaze.F n x.1.1 x.1.2.1 x.1.2.2.1) out
theorem ok (n : Nat) : (pfn n).Ok Go.Proofs.Try.prog 17 :=
  mkFn_ok (fn := Go.Proofs.Try.f17) (code := code) Go.Proofs.Try.func17 (by kernel_rfl) (by decide) (C := cfg) (Φ := pick (cal n)) (Λ := lam n) (into := into) hT (cal_ok n) (by kernel_rfl) rfl (by decide) rfl (fun _ => rfl) (loops n)
    (fun x r h => by
      have e := F_eq n x.1.1 x.1.2.1 x.1.2.2.1
      exact e.symm.trans h)
end laws_toMaze
end
/-! ### loop.example/g01158/spec.l1In -/
section
namespace spec_l1In
noncomputable def code : Code := (Go.Proofs.Try.f87.body).getD .skip
abbrev shp : Shape := [(0, .one (.int .i64)), (1, .one (.int .i64)), (2, .one (.int .i64))]
abbrev outs : List KD := [.one (.bool)]
abbrev R : Type := Bool
def out : R → denL outs := fun r => (r, ())
def into : denL outs → R := fun y => y.1
def cfg : Cfg := ⟨ty, 15, [], fun _ => .plain, fun _ => none⟩
def cal (n : Nat) : List (Nat × PFn) := []
theorem cal_ok (n : Nat) : ∀ g, (pick (cal n) g).Ok Go.Proofs.Try.prog g := pick_ok (by
  intro p hp
  cases hp)
def fin : St → Option R := finOf ty [.tmp 6] outs into
def lam (n : Nat) : Nat → (St → Option R) → St → Option R := fun _ => fun _ _ => none
theorem loops (n : Nat) : LoopsOk cfg (pick (cal n)) (lam n) fin (loopsOf cfg.blk code) := by
  have h : loopsOf cfg.blk code = [] := by kernel_rfl
  rw [h]
  intro p hp
  cases hp
theorem F_eq (n : Nat) (x0 : Int) (x1 : Int) (x2 : Int) : spec_l1In.F n x0 x1 x2 = exK cfg (pick (cal n)) (lam n) fin code (fun _ _ => none) (mkSt shp (x0, x1, x2, ())) fin := by
  kernel_rfl
def pfn (n : Nat) : PFn := mkFn shp outs (fun x => spec_l1In.F n x.1 x.2.1 x.2.2.1) out
theorem ok (n : Nat) : (pfn n).Ok Go.Proofs.Try.prog 87 :=
  mkFn_ok (fn := Go.Proofs.Try.f87) (code := code) Go.Proofs.Try.func87 (by kernel_rfl) (by decide) (C := cfg) (Φ := pick (cal n)) (Λ := lam n) (into := into) hT (cal_ok n) (by kernel_rfl) rfl (by decide) rfl (fun _ => rfl) (loops n)
    (fun x r h => by
      have e := F_eq n x.1 x.2.1 x.2.2.1
      exact e.symm.trans h)
end spec_l1In
end
/-! ### loop.example/g01158/spec.l2Set -/
section
namespace spec_l2Set
noncomputable def code : Code := (Go.Proofs.Try.f50.body).getD .skip
abbrev shp : Shape := [(0, .one (.int .i64))]
abbrev outs : List KD := [.one (.bool)]
abbrev R : Type := Bool
def out : R → denL outs := fun r => (r, ())
def into : denL outs → R := fun y => y.1
def cfg : Cfg := ⟨ty, 5, [], fun _ => .plain, fun _ => none⟩
def cal (n : Nat) : List (Nat × PFn) := [(87, spec_l1In.pfn n)]
theorem cal_ok (n : Nat) : ∀ g, (pick (cal n) g).Ok Go.Proofs.Try.prog g := pick_ok (by
  intro p hp
  simp only [cal, List.mem_cons, List.not_mem_nil, or_false] at hp
  rcases hp with rfl
  · exact spec_l1In.ok n)
def fin : St → Option R := finOf ty [.tmp 2] outs into
def lam (n : Nat) : Nat → (St → Option R) → St → Option R := fun _ => fun _ _ => none
theorem loops (n : Nat) : LoopsOk cfg (pick (cal n)) (lam n) fin (loopsOf cfg.blk code) := by
  have h : loopsOf cfg.blk code = [] := by kernel_rfl
  rw [h]
  intro p hp
  cases hp
theorem F_eq (n : Nat) (x0 : Int) : spec_l2Set.F n x0 = exK cfg (pick (cal n)) (lam n) fin code (fun _ _ => none) (mkSt shp (x0, ())) fin := by
  kernel_rfl
def pfn (n : Nat) : PFn := mkFn shp outs (fun x => spec_l2Set.F n x.1) out
theorem ok (n : Nat) : (pfn n).Ok Go.Proofs.Try.prog 50 :=
  mkFn_ok (fn := Go.Proofs.Try.f50) (code := code) Go.Proofs.Try.func50 (by kernel_rfl) (by decide) (C := cfg) (Φ := pick (cal n)) (Λ := lam n) (into := into) hT (cal_ok n) (by kernel_rfl) rfl (by decide) rfl (fun _ => rfl) (loops n)
    (fun x r h => by
      have e := F_eq n x.1
      exact e.symm.trans h)
end spec_l2Set
end
/-! ### loop.example/g01158/spec.l2Before -/
section
namespace spec_l2Before
noncomputable def code : Code := (Go.Proofs.Try.f96.body).getD .skip
abbrev shp : Shape := [(0, .agg [.int .i64, .int .i64, .int .i64]), (1, .agg [.int .i64, .int .i64, .int .i64])]
abbrev outs : List KD := [.one (.bool)]
abbrev R : Type := Bool
def out : R → denL outs := fun r => (r, ())
def into : denL outs → R := fun y => y.1
def cfg : Cfg := ⟨ty, 24, [], fun i => match Nat.beq i 0 with | true => .unroll 4 | false => .plain, fun _ => none⟩
def cal (n : Nat) : List (Nat × PFn) := []
theorem cal_ok (n : Nat) : ∀ g, (pick (cal n) g).Ok Go.Proofs.Try.prog g := pick_ok (by
  intro p hp
  cases hp)
def fin : St → Option R := finOf ty [.tmp 4] outs into
def lam (n : Nat) : Nat → (St → Option R) → St → Option R := fun _ => fun _ _ => none
theorem loops (n : Nat) : LoopsOk cfg (pick (cal n)) (lam n) fin (loopsOf cfg.blk code) := by
  have h : loopsOf cfg.blk code = [] := by kernel_rfl
  rw [h]
  intro p hp
  cases hp
theorem F_eq (n : Nat) (x0 : Int) (x1 : Int) (x2 : Int) (x3 : Int) (x4 : Int) (x5 : Int) : spec_l2Before.F n x0 x1 x2 x3 x4 x5 = exK cfg (pick (cal n)) (lam n) fin code (fun _ _ => none) (mkSt shp ((x0, x1, x2, ()), (x3, x4, x5, ()), ())) fin := by
  kernel_rfl
def pfn (n : Nat) : PFn := mkFn shp outs (fun x => spec_l2Before.F n x.1.1 x.1.2.1 x.1.2.2.1 x.2.1.1 x.2.1.2.1 x.2.1.2.2.1) out
theorem ok (n : Nat) : (pfn n).Ok Go.Proofs.Try.prog 96 :=
  mkFn_ok (fn := Go.Proofs.Try.f96) (code := code) Go.Proofs.Try.func96 (by kernel_rfl) (by decide) (C := cfg) (Φ := pick (cal n)) (Λ := lam n) (into := into) hT (cal_ok n) (by kernel_rfl) rfl (by decide) rfl (fun _ => rfl) (loops n)
    (fun x r h => by
      have e := F_eq n x.1.1 x.1.2.1 x.1.2.2.1 x.2.1.1 x.2.1.2.1 x.2.1.2.2.1
      exact e.symm.trans h)
end spec_l2Before
end
/-! ### loop.example/g01158/spec.l2Maze -/
section
namespace spec_l2Maze
noncomputable def code : Code := (Go.Proofs.Try.f69.body).getD .skip
abbrev shp : Shape := [(0, .agg [.int .i64, .row (.t3) false, .row (.int .i64) false])]
abbrev outs : List KD := [.one (.bool)]
abbrev R : Type := Bool
def out : R → denL outs := fun r => (r, ())
def into : denL outs → R := fun y => y.1
def cfg : Cfg := ⟨ty, 89, [], fun i => match Nat.beq i 0 with | true => .loop | false => match Nat.beq i 2 with | true => .loop | false => .plain, fun i => match Nat.beq i 3 with | true => some [(1, .box true [.int .i64, .row (.t3) false, .row (.int .i64) false])] | false => none⟩
def cal (n : Nat) : List (Nat × PFn) := [(50, spec_l2Set.pfn n), (87, spec_l1In.pfn n), (96, spec_l2Before.pfn n)]
theorem cal_ok (n : Nat) : ∀ g, (pick (cal n) g).Ok Go.Proofs.Try.prog g := pick_ok (by
  intro p hp
  simp only [cal, List.mem_cons, List.not_mem_nil, or_false] at hp
  rcases hp with rfl | rfl | rfl
  · exact spec_l2Set.ok n
  · exact spec_l1In.ok n
  · exact spec_l2Before.ok n)
def fin : St → Option R := finOf ty [.tmp 2] outs into
abbrev sin0 : Shape := [(1, .box true [.int .i64, .row (.t3) false, .row (.int .i64) false]), (3, .one (.int .i64))]
abbrev sout0 : Shape := [(1, .box true [.int .i64, .row (.t3) false, .row (.int .i64) false])]
abbrev sin2 : Shape := [(1, .box true [.int .i64, .row (.t3) false, .row (.int .i64) false]), (5, .one (.int .i64))]
abbrev sout2 : Shape := []
def lam (n : Nat) : Nat → (St → Option R) → St → Option R := fun i => match Nat.beq i 0 with | true => (fun K st => match absSt sin0 st with | some (x, _) => spec_l2Maze.l0 n (fun y0 y1 y2 => K (mkSt sout0 ((y0, y1, y2, ()), ()))) n x.1.1 x.1.2.1 x.1.2.2.1 x.2.1 | none => none) | false => match Nat.beq i 2 with | true => (fun K st => match absSt sin2 st with | some (x, _) => spec_l2Maze.l2 n (fun _ => K (mkSt sout2 ())) n x.1.1 x.1.2.1 x.1.2.2.1 x.2.1 | none => none) | false => fun _ _ => none
noncomputable def lps : List (Nat × Code) := loopsOf cfg.blk code
noncomputable def b0 : Code := bodyOf lps 0
theorem l0_eq (n : Nat) (K : St → Option R) : ∀ (j : Nat) (x0 : Int) (x1 : List (Int × Int × Int)) (x2 : List (Int)) (x3 : Int), spec_l2Maze.l0 n (fun y0 y1 y2 => K (mkSt sout0 ((y0, y1, y2, ()), ()))) j x0 x1 x2 x3 = iter (roundK cfg (pick (cal n)) (lam n) fin 0 b0 sin0 sout0 K) j (mkSt sin0 ((x0, x1, x2, ()), x3, ()))
  | 0, _, _, _, _ => rfl
  | j + 1, x0, x1, x2, x3 => by
    have ih : spec_l2Maze.l0 n (fun y0 y1 y2 => K (mkSt sout0 ((y0, y1, y2, ()), ()))) j = fun x0 x1 x2 x3 => iter (roundK cfg (pick (cal n)) (lam n) fin 0 b0 sin0 sout0 K) j (mkSt sin0 ((x0, x1, x2, ()), x3, ())) := funext fun x0 => funext fun x1 => funext fun x2 => funext fun x3 => l0_eq n K j x0 x1 x2 x3
    rw [spec_l2Maze.l0, ih]
    show _ = roundK cfg (pick (cal n)) (lam n) fin 0 b0 sin0 sout0 K (iter (roundK cfg (pick (cal n)) (lam n) fin 0 b0 sin0 sout0 K) j) (mkSt sin0 ((x0, x1, x2, ()), x3, ()))
    kernel_rfl
noncomputable def b2 : Code := bodyOf lps 2
theorem l2_eq (n : Nat) (K : St → Option R) : ∀ (j : Nat) (x0 : Int) (x1 : List (Int × Int × Int)) (x2 : List (Int)) (x3 : Int), spec_l2Maze.l2 n (fun _ => K (mkSt sout2 ())) j x0 x1 x2 x3 = iter (roundK cfg (pick (cal n)) (lam n) fin 2 b2 sin2 sout2 K) j (mkSt sin2 ((x0, x1, x2, ()), x3, ()))
  | 0, _, _, _, _ => rfl
  | j + 1, x0, x1, x2, x3 => by
    have ih : spec_l2Maze.l2 n (fun _ => K (mkSt sout2 ())) j = fun x0 x1 x2 x3 => iter (roundK cfg (pick (cal n)) (lam n) fin 2 b2 sin2 sout2 K) j (mkSt sin2 ((x0, x1, x2, ()), x3, ())) := funext fun x0 => funext fun x1 => funext fun x2 => funext fun x3 => l2_eq n K j x0 x1 x2 x3
    rw [spec_l2Maze.l2, ih]
    show _ = roundK cfg (pick (cal n)) (lam n) fin 2 b2 sin2 sout2 K (iter (roundK cfg (pick (cal n)) (lam n) fin 2 b2 sin2 sout2 K) j) (mkSt sin2 ((x0, x1, x2, ()), x3, ()))
    kernel_rfl
theorem loops (n : Nat) : LoopsOk cfg (pick (cal n)) (lam n) fin (loopsOf cfg.blk code) := by
  have h : loopsOf cfg.blk code = [(0, b0), (2, b2)] := by kernel_rfl
  rw [h]
  intro p hp K st r hr
  simp only [List.mem_cons, List.not_mem_nil, or_false] at hp
  rcases hp with rfl | rfl
  · have hr' : (match absSt sin0 st with | some (x, _) => spec_l2Maze.l0 n (fun y0 y1 y2 => K (mkSt sout0 ((y0, y1, y2, ()), ()))) n x.1.1 x.1.2.1 x.1.2.2.1 x.2.1 | none => none) = some r := hr
    split at hr'
    · rename_i x es hx
      rw [l0_eq] at hr'
      exact ⟨sin0, sout0, n, x, es, hx, hr'⟩
    · cases hr'
  · have hr' : (match absSt sin2 st with | some (x, _) => spec_l2Maze.l2 n (fun _ => K (mkSt sout2 ())) n x.1.1 x.1.2.1 x.1.2.2.1 x.2.1 | none => none) = some r := hr
    split at hr'
    · rename_i x es hx
      rw [l2_eq] at hr'
      exact ⟨sin2, sout2, n, x, es, hx, hr'⟩
    · cases hr'
theorem F_eq (n : Nat) (x0 : Int) (x1 : List (Int × Int × Int)) (x2 : List (Int)) : spec_l2Maze.F n x0 x1 x2 = exK cfg (pick (cal n)) (lam n) fin code (fun _ _ => none) (mkSt shp ((x0, x1, x2, ()), ())) fin := by
  kernel_rfl
def pfn (n : Nat) : PFn := mkFn shp outs (fun x => spec_l2Maze.F n x.1.1 x.1.2.1 x.1.2.2.1) out
theorem ok (n : Nat) : (pfn n).Ok Go.Proofs.Try.prog 69 :=
  mkFn_ok (fn := Go.Proofs.Try.f69) (code := code) Go.Proofs.Try.func69 (by kernel_rfl) (by decide) (C := cfg) (Φ := pick (cal n)) (Λ := lam n) (into := into) hT (cal_ok n) (by kernel_rfl) rfl (by decide) rfl (fun _ => rfl) (loops n)
    (fun x r h => by
      have e := F_eq n x.1.1 x.1.2.1 x.1.2.2.1
      exact e.symm.trans h)
end spec_l2Maze
end
/-! ### loop.example/g01158/spec.l2Node -/
section
namespace spec_l2Node
noncomputable def code : Code := (Go.Proofs.Try.f49.body).getD .skip
abbrev shp : Shape := [(0, .agg [.int .i64, .row (.t3) false, .row (.int .i64) false]), (1, .one (.int .i64))]
abbrev outs : List KD := [.one (.bool)]
abbrev R : Type := Bool
def out : R → denL outs := fun r => (r, ())
def into : denL outs → R := fun y => y.1
def cfg : Cfg := ⟨ty, 14, [], fun _ => .plain, fun _ => none⟩
def cal (n : Nat) : List (Nat × PFn) := [(69, spec_l2Maze.pfn n), (87, spec_l1In.pfn n)]
theorem cal_ok (n : Nat) : ∀ g, (pick (cal n) g).Ok Go.Proofs.Try.prog g := pick_ok (by
  intro p hp
  simp only [cal, List.mem_cons, List.not_mem_nil, or_false] at hp
  rcases hp with rfl | rfl
  · exact spec_l2Maze.ok n
  · exact spec_l1In.ok n)
def fin : St → Option R := finOf ty [.tmp 4] outs into
def lam (n : Nat) : Nat → (St → Option R) → St → Option R := fun _ => fun _ _ => none
theorem loops (n : Nat) : LoopsOk cfg (pick (cal n)) (lam n) fin (loopsOf cfg.blk code) := by
  have h : loopsOf cfg.blk code = [] := by kernel_rfl
  rw [h]
  intro p hp
  cases hp
theorem F_eq (n : Nat) (x0 : Int) (x1 : List (Int × Int × Int)) (x2 : List (Int)) (x3 : Int) : spec_l2Node.F n x0 x1 x2 x3 = exK cfg (pick (cal n)) (lam n) fin code (fun _ _ => none) (mkSt shp ((x0, x1, x2, ()), x3, ())) fin := by
  kernel_rfl
def pfn (n : Nat) : PFn := mkFn shp outs (fun x => spec_l2Node.F n x.1.1 x.1.2.1 x.1.2.2.1 x.2.1) out
theorem ok (n : Nat) : (pfn n).Ok Go.Proofs.Try.prog 49 :=
  mkFn_ok (fn := Go.Proofs.Try.f49) (code := code) Go.Proofs.Try.func49 (by kernel_rfl) (by decide) (C := cfg) (Φ := pick (cal n)) (Λ := lam n) (into := into) hT (cal_ok n) (by kernel_rfl) rfl (by decide) rfl (fun _ => rfl) (loops n)
    (fun x r h => by
      have e := F_eq n x.1.1 x.1.2.1 x.1.2.2.1 x.2.1
      exact e.symm.trans h)
end spec_l2Node
end
/-! ### loop.example/g01158/spec.l2Has -/
section
namespace spec_l2Has
noncomputable def code : Code := (Go.Proofs.Try.f88.body).getD .skip
abbrev shp : Shape := [(0, .one (.int .i64)), (1, .one (.int .i64))]
abbrev outs : List KD := [.one (.bool)]
abbrev R : Type := Bool
def out : R → denL outs := fun r => (r, ())
def into : denL outs → R := fun y => y.1
def cfg : Cfg := ⟨ty, 10, [], fun _ => .plain, fun _ => none⟩
def cal (n : Nat) : List (Nat × PFn) := []
theorem cal_ok (n : Nat) : ∀ g, (pick (cal n) g).Ok Go.Proofs.Try.prog g := pick_ok (by
  intro p hp
  cases hp)
def fin : St → Option R := finOf ty [.tmp 4] outs into
def lam (n : Nat) : Nat → (St → Option R) → St → Option R := fun _ => fun _ _ => none
theorem loops (n : Nat) : LoopsOk cfg (pick (cal n)) (lam n) fin (loopsOf cfg.blk code) := by
  have h : loopsOf cfg.blk code = [] := by kernel_rfl
  rw [h]
  intro p hp
  cases hp
theorem F_eq (n : Nat) (x0 : Int) (x1 : Int) : spec_l2Has.F n x0 x1 = exK cfg (pick (cal n)) (lam n) fin code (fun _ _ => none) (mkSt shp (x0, x1, ())) fin := by
  kernel_rfl
def pfn (n : Nat) : PFn := mkFn shp outs (fun x => spec_l2Has.F n x.1 x.2.1) out
theorem ok (n : Nat) : (pfn n).Ok Go.Proofs.Try.prog 88 :=
  mkFn_ok (fn := Go.Proofs.Try.f88) (code := code) Go.Proofs.Try.func88 (by kernel_rfl) (by decide) (C := cfg) (Φ := pick (cal n)) (Λ := lam n) (into := into) hT (cal_ok n) (by kernel_rfl) rfl (by decide) rfl (fun _ => rfl) (loops n)
    (fun x r h => by
      have e := F_eq n x.1 x.2.1
      exact e.symm.trans h)
end spec_l2Has
end
/-! ### loop.example/g01158/spec.l1Has -/
section
namespace spec_l1Has
noncomputable def code : Code := (Go.Proofs.Try.f74.body).getD .skip
abbrev shp : Shape := [(0, .one (.row (.int .i64) false)), (1, .one (.int .i64))]
abbrev outs : List KD := [.one (.bool)]
abbrev R : Type := Bool
def out : R → denL outs := fun r => (r, ())
def into : denL outs → R := fun y => y.1
def cfg : Cfg := ⟨ty, 18, [], fun i => match Nat.beq i 0 with | true => .loop | false => .plain, fun _ => none⟩
def cal (n : Nat) : List (Nat × PFn) := []
theorem cal_ok (n : Nat) : ∀ g, (pick (cal n) g).Ok Go.Proofs.Try.prog g := pick_ok (by
  intro p hp
  cases hp)
def fin : St → Option R := finOf ty [.tmp 4] outs into
abbrev sin0 : Shape := [(0, .one (.row (.int .i64) false)), (1, .one (.int .i64)), (5, .one (.int .i64))]
abbrev sout0 : Shape := []
def lam (n : Nat) : Nat → (St → Option R) → St → Option R := fun i => match Nat.beq i 0 with | true => (fun K st => match absSt sin0 st with | some (x, _) => spec_l1Has.l0 n (fun _ => K (mkSt sout0 ())) n x.1 x.2.1 x.2.2.1 | none => none) | false => fun _ _ => none
noncomputable def lps : List (Nat × Code) := loopsOf cfg.blk code
noncomputable def b0 : Code := bodyOf lps 0
theorem l0_eq (n : Nat) (K : St → Option R) : ∀ (j : Nat) (x0 : List (Int)) (x1 : Int) (x2 : Int), spec_l1Has.l0 n (fun _ => K (mkSt sout0 ())) j x0 x1 x2 = iter (roundK cfg (pick (cal n)) (lam n) fin 0 b0 sin0 sout0 K) j (mkSt sin0 (x0, x1, x2, ()))
  | 0, _, _, _ => rfl
  | j + 1, x0, x1, x2 => by
    have ih : spec_l1Has.l0 n (fun _ => K (mkSt sout0 ())) j = fun x0 x1 x2 => iter (roundK cfg (pick (cal n)) (lam n) fin 0 b0 sin0 sout0 K) j (mkSt sin0 (x0, x1, x2, ())) := funext fun x0 => funext fun x1 => funext fun x2 => l0_eq n K j x0 x1 x2
    rw [spec_l1Has.l0, ih]
    show _ = roundK cfg (pick (cal n)) (lam n) fin 0 b0 sin0 sout0 K (iter (roundK cfg (pick (cal n)) (lam n) fin 0 b0 sin0 sout0 K) j) (mkSt sin0 (x0, x1, x2, ()))
    kernel_rfl
theorem loops (n : Nat) : LoopsOk cfg (pick (cal n)) (lam n) fin (loopsOf cfg.blk code) := by
  have h : loopsOf cfg.blk code = [(0, b0)] := by kernel_rfl
  rw [h]
  intro p hp K st r hr
  simp only [List.mem_cons, List.not_mem_nil, or_false] at hp
  rcases hp with rfl
  · have hr' : (match absSt sin0 st with | some (x, _) => spec_l1Has.l0 n (fun _ => K (mkSt sout0 ())) n x.1 x.2.1 x.2.2.1 | none => none) = some r := hr
    split at hr'
    · rename_i x es hx
      rw [l0_eq] at hr'
      exact ⟨sin0, sout0, n, x, es, hx, hr'⟩
    · cases hr'
theorem F_eq (n : Nat) (x0 : List (Int)) (x1 : Int) : spec_l1Has.F n x0 x1 = exK cfg (pick (cal n)) (lam n) fin code (fun _ _ => none) (mkSt shp (x0, x1, ())) fin := by
  kernel_rfl
def pfn (n : Nat) : PFn := mkFn shp outs (fun x => spec_l1Has.F n x.1 x.2.1) out
theorem ok (n : Nat) : (pfn n).Ok Go.Proofs.Try.prog 74 :=
  mkFn_ok (fn := Go.Proofs.Try.f74) (code := code) Go.Proofs.Try.func74 (by kernel_rfl) (by decide) (C := cfg) (Φ := pick (cal n)) (Λ := lam n) (into := into) hT (cal_ok n) (by kernel_rfl) rfl (by decide) rfl (fun _ => rfl) (loops n)
    (fun x r h => by
      have e := F_eq n x.1 x.2.1
      exact e.symm.trans h)
end spec_l1Has
end
/-! ### loop.example/g01158/spec.l1Put -/
section
namespace spec_l1Put
noncomputable def code : Code := (Go.Proofs.Try.f89.body).getD .skip
abbrev shp : Shape := [(0, .one (.row (.int .i64) true)), (1, .one (.int .i64))]
abbrev outs : List KD := [.one (.row (.int .i64) true)]
abbrev R : Type := (List (Int))
def out : R → denL outs := fun r => (r, ())
def into : denL outs → R := fun y => y.1
def cfg : Cfg := ⟨ty, 45, [], fun i => match Nat.beq i 0 with | true => .loop | false => .plain, fun _ => none⟩
def cal (n : Nat) : List (Nat × PFn) := []
theorem cal_ok (n : Nat) : ∀ g, (pick (cal n) g).Ok Go.Proofs.Try.prog g := pick_ok (by
  intro p hp
  cases hp)
def fin : St → Option R := finOf ty [.tmp 4] outs into
abbrev sin0 : Shape := [(0, .one (.row (.int .i64) true)), (1, .one (.int .i64)), (5, .one (.int .i64))]
abbrev sout0 : Shape := [(0, .one (.row (.int .i64) true)), (1, .one (.int .i64)), (5, .one (.int .i64))]
def lam (n : Nat) : Nat → (St → Option R) → St → Option R := fun i => match Nat.beq i 0 with | true => (fun K st => match absSt sin0 st with | some (x, _) => spec_l1Put.l0 n (fun y0 y1 y2 => K (mkSt sout0 (y0, y1, y2, ()))) n x.1 x.2.1 x.2.2.1 | none => none) | false => fun _ _ => none
noncomputable def lps : List (Nat × Code) := loopsOf cfg.blk code
noncomputable def b0 : Code := bodyOf lps 0
theorem l0_eq (n : Nat) (K : St → Option R) : ∀ (j : Nat) (x0 : List (Int)) (x1 : Int) (x2 : Int), spec_l1Put.l0 n (fun y0 y1 y2 => K (mkSt sout0 (y0, y1, y2, ()))) j x0 x1 x2 = iter (roundK cfg (pick (cal n)) (lam n) fin 0 b0 sin0 sout0 K) j (mkSt sin0 (x0, x1, x2, ()))
  | 0, _, _, _ => rfl
  | j + 1, x0, x1, x2 => by
    have ih : spec_l1Put.l0 n (fun y0 y1 y2 => K (mkSt sout0 (y0, y1, y2, ()))) j = fun x0 x1 x2 => iter (roundK cfg (pick (cal n)) (lam n) fin 0 b0 sin0 sout0 K) j (mkSt sin0 (x0, x1, x2, ())) := funext fun x0 => funext fun x1 => funext fun x2 => l0_eq n K j x0 x1 x2
    rw [spec_l1Put.l0, ih]
    show _ = roundK cfg (pick (cal n)) (lam n) fin 0 b0 sin0 sout0 K (iter (roundK cfg (pick (cal n)) (lam n) fin 0 b0 sin0 sout0 K) j) (mkSt sin0 (x0, x1, x2, ()))
    kernel_rfl
theorem loops (n : Nat) : LoopsOk cfg (pick (cal n)) (lam n) fin (loopsOf cfg.blk code) := by
  have h : loopsOf cfg.blk code = [(0, b0)] := by kernel_rfl
  rw [h]
  intro p hp K st r hr
  simp only [List.mem_cons, List.not_mem_nil, or_false] at hp
  rcases hp with rfl
  · have hr' : (match absSt sin0 st with | some (x, _) => spec_l1Put.l0 n (fun y0 y1 y2 => K (mkSt sout0 (y0, y1, y2, ()))) n x.1 x.2.1 x.2.2.1 | none => none) = some r := hr
    split at hr'
    · rename_i x es hx
      rw [l0_eq] at hr'
      exact ⟨sin0, sout0, n, x, es, hx, hr'⟩
    · cases hr'
theorem F_eq (n : Nat) (x0 : List (Int)) (x1 : Int) : spec_l1Put.F n x0 x1 = exK cfg (pick (cal n)) (lam n) fin code (fun _ _ => none) (mkSt shp (x0, x1, ())) fin := by
  kernel_rfl
def pfn (n : Nat) : PFn := mkFn shp outs (fun x => spec_l1Put.F n x.1 x.2.1) out
theorem ok (n : Nat) : (pfn n).Ok Go.Proofs.Try.prog 89 :=
  mkFn_ok (fn := Go.Proofs.Try.f89) (code := code) Go.Proofs.Try.func89 (by kernel_rfl) (by decide) (C := cfg) (Φ := pick (cal n)) (Λ := lam n) (into := into) hT (cal_ok n) (by kernel_rfl) rfl (by decide) rfl (fun _ => rfl) (loops n)
    (fun x r h => by
      have e := F_eq n x.1 x.2.1
      exact e.symm.trans h)
end spec_l1Put
end
/-! ### loop.example/g01158/spec.l2Reach -/
section
namespace spec_l2Reach
noncomputable def code : Code := (Go.Proofs.Try.f51.body).getD .skip
abbrev shp : Shape := [(0, .agg [.int .i64, .row (.t3) false, .row (.int .i64) false]), (1, .one (.int .i64)), (2, .one (.int .i64))]
abbrev outs : List KD := [.one (.row (.int .i64) true)]
abbrev R : Type := (List (Int))
def out : R → denL outs := fun r => (r, ())
def into : denL outs → R := fun y => y.1
def cfg : Cfg := ⟨ty, 80, [], fun i => match Nat.beq i 2 with | true => .loop | false => match Nat.beq i 0 with | true => .loop | false => .plain, fun _ => none⟩
def cal (n : Nat) : List (Nat × PFn) := [(74, spec_l1Has.pfn n), (88, spec_l2Has.pfn n), (89, spec_l1Put.pfn n)]
theorem cal_ok (n : Nat) : ∀ g, (pick (cal n) g).Ok Go.Proofs.Try.prog g := pick_ok (by
  intro p hp
  simp only [cal, List.mem_cons, List.not_mem_nil, or_false] at hp
  rcases hp with rfl | rfl | rfl
  · exact spec_l1Has.ok n
  · exact spec_l2Has.ok n
  · exact spec_l1Put.ok n)
def fin : St → Option R := finOf ty [.tmp 6] outs into
abbrev sin2 : Shape := [(2, .one (.int .i64)), (3, .box true [.int .i64, .row (.t3) false, .row (.int .i64) false]), (7, .one (.row (.int .i64) true)), (8, .one (.row (.int .i64) true)), (9, .one (.int .i64)), (10, .one (.int .i64))]
abbrev sout2 : Shape := [(2, .one (.int .i64)), (3, .box true [.int .i64, .row (.t3) false, .row (.int .i64) false]), (7, .one (.row (.int .i64) true)), (8, .one (.row (.int .i64) true)), (9, .one (.int .i64))]
abbrev sin0 : Shape := [(2, .one (.int .i64)), (3, .box true [.int .i64, .row (.t3) false, .row (.int .i64) false]), (7, .one (.row (.int .i64) true)), (8, .one (.row (.int .i64) true)), (9, .one (.int .i64))]
abbrev sout0 : Shape := [(7, .one (.row (.int .i64) true))]
def lam (n : Nat) : Nat → (St → Option R) → St → Option R := fun i => match Nat.beq i 2 with | true => (fun K st => match absSt sin2 st with | some (x, _) => spec_l2Reach.l2 n (fun y0 y1 y2 y3 y4 y5 y6 => K (mkSt sout2 (y0, (y1, y2, y3, ()), y4, y5, y6, ()))) n x.1 x.2.1.1 x.2.1.2.1 x.2.1.2.2.1 x.2.2.1 x.2.2.2.1 x.2.2.2.2.1 x.2.2.2.2.2.1 | none => none) | false => match Nat.beq i 0 with | true => (fun K st => match absSt sin0 st with | some (x, _) => spec_l2Reach.l0 n (fun y0 => K (mkSt sout0 (y0, ()))) n x.1 x.2.1.1 x.2.1.2.1 x.2.1.2.2.1 x.2.2.1 x.2.2.2.1 x.2.2.2.2.1 | none => none) | false => fun _ _ => none
noncomputable def lps : List (Nat × Code) := loopsOf cfg.blk code
noncomputable def b2 : Code := bodyOf lps 2
theorem l2_eq (n : Nat) (K : St → Option R) : ∀ (j : Nat) (x0 : Int) (x1 : Int) (x2 : List (Int × Int × Int)) (x3 : List (Int)) (x4 : List (Int)) (x5 : List (Int)) (x6 : Int) (x7 : Int), spec_l2Reach.l2 n (fun y0 y1 y2 y3 y4 y5 y6 => K (mkSt sout2 (y0, (y1, y2, y3, ()), y4, y5, y6, ()))) j x0 x1 x2 x3 x4 x5 x6 x7 = iter (roundK cfg (pick (cal n)) (lam n) fin 2 b2 sin2 sout2 K) j (mkSt sin2 (x0, (x1, x2, x3, ()), x4, x5, x6, x7, ()))
  | 0, _, _, _, _, _, _, _, _ => rfl
  | j + 1, x0, x1, x2, x3, x4, x5, x6, x7 => by
    have ih : spec_l2Reach.l2 n (fun y0 y1 y2 y3 y4 y5 y6 => K (mkSt sout2 (y0, (y1, y2, y3, ()), y4, y5, y6, ()))) j = fun x0 x1 x2 x3 x4 x5 x6 x7 => iter (roundK cfg (pick (cal n)) (lam n) fin 2 b2 sin2 sout2 K) j (mkSt sin2 (x0, (x1, x2, x3, ()), x4, x5, x6, x7, ())) := funext fun x0 => funext fun x1 => funext fun x2 => funext fun x3 => funext fun x4 => funext fun x5 => funext fun x6 => funext fun x7 => l2_eq n K j x0 x1 x2 x3 x4 x5 x6 x7
    rw [spec_l2Reach.l2, ih]
    show _ = roundK cfg (pick (cal n)) (lam n) fin 2 b2 sin2 sout2 K (iter (roundK cfg (pick (cal n)) (lam n) fin 2 b2 sin2 sout2 K) j) (mkSt sin2 (x0, (x1, x2, x3, ()), x4, x5, x6, x7, ()))
    kernel_rfl
noncomputable def b0 : Code := bodyOf lps 0
theorem l0_eq (n : Nat) (K : St → Option R) : ∀ (j : Nat) (x0 : Int) (x1 : Int) (x2 : List (Int × Int × Int)) (x3 : List (Int)) (x4 : List (Int)) (x5 : List (Int)) (x6 : Int), spec_l2Reach.l0 n (fun y0 => K (mkSt sout0 (y0, ()))) j x0 x1 x2 x3 x4 x5 x6 = iter (roundK cfg (pick (cal n)) (lam n) fin 0 b0 sin0 sout0 K) j (mkSt sin0 (x0, (x1, x2, x3, ()), x4, x5, x6, ()))
  | 0, _, _, _, _, _, _, _ => rfl
  | j + 1, x0, x1, x2, x3, x4, x5, x6 => by
    have ih : spec_l2Reach.l0 n (fun y0 => K (mkSt sout0 (y0, ()))) j = fun x0 x1 x2 x3 x4 x5 x6 => iter (roundK cfg (pick (cal n)) (lam n) fin 0 b0 sin0 sout0 K) j (mkSt sin0 (x0, (x1, x2, x3, ()), x4, x5, x6, ())) := funext fun x0 => funext fun x1 => funext fun x2 => funext fun x3 => funext fun x4 => funext fun x5 => funext fun x6 => l0_eq n K j x0 x1 x2 x3 x4 x5 x6
    rw [spec_l2Reach.l0, ih]
    show _ = roundK cfg (pick (cal n)) (lam n) fin 0 b0 sin0 sout0 K (iter (roundK cfg (pick (cal n)) (lam n) fin 0 b0 sin0 sout0 K) j) (mkSt sin0 (x0, (x1, x2, x3, ()), x4, x5, x6, ()))
    kernel_rfl
theorem loops (n : Nat) : LoopsOk cfg (pick (cal n)) (lam n) fin (loopsOf cfg.blk code) := by
  have h : loopsOf cfg.blk code = [(0, b0), (2, b2)] := by kernel_rfl
  rw [h]
  intro p hp K st r hr
  simp only [List.mem_cons, List.not_mem_nil, or_false] at hp
  rcases hp with rfl | rfl
  · have hr' : (match absSt sin0 st with | some (x, _) => spec_l2Reach.l0 n (fun y0 => K (mkSt sout0 (y0, ()))) n x.1 x.2.1.1 x.2.1.2.1 x.2.1.2.2.1 x.2.2.1 x.2.2.2.1 x.2.2.2.2.1 | none => none) = some r := hr
    split at hr'
    · rename_i x es hx
      rw [l0_eq] at hr'
      exact ⟨sin0, sout0, n, x, es, hx, hr'⟩
    · cases hr'
  · have hr' : (match absSt sin2 st with | some (x, _) => spec_l2Reach.l2 n (fun y0 y1 y2 y3 y4 y5 y6 => K (mkSt sout2 (y0, (y1, y2, y3, ()), y4, y5, y6, ()))) n x.1 x.2.1.1 x.2.1.2.1 x.2.1.2.2.1 x.2.2.1 x.2.2.2.1 x.2.2.2.2.1 x.2.2.2.2.2.1 | none => none) = some r := hr
    split at hr'
    · rename_i x es hx
      rw [l2_eq] at hr'
      exact ⟨sin2, sout2, n, x, es, hx, hr'⟩
    · cases hr'
theorem F_eq (n : Nat) (x0 : Int) (x1 : List (Int × Int × Int)) (x2 : List (Int)) (x3 : Int) (x4 : Int) : spec_l2Reach.F n x0 x1 x2 x3 x4 = exK cfg (pick (cal n)) (lam n) fin code (fun _ _ => none) (mkSt shp ((x0, x1, x2, ()), x3, x4, ())) fin := by
  kernel_rfl
def pfn (n : Nat) : PFn := mkFn shp outs (fun x => spec_l2Reach.F n x.1.1 x.1.2.1 x.1.2.2.1 x.2.1 x.2.2.1) out
theorem ok (n : Nat) : (pfn n).Ok Go.Proofs.Try.prog 51 :=
  mkFn_ok (fn := Go.Proofs.Try.f51) (code := code) Go.Proofs.Try.func51 (by kernel_rfl) (by decide) (C := cfg) (Φ := pick (cal n)) (Λ := lam n) (into := into) hT (cal_ok n) (by kernel_rfl) rfl (by decide) rfl (fun _ => rfl) (loops n)
    (fun x r h => by
      have e := F_eq n x.1.1 x.1.2.1 x.1.2.2.1 x.2.1 x.2.2.1
      exact e.symm.trans h)
end spec_l2Reach
end
/-! ### loop.example/g01158/spec.ReachWith -/
section
namespace spec_ReachWith
noncomputable def code : Code := (Go.Proofs.Try.f16.body).getD .skip
abbrev shp : Shape := [(0, .agg [.int .i64, .row (.t3) false, .row (.int .i64) false]), (1, .one (.int .i64)), (2, .one (.int .i64))]
abbrev outs : List KD := [.one (.row (.int .i64) true), .one (.bool)]
abbrev R : Type := (List (Int)) × Bool
def out : R → denL outs := fun r => (r.1, r.2, ())
def into : denL outs → R := fun y => (y.1, y.2.1)
def cfg : Cfg := ⟨ty, 22, [], fun _ => .plain, fun _ => none⟩
def cal (n : Nat) : List (Nat × PFn) := [(49, spec_l2Node.pfn n), (50, spec_l2Set.pfn n), (51, spec_l2Reach.pfn n)]
theorem cal_ok (n : Nat) : ∀ g, (pick (cal n) g).Ok Go.Proofs.Try.prog g := pick_ok (by
  intro p hp
  simp only [cal, List.mem_cons, List.not_mem_nil, or_false] at hp
  rcases hp with rfl | rfl | rfl
  · exact spec_l2Node.ok n
  · exact spec_l2Set.ok n
  · exact spec_l2Reach.ok n)
def fin : St → Option R := finOf ty [.tmp 6, .tmp 7] outs into
def lam (n : Nat) : Nat → (St → Option R) → St → Option R := fun _ => fun _ _ => none
theorem loops (n : Nat) : LoopsOk cfg (pick (cal n)) (lam n) fin (loopsOf cfg.blk code) := by
  have h : loopsOf cfg.blk code = [] := by kernel_rfl
  rw [h]
  intro p hp
  cases hp
theorem F_eq (n : Nat) (x0 : Int) (x1 : List (Int × Int × Int)) (x2 : List (Int)) (x3 : Int) (x4 : Int) : spec_ReachWith.F n x0 x1 x2 x3 x4 = exK cfg (pick (cal n)) (lam n) fin code (fun _ _ => none) (mkSt shp ((x0, x1, x2, ()), x3, x4, ())) fin := by
  kernel_rfl
def pfn (n : Nat) : PFn := mkFn shp outs (fun x => spec_ReachWith.F n x.1.1 x.1.2.1 x.1.2.2.1 x.2.1 x.2.2.1) out
theorem ok (n : Nat) : (pfn n).Ok Go.Proofs.Try.prog 16 :=
  mkFn_ok (fn := Go.Proofs.Try.f16) (code := code) Go.Proofs.Try.func16 (by kernel_rfl) (by decide) (C := cfg) (Φ := pick (cal n)) (Λ := lam n) (into := into) hT (cal_ok n) (by kernel_rfl) rfl (by decide) rfl (fun _ => rfl) (loops n)
    (fun x r h => by
      have e := F_eq n x.1.1 x.1.2.1 x.1.2.2.1 x.2.1 x.2.2.1
      exact e.symm.trans h)
end spec_ReachWith
end
/-! ### loop.example/g01158/impl.within -/
section
namespace impl_within
noncomputable def code : Code := (Go.Proofs.Try.f93.body).getD .skip
abbrev shp : Shape := [(0, .one (.int .i64)), (1, .one (.int .i64)), (2, .one (.int .i64))]
abbrev outs : List KD := [.one (.bool)]
abbrev R : Type := Bool
def out : R → denL outs := fun r => (r, ())
def into : denL outs → R := fun y => y.1
def cfg : Cfg := ⟨ty, 15, [], fun _ => .plain, fun _ => none⟩
def cal (n : Nat) : List (Nat × PFn) := []
theorem cal_ok (n : Nat) : ∀ g, (pick (cal n) g).Ok Go.Proofs.Try.prog g := pick_ok (by
  intro p hp
  cases hp)
def fin : St → Option R := finOf ty [.tmp 6] outs into
def lam (n : Nat) : Nat → (St → Option R) → St → Option R := fun _ => fun _ _ => none
theorem loops (n : Nat) : LoopsOk cfg (pick (cal n)) (lam n) fin (loopsOf cfg.blk code) := by
  have h : loopsOf cfg.blk code = [] := by kernel_rfl
  rw [h]
  intro p hp
  cases hp
theorem F_eq (n : Nat) (x0 : Int) (x1 : Int) (x2 : Int) : impl_within.F n x0 x1 x2 = exK cfg (pick (cal n)) (lam n) fin code (fun _ _ => none) (mkSt shp (x0, x1, x2, ())) fin := by
  kernel_rfl
def pfn (n : Nat) : PFn := mkFn shp outs (fun x => impl_within.F n x.1 x.2.1 x.2.2.1) out
theorem ok (n : Nat) : (pfn n).Ok Go.Proofs.Try.prog 93 :=
  mkFn_ok (fn := Go.Proofs.Try.f93) (code := code) Go.Proofs.Try.func93 (by kernel_rfl) (by decide) (C := cfg) (Φ := pick (cal n)) (Λ := lam n) (into := into) hT (cal_ok n) (by kernel_rfl) rfl (by decide) rfl (fun _ => rfl) (loops n)
    (fun x r h => by
      have e := F_eq n x.1 x.2.1 x.2.2.1
      exact e.symm.trans h)
end impl_within
end
/-! ### loop.example/g01158/impl.isSet -/
section
namespace impl_isSet
noncomputable def code : Code := (Go.Proofs.Try.f54.body).getD .skip
abbrev shp : Shape := [(0, .one (.int .i64))]
abbrev outs : List KD := [.one (.bool)]
abbrev R : Type := Bool
def out : R → denL outs := fun r => (r, ())
def into : denL outs → R := fun y => y.1
def cfg : Cfg := ⟨ty, 5, [], fun _ => .plain, fun _ => none⟩
def cal (n : Nat) : List (Nat × PFn) := [(93, impl_within.pfn n)]
theorem cal_ok (n : Nat) : ∀ g, (pick (cal n) g).Ok Go.Proofs.Try.prog g := pick_ok (by
  intro p hp
  simp only [cal, List.mem_cons, List.not_mem_nil, or_false] at hp
  rcases hp with rfl
  · exact impl_within.ok n)
def fin : St → Option R := finOf ty [.tmp 2] outs into
def lam (n : Nat) : Nat → (St → Option R) → St → Option R := fun _ => fun _ _ => none
theorem loops (n : Nat) : LoopsOk cfg (pick (cal n)) (lam n) fin (loopsOf cfg.blk code) := by
  have h : loopsOf cfg.blk code = [] := by kernel_rfl
  rw [h]
  intro p hp
  cases hp
theorem F_eq (n : Nat) (x0 : Int) : impl_isSet.F n x0 = exK cfg (pick (cal n)) (lam n) fin code (fun _ _ => none) (mkSt shp (x0, ())) fin := by
  kernel_rfl
def pfn (n : Nat) : PFn := mkFn shp outs (fun x => impl_isSet.F n x.1) out
theorem ok (n : Nat) : (pfn n).Ok Go.Proofs.Try.prog 54 :=
  mkFn_ok (fn := Go.Proofs.Try.f54) (code := code) Go.Proofs.Try.func54 (by kernel_rfl) (by decide) (C := cfg) (Φ := pick (cal n)) (Λ := lam n) (into := into) hT (cal_ok n) (by kernel_rfl) rfl (by decide) rfl (fun _ => rfl) (loops n)
    (fun x r h => by
      have e := F_eq n x.1
      exact e.symm.trans h)
end impl_isSet
end
/-! ### cmp.isNaN[int] -/
section
namespace cmp_isNaN_int
noncomputable def code : Code := (Go.Proofs.Try.f111.body).getD .skip
abbrev shp : Shape := [(0, .one (.int .i64))]
abbrev outs : List KD := [.one (.bool)]
abbrev R : Type := Bool
def out : R → denL outs := fun r => (r, ())
def into : denL outs → R := fun y => y.1
def cfg : Cfg := ⟨ty, 6, [], fun _ => .plain, fun _ => none⟩
def cal (n : Nat) : List (Nat × PFn) := []
theorem cal_ok (n : Nat) : ∀ g, (pick (cal n) g).Ok Go.Proofs.Try.prog g := pick_ok (by
  intro p hp
  cases hp)
def fin : St → Option R := finOf ty [.tmp 2] outs into
def lam (n : Nat) : Nat → (St → Option R) → St → Option R := fun _ => fun _ _ => none
theorem loops (n : Nat) : LoopsOk cfg (pick (cal n)) (lam n) fin (loopsOf cfg.blk code) := by
  have h : loopsOf cfg.blk code = [] := by kernel_rfl
  rw [h]
  intro p hp
  cases hp
theorem F_eq (n : Nat) (x0 : Int) : cmp_isNaN_int.F n x0 = exK cfg (pick (cal n)) (lam n) fin code (fun _ _ => none) (mkSt shp (x0, ())) fin := by
  kernel_rfl
def pfn (n : Nat) : PFn := mkFn shp outs (fun x => cmp_isNaN_int.F n x.1) out
theorem ok (n : Nat) : (pfn n).Ok Go.Proofs.Try.prog 111 :=
  mkFn_ok (fn := Go.Proofs.Try.f111) (code := code) Go.Proofs.Try.func111 (by kernel_rfl) (by decide) (C := cfg) (Φ := pick (cal n)) (Λ := lam n) (into := into) hT (cal_ok n) (by kernel_rfl) rfl (by decide) rfl (fun _ => rfl) (loops n)
    (fun x r h => by
      have e := F_eq n x.1
      exact e.symm.trans h)
end cmp_isNaN_int
end
/-! ### cmp.Compare[int] -/
section
namespace cmp_Compare_int
noncomputable def code : Code := (Go.Proofs.Try.f108.body).getD .skip
abbrev shp : Shape := [(0, .one (.int .i64)), (1, .one (.int .i64))]
abbrev outs : List KD := [.one (.int .i64)]
abbrev R : Type := Int
def out : R → denL outs := fun r => (r, ())
def into : denL outs → R := fun y => y.1
def cfg : Cfg := ⟨ty, 20, [], fun _ => .plain, fun _ => none⟩
def cal (n : Nat) : List (Nat × PFn) := [(111, cmp_isNaN_int.pfn n)]
theorem cal_ok (n : Nat) : ∀ g, (pick (cal n) g).Ok Go.Proofs.Try.prog g := pick_ok (by
  intro p hp
  simp only [cal, List.mem_cons, List.not_mem_nil, or_false] at hp
  rcases hp with rfl
  · exact cmp_isNaN_int.ok n)
def fin : St → Option R := finOf ty [.tmp 4] outs into
def lam (n : Nat) : Nat → (St → Option R) → St → Option R := fun _ => fun _ _ => none
theorem loops (n : Nat) : LoopsOk cfg (pick (cal n)) (lam n) fin (loopsOf cfg.blk code) := by
  have h : loopsOf cfg.blk code = [] := by kernel_rfl
  rw [h]
  intro p hp
  cases hp
theorem F_eq (n : Nat) (x0 : Int) (x1 : Int) : cmp_Compare_int.F n x0 x1 = exK cfg (pick (cal n)) (lam n) fin code (fun _ _ => none) (mkSt shp (x0, x1, ())) fin := by
  kernel_rfl
def pfn (n : Nat) : PFn := mkFn shp outs (fun x => cmp_Compare_int.F n x.1 x.2.1) out
theorem ok (n : Nat) : (pfn n).Ok Go.Proofs.Try.prog 108 :=
  mkFn_ok (fn := Go.Proofs.Try.f108) (code := code) Go.Proofs.Try.func108 (by kernel_rfl) (by decide) (C := cfg) (Φ := pick (cal n)) (Λ := lam n) (into := into) hT (cal_ok n) (by kernel_rfl) rfl (by decide) rfl (fun _ => rfl) (loops n)
    (fun x r h => by
      have e := F_eq n x.1 x.2.1
      exact e.symm.trans h)
end cmp_Compare_int
end
/-! ### cmp.Or[int] -/
section
namespace cmp_Or_int
noncomputable def code : Code := (Go.Proofs.Try.f107.body).getD .skip
abbrev shp : Shape := [(0, .one (.row (.int .i64) false))]
abbrev outs : List KD := [.one (.int .i64)]
abbrev R : Type := Int
def out : R → denL outs := fun r => (r, ())
def into : denL outs → R := fun y => y.1
def cfg : Cfg := ⟨ty, 18, [], fun i => match Nat.beq i 0 with | true => .loop | false => .plain, fun _ => none⟩
def cal (n : Nat) : List (Nat × PFn) := []
theorem cal_ok (n : Nat) : ∀ g, (pick (cal n) g).Ok Go.Proofs.Try.prog g := pick_ok (by
  intro p hp
  cases hp)
def fin : St → Option R := finOf ty [.tmp 2] outs into
abbrev sin0 : Shape := [(3, .one (.int .i64)), (6, .one (.row (.int .i64) false)), (7, .one (.int .i64)), (8, .one (.int .i64))]
abbrev sout0 : Shape := [(3, .one (.int .i64))]
def lam (n : Nat) : Nat → (St → Option R) → St → Option R := fun i => match Nat.beq i 0 with | true => (fun K st => match absSt sin0 st with | some (x, _) => cmp_Or_int.l0 n (fun y0 => K (mkSt sout0 (y0, ()))) n x.1 x.2.1 x.2.2.1 x.2.2.2.1 | none => none) | false => fun _ _ => none
noncomputable def lps : List (Nat × Code) := loopsOf cfg.blk code
noncomputable def b0 : Code := bodyOf lps 0
theorem l0_eq (n : Nat) (K : St → Option R) : ∀ (j : Nat) (x0 : Int) (x1 : List (Int)) (x2 : Int) (x3 : Int), cmp_Or_int.l0 n (fun y0 => K (mkSt sout0 (y0, ()))) j x0 x1 x2 x3 = iter (roundK cfg (pick (cal n)) (lam n) fin 0 b0 sin0 sout0 K) j (mkSt sin0 (x0, x1, x2, x3, ()))
  | 0, _, _, _, _ => rfl
  | j + 1, x0, x1, x2, x3 => by
    have ih : cmp_Or_int.l0 n (fun y0 => K (mkSt sout0 (y0, ()))) j = fun x0 x1 x2 x3 => iter (roundK cfg (pick (cal n)) (lam n) fin 0 b0 sin0 sout0 K) j (mkSt sin0 (x0, x1, x2, x3, ())) := funext fun x0 => funext fun x1 => funext fun x2 => funext fun x3 => l0_eq n K j x0 x1 x2 x3
    rw [cmp_Or_int.l0, ih]
    show _ = roundK cfg (pick (cal n)) (lam n) fin 0 b0 sin0 sout0 K (iter (roundK cfg (pick (cal n)) (lam n) fin 0 b0 sin0 sout0 K) j) (mkSt sin0 (x0, x1, x2, x3, ()))
    kernel_rfl
theorem loops (n : Nat) : LoopsOk cfg (pick (cal n)) (lam n) fin (loopsOf cfg.blk code) := by
  have h : loopsOf cfg.blk code = [(0, b0)] := by kernel_rfl
  rw [h]
  intro p hp K st r hr
  simp only [List.mem_cons, List.not_mem_nil, or_false] at hp
  rcases hp with rfl
  · have hr' : (match absSt sin0 st with | some (x, _) => cmp_Or_int.l0 n (fun y0 => K (mkSt sout0 (y0, ()))) n x.1 x.2.1 x.2.2.1 x.2.2.2.1 | none => none) = some r := hr
    split at hr'
    · rename_i x es hx
      rw [l0_eq] at hr'
      exact ⟨sin0, sout0, n, x, es, hx, hr'⟩
    · cases hr'
theorem F_eq (n : Nat) (x0 : List (Int)) : cmp_Or_int.F n x0 = exK cfg (pick (cal n)) (lam n) fin code (fun _ _ => none) (mkSt shp (x0, ())) fin := by
  kernel_rfl
def pfn (n : Nat) : PFn := mkFn shp outs (fun x => cmp_Or_int.F n x.1) out
theorem ok (n : Nat) : (pfn n).Ok Go.Proofs.Try.prog 107 :=
  mkFn_ok (fn := Go.Proofs.Try.f107) (code := code) Go.Proofs.Try.func107 (by kernel_rfl) (by decide) (C := cfg) (Φ := pick (cal n)) (Λ := lam n) (into := into) hT (cal_ok n) (by kernel_rfl) rfl (by decide) rfl (fun _ => rfl) (loops n)
    (fun x r h => by
      have e := F_eq n x.1
      exact e.symm.trans h)
end cmp_Or_int
end
/-! ### loop.example/g01158/impl.compareDoors -/
section
namespace impl_compareDoors
noncomputable def code : Code := (Go.Proofs.Try.f98.body).getD .skip
abbrev shp : Shape := [(0, .agg [.int .i64, .int .i64, .int .i64]), (1, .agg [.int .i64, .int .i64, .int .i64])]
abbrev outs : List KD := [.one (.int .i64)]
abbrev R : Type := Int
def out : R → denL outs := fun r => (r, ())
def into : denL outs → R := fun y => y.1
def cfg : Cfg := ⟨ty, 22, [], fun _ => .plain, fun _ => none⟩
def cal (n : Nat) : List (Nat × PFn) := [(107, cmp_Or_int.pfn n), (108, cmp_Compare_int.pfn n)]
theorem cal_ok (n : Nat) : ∀ g, (pick (cal n) g).Ok Go.Proofs.Try.prog g := pick_ok (by
  intro p hp
  simp only [cal, List.mem_cons, List.not_mem_nil, or_false] at hp
  rcases hp with rfl | rfl
  · exact cmp_Or_int.ok n
  · exact cmp_Compare_int.ok n)
def fin : St → Option R := finOf ty [.tmp 4] outs into
def lam (n : Nat) : Nat → (St → Option R) → St → Option R := fun _ => fun _ _ => none
theorem loops (n : Nat) : LoopsOk cfg (pick (cal n)) (lam n) fin (loopsOf cfg.blk code) := by
  have h : loopsOf cfg.blk code = [] := by kernel_rfl
  rw [h]
  intro p hp
  cases hp
theorem F_eq (n : Nat) (x0 : Int) (x1 : Int) (x2 : Int) (x3 : Int) (x4 : Int) (x5 : Int) : impl_compareDoors.F n x0 x1 x2 x3 x4 x5 = exK cfg (pick (cal n)) (lam n) fin code (fun _ _ => none) (mkSt shp ((x0, x1, x2, ()), (x3, x4, x5, ()), ())) fin := by
  kernel_rfl
def pfn (n : Nat) : PFn := mkFn shp outs (fun x => impl_compareDoors.F n x.1.1 x.1.2.1 x.1.2.2.1 x.2.1.1 x.2.1.2.1 x.2.1.2.2.1) out
theorem ok (n : Nat) : (pfn n).Ok Go.Proofs.Try.prog 98 :=
  mkFn_ok (fn := Go.Proofs.Try.f98) (code := code) Go.Proofs.Try.func98 (by kernel_rfl) (by decide) (C := cfg) (Φ := pick (cal n)) (Λ := lam n) (into := into) hT (cal_ok n) (by kernel_rfl) rfl (by decide) rfl (fun _ => rfl) (loops n)
    (fun x r h => by
      have e := F_eq n x.1.1 x.1.2.1 x.1.2.2.1 x.2.1.1 x.2.1.2.1 x.2.1.2.2.1
      exact e.symm.trans h)
end impl_compareDoors
end
/-! ### loop.example/g01158/impl.IsMaze$1 -/
section
namespace impl_IsMaze_1
noncomputable def code : Code := (Go.Proofs.Try.f99.body).getD .skip
abbrev shp : Shape := [(0, .one (.int .i64))]
abbrev outs : List KD := [.one (.bool)]
abbrev R : Type := Bool
def out : R → denL outs := fun r => (r, ())
def into : denL outs → R := fun y => y.1
def cfg : Cfg := ⟨ty, 6, [], fun _ => .plain, fun _ => none⟩
def cal (n : Nat) : List (Nat × PFn) := [(54, impl_isSet.pfn n)]
theorem cal_ok (n : Nat) : ∀ g, (pick (cal n) g).Ok Go.Proofs.Try.prog g := pick_ok (by
  intro p hp
  simp only [cal, List.mem_cons, List.not_mem_nil, or_false] at hp
  rcases hp with rfl
  · exact impl_isSet.ok n)
def fin : St → Option R := finOf ty [.tmp 2] outs into
def lam (n : Nat) : Nat → (St → Option R) → St → Option R := fun _ => fun _ _ => none
theorem loops (n : Nat) : LoopsOk cfg (pick (cal n)) (lam n) fin (loopsOf cfg.blk code) := by
  have h : loopsOf cfg.blk code = [] := by kernel_rfl
  rw [h]
  intro p hp
  cases hp
theorem F_eq (n : Nat) (x0 : Int) : impl_IsMaze_1.F n x0 = exK cfg (pick (cal n)) (lam n) fin code (fun _ _ => none) (mkSt shp (x0, ())) fin := by
  kernel_rfl
def pfn (n : Nat) : PFn := mkFn shp outs (fun x => impl_IsMaze_1.F n x.1) out
theorem ok (n : Nat) : (pfn n).Ok Go.Proofs.Try.prog 99 :=
  mkFn_ok (fn := Go.Proofs.Try.f99) (code := code) Go.Proofs.Try.func99 (by kernel_rfl) (by decide) (C := cfg) (Φ := pick (cal n)) (Λ := lam n) (into := into) hT (cal_ok n) (by kernel_rfl) rfl (by decide) rfl (fun _ => rfl) (loops n)
    (fun x r h => by
      have e := F_eq n x.1
      exact e.symm.trans h)
end impl_IsMaze_1
end
/-! ### slices.IndexFunc[[]int,int] -/
section
namespace slices_IndexFunc_int_int_cIsMaze_1
noncomputable def code : Code := (Go.Proofs.Try.f104.body).getD .skip
abbrev shp : Shape := [(0, .one (.row (.int .i64) false)), (1, .fn 99 [])]
abbrev outs : List KD := [.one (.int .i64)]
abbrev R : Type := Int
def out : R → denL outs := fun r => (r, ())
def into : denL outs → R := fun y => y.1
def cfg : Cfg := ⟨ty, 19, [], fun i => match Nat.beq i 0 with | true => .loop | false => .plain, fun _ => none⟩
def cal (n : Nat) : List (Nat × PFn) := [(99, impl_IsMaze_1.pfn n)]
theorem cal_ok (n : Nat) : ∀ g, (pick (cal n) g).Ok Go.Proofs.Try.prog g := pick_ok (by
  intro p hp
  simp only [cal, List.mem_cons, List.not_mem_nil, or_false] at hp
  rcases hp with rfl
  · exact impl_IsMaze_1.ok n)
def fin : St → Option R := finOf ty [.tmp 4] outs into
abbrev sin0 : Shape := [(0, .one (.row (.int .i64) false)), (1, .fn 99 []), (7, .one (.int .i64)), (8, .one (.int .i64))]
abbrev sout0 : Shape := []
def lam (n : Nat) : Nat → (St → Option R) → St → Option R := fun i => match Nat.beq i 0 with | true => (fun K st => match absSt sin0 st with | some (x, _) => slices_IndexFunc_int_int_cIsMaze_1.l0 n (fun _ => K (mkSt sout0 ())) n x.1 x.2.2.1 x.2.2.2.1 | none => none) | false => fun _ _ => none
noncomputable def lps : List (Nat × Code) := loopsOf cfg.blk code
noncomputable def b0 : Code := bodyOf lps 0
theorem l0_eq (n : Nat) (K : St → Option R) : ∀ (j : Nat) (x0 : List (Int)) (x1 : Int) (x2 : Int), slices_IndexFunc_int_int_cIsMaze_1.l0 n (fun _ => K (mkSt sout0 ())) j x0 x1 x2 = iter (roundK cfg (pick (cal n)) (lam n) fin 0 b0 sin0 sout0 K) j (mkSt sin0 (x0, (), x1, x2, ()))
  | 0, _, _, _ => rfl
  | j + 1, x0, x1, x2 => by
    have ih : slices_IndexFunc_int_int_cIsMaze_1.l0 n (fun _ => K (mkSt sout0 ())) j = fun x0 x1 x2 => iter (roundK cfg (pick (cal n)) (lam n) fin 0 b0 sin0 sout0 K) j (mkSt sin0 (x0, (), x1, x2, ())) := funext fun x0 => funext fun x1 => funext fun x2 => l0_eq n K j x0 x1 x2
    rw [slices_IndexFunc_int_int_cIsMaze_1.l0, ih]
    show _ = roundK cfg (pick (cal n)) (lam n) fin 0 b0 sin0 sout0 K (iter (roundK cfg (pick (cal n)) (lam n) fin 0 b0 sin0 sout0 K) j) (mkSt sin0 (x0, (), x1, x2, ()))
    kernel_rfl
theorem loops (n : Nat) : LoopsOk cfg (pick (cal n)) (lam n) fin (loopsOf cfg.blk code) := by
  have h : loopsOf cfg.blk code = [(0, b0)] := by kernel_rfl
  rw [h]
  intro p hp K st r hr
  simp only [List.mem_cons, List.not_mem_nil, or_false] at hp
  rcases hp with rfl
  · have hr' : (match absSt sin0 st with | some (x, _) => slices_IndexFunc_int_int_cIsMaze_1.l0 n (fun _ => K (mkSt sout0 ())) n x.1 x.2.2.1 x.2.2.2.1 | none => none) = some r := hr
    split at hr'
    · rename_i x es hx
      rw [l0_eq] at hr'
      exact ⟨sin0, sout0, n, x, es, hx, hr'⟩
    · cases hr'
theorem F_eq (n : Nat) (x0 : List (Int)) : slices_IndexFunc_int_int_cIsMaze_1.F n x0 = exK cfg (pick (cal n)) (lam n) fin code (fun _ _ => none) (mkSt shp (x0, (), ())) fin := by
  kernel_rfl
def pfn (n : Nat) : PFn := mkFn shp outs (fun x => slices_IndexFunc_int_int_cIsMaze_1.F n x.1) out
theorem ok (n : Nat) : (pfn n).Ok Go.Proofs.Try.prog 104 :=
  mkFn_ok (fn := Go.Proofs.Try.f104) (code := code) Go.Proofs.Try.func104 (by kernel_rfl) (by decide) (C := cfg) (Φ := pick (cal n)) (Λ := lam n) (into := into) hT (cal_ok n) (by kernel_rfl) rfl (by decide) rfl (fun _ => rfl) (loops n)
    (fun x r h => by
      have e := F_eq n x.1
      exact e.symm.trans h)
end slices_IndexFunc_int_int_cIsMaze_1
end
/-! ### slices.ContainsFunc[[]int,int] -/
section
namespace slices_ContainsFunc_int_int_cIsMaze_1
noncomputable def code : Code := (Go.Proofs.Try.f91.body).getD .skip
abbrev shp : Shape := [(0, .one (.row (.int .i64) false)), (1, .fn 99 [])]
abbrev outs : List KD := [.one (.bool)]
abbrev R : Type := Bool
def out : R → denL outs := fun r => (r, ())
def into : denL outs → R := fun y => y.1
def cfg : Cfg := ⟨ty, 9, [], fun _ => .plain, fun _ => none⟩
def cal (n : Nat) : List (Nat × PFn) := [(104, slices_IndexFunc_int_int_cIsMaze_1.pfn n)]
theorem cal_ok (n : Nat) : ∀ g, (pick (cal n) g).Ok Go.Proofs.Try.prog g := pick_ok (by
  intro p hp
  simp only [cal, List.mem_cons, List.not_mem_nil, or_false] at hp
  rcases hp with rfl
  · exact slices_IndexFunc_int_int_cIsMaze_1.ok n)
def fin : St → Option R := finOf ty [.tmp 4] outs into
def lam (n : Nat) : Nat → (St → Option R) → St → Option R := fun _ => fun _ _ => none
theorem loops (n : Nat) : LoopsOk cfg (pick (cal n)) (lam n) fin (loopsOf cfg.blk code) := by
  have h : loopsOf cfg.blk code = [] := by kernel_rfl
  rw [h]
  intro p hp
  cases hp
theorem F_eq (n : Nat) (x0 : List (Int)) : slices_ContainsFunc_int_int_cIsMaze_1.F n x0 = exK cfg (pick (cal n)) (lam n) fin code (fun _ _ => none) (mkSt shp (x0, (), ())) fin := by
  kernel_rfl
def pfn (n : Nat) : PFn := mkFn shp outs (fun x => slices_ContainsFunc_int_int_cIsMaze_1.F n x.1) out
theorem ok (n : Nat) : (pfn n).Ok Go.Proofs.Try.prog 91 :=
  mkFn_ok (fn := Go.Proofs.Try.f91) (code := code) Go.Proofs.Try.func91 (by kernel_rfl) (by decide) (C := cfg) (Φ := pick (cal n)) (Λ := lam n) (into := into) hT (cal_ok n) (by kernel_rfl) rfl (by decide) rfl (fun _ => rfl) (loops n)
    (fun x r h => by
      have e := F_eq n x.1
      exact e.symm.trans h)
end slices_ContainsFunc_int_int_cIsMaze_1
end
/-! ### loop.example/g01158/impl.IsMaze -/
section
namespace impl_IsMaze
noncomputable def code : Code := (Go.Proofs.Try.f71.body).getD .skip
abbrev shp : Shape := [(0, .agg [.int .i64, .row (.t3) false, .row (.int .i64) false])]
abbrev outs : List KD := [.one (.bool)]
abbrev R : Type := Bool
def out : R → denL outs := fun r => (r, ())
def into : denL outs → R := fun y => y.1
def cfg : Cfg := ⟨ty, 74, [], fun i => match Nat.beq i 0 with | true => .loop | false => .plain, fun i => match Nat.beq i 3 with | true => some [(1, .box true [.int .i64, .row (.t3) false, .row (.int .i64) false])] | false => none⟩
def cal (n : Nat) : List (Nat × PFn) := [(54, impl_isSet.pfn n), (91, slices_ContainsFunc_int_int_cIsMaze_1.pfn n), (93, impl_within.pfn n), (98, impl_compareDoors.pfn n)]
theorem cal_ok (n : Nat) : ∀ g, (pick (cal n) g).Ok Go.Proofs.Try.prog g := pick_ok (by
  intro p hp
  simp only [cal, List.mem_cons, List.not_mem_nil, or_false] at hp
  rcases hp with rfl | rfl | rfl | rfl
  · exact impl_isSet.ok n
  · exact slices_ContainsFunc_int_int_cIsMaze_1.ok n
  · exact impl_within.ok n
  · exact impl_compareDoors.ok n)
def fin : St → Option R := finOf ty [.tmp 2] outs into
abbrev sin0 : Shape := [(1, .box true [.int .i64, .row (.t3) false, .row (.int .i64) false]), (24, .one (.ref 1)), (25, .one (.int .i64)), (26, .one (.int .i64))]
abbrev sout0 : Shape := [(1, .box true [.int .i64, .row (.t3) false, .row (.int .i64) false])]
def lam (n : Nat) : Nat → (St → Option R) → St → Option R := fun i => match Nat.beq i 0 with | true => (fun K st => match absSt sin0 st with | some (x, _) => impl_IsMaze.l0 n (fun y0 y1 y2 => K (mkSt sout0 ((y0, y1, y2, ()), ()))) n x.1.1 x.1.2.1 x.1.2.2.1 x.2.2.1 x.2.2.2.1 | none => none) | false => fun _ _ => none
noncomputable def lps : List (Nat × Code) := loopsOf cfg.blk code
noncomputable def b0 : Code := bodyOf lps 0
theorem l0_eq (n : Nat) (K : St → Option R) : ∀ (j : Nat) (x0 : Int) (x1 : List (Int × Int × Int)) (x2 : List (Int)) (x3 : Int) (x4 : Int), impl_IsMaze.l0 n (fun y0 y1 y2 => K (mkSt sout0 ((y0, y1, y2, ()), ()))) j x0 x1 x2 x3 x4 = iter (roundK cfg (pick (cal n)) (lam n) fin 0 b0 sin0 sout0 K) j (mkSt sin0 ((x0, x1, x2, ()), (), x3, x4, ()))
  | 0, _, _, _, _, _ => rfl
  | j + 1, x0, x1, x2, x3, x4 => by
    have ih : impl_IsMaze.l0 n (fun y0 y1 y2 => K (mkSt sout0 ((y0, y1, y2, ()), ()))) j = fun x0 x1 x2 x3 x4 => iter (roundK cfg (pick (cal n)) (lam n) fin 0 b0 sin0 sout0 K) j (mkSt sin0 ((x0, x1, x2, ()), (), x3, x4, ())) := funext fun x0 => funext fun x1 => funext fun x2 => funext fun x3 => funext fun x4 => l0_eq n K j x0 x1 x2 x3 x4
    rw [impl_IsMaze.l0, ih]
    show _ = roundK cfg (pick (cal n)) (lam n) fin 0 b0 sin0 sout0 K (iter (roundK cfg (pick (cal n)) (lam n) fin 0 b0 sin0 sout0 K) j) (mkSt sin0 ((x0, x1, x2, ()), (), x3, x4, ()))
    kernel_rfl
theorem loops (n : Nat) : LoopsOk cfg (pick (cal n)) (lam n) fin (loopsOf cfg.blk code) := by
  have h : loopsOf cfg.blk code = [(0, b0)] := by kernel_rfl
  rw [h]
  intro p hp K st r hr
  simp only [List.mem_cons, List.not_mem_nil, or_false] at hp
  rcases hp with rfl
  · have hr' : (match absSt sin0 st with | some (x, _) => impl_IsMaze.l0 n (fun y0 y1 y2 => K (mkSt sout0 ((y0, y1, y2, ()), ()))) n x.1.1 x.1.2.1 x.1.2.2.1 x.2.2.1 x.2.2.2.1 | none => none) = some r := hr
    split at hr'
    · rename_i x es hx
      rw [l0_eq] at hr'
      exact ⟨sin0, sout0, n, x, es, hx, hr'⟩
    · cases hr'
theorem F_eq (n : Nat) (x0 : Int) (x1 : List (Int × Int × Int)) (x2 : List (Int)) : impl_IsMaze.F n x0 x1 x2 = exK cfg (pick (cal n)) (lam n) fin code (fun _ _ => none) (mkSt shp ((x0, x1, x2, ()), ())) fin := by
  kernel_rfl
def pfn (n : Nat) : PFn := mkFn shp outs (fun x => impl_IsMaze.F n x.1.1 x.1.2.1 x.1.2.2.1) out
theorem ok (n : Nat) : (pfn n).Ok Go.Proofs.Try.prog 71 :=
  mkFn_ok (fn := Go.Proofs.Try.f71) (code := code) Go.Proofs.Try.func71 (by kernel_rfl) (by decide) (C := cfg) (Φ := pick (cal n)) (Λ := lam n) (into := into) hT (cal_ok n) (by kernel_rfl) rfl (by decide) rfl (fun _ => rfl) (loops n)
    (fun x r h => by
      have e := F_eq n x.1.1 x.1.2.1 x.1.2.2.1
      exact e.symm.trans h)
end impl_IsMaze
end
/-! ### loop.example/g01158/impl.isNode$1 -/
section
namespace impl_isNode_1_c0
noncomputable def code : Code := (Go.Proofs.Try.f92.body).getD .skip
abbrev shp : Shape := [(0, .one (.int .i64)), (1, .box false [.int .i64, .row (.t3) false, .row (.int .i64) false])]
abbrev outs : List KD := [.one (.bool)]
abbrev R : Type := Bool
def out : R → denL outs := fun r => (r, ())
def into : denL outs → R := fun y => y.1
def cfg : Cfg := ⟨ty, 10, [], fun _ => .plain, fun _ => none⟩
def cal (n : Nat) : List (Nat × PFn) := [(93, impl_within.pfn n)]
theorem cal_ok (n : Nat) : ∀ g, (pick (cal n) g).Ok Go.Proofs.Try.prog g := pick_ok (by
  intro p hp
  simp only [cal, List.mem_cons, List.not_mem_nil, or_false] at hp
  rcases hp with rfl
  · exact impl_within.ok n)
def fin : St → Option R := finOf ty [.tmp 3] outs into
def lam (n : Nat) : Nat → (St → Option R) → St → Option R := fun _ => fun _ _ => none
theorem loops (n : Nat) : LoopsOk cfg (pick (cal n)) (lam n) fin (loopsOf cfg.blk code) := by
  have h : loopsOf cfg.blk code = [] := by kernel_rfl
  rw [h]
  intro p hp
  cases hp
theorem F_eq (n : Nat) (x0 : Int) (x1 : Int) (x2 : List (Int × Int × Int)) (x3 : List (Int)) : impl_isNode_1_c0.F n x0 x1 x2 x3 = exK cfg (pick (cal n)) (lam n) fin code (fun _ _ => none) (mkSt shp (x0, (x1, x2, x3, ()), ())) fin := by
  kernel_rfl
def pfn (n : Nat) : PFn := mkFn shp outs (fun x => impl_isNode_1_c0.F n x.1 x.2.1.1 x.2.1.2.1 x.2.1.2.2.1) out
theorem ok (n : Nat) : (pfn n).Ok Go.Proofs.Try.prog 92 :=
  mkFn_ok (fn := Go.Proofs.Try.f92) (code := code) Go.Proofs.Try.func92 (by kernel_rfl) (by decide) (C := cfg) (Φ := pick (cal n)) (Λ := lam n) (into := into) hT (cal_ok n) (by kernel_rfl) rfl (by decide) rfl (fun _ => rfl) (loops n)
    (fun x r h => by
      have e := F_eq n x.1 x.2.1.1 x.2.1.2.1 x.2.1.2.2.1
      exact e.symm.trans h)
end impl_isNode_1_c0
end
/-! ### slices.IndexFunc[[]int,int] -/
section
namespace slices_IndexFunc_int_int_cisNode_1
noncomputable def code : Code := (Go.Proofs.Try.f104.body).getD .skip
abbrev shp : Shape := [(0, .one (.row (.int .i64) false)), (1, .cap (.box false [.int .i64, .row (.t3) false, .row (.int .i64) false]) (.fn 92 []))]
abbrev outs : List KD := [.one (.int .i64)]
abbrev R : Type := Int
def out : R → denL outs := fun r => (r, ())
def into : denL outs → R := fun y => y.1
def cfg : Cfg := ⟨ty, 19, [], fun i => match Nat.beq i 0 with | true => .loop | false => .plain, fun _ => none⟩
def cal (n : Nat) : List (Nat × PFn) := [(92, impl_isNode_1_c0.pfn n)]
theorem cal_ok (n : Nat) : ∀ g, (pick (cal n) g).Ok Go.Proofs.Try.prog g := pick_ok (by
  intro p hp
  simp only [cal, List.mem_cons, List.not_mem_nil, or_false] at hp
  rcases hp with rfl
  · exact impl_isNode_1_c0.ok n)
def fin : St → Option R := finOf ty [.tmp 4] outs into
abbrev sin0 : Shape := [(0, .one (.row (.int .i64) false)), (1, .cap (.box false [.int .i64, .row (.t3) false, .row (.int .i64) false]) (.fn 92 [])), (7, .one (.int .i64)), (8, .one (.int .i64))]
abbrev sout0 : Shape := []
def lam (n : Nat) : Nat → (St → Option R) → St → Option R := fun i => match Nat.beq i 0 with | true => (fun K st => match absSt sin0 st with | some (x, _) => slices_IndexFunc_int_int_cisNode_1.l0 n (fun _ => K (mkSt sout0 ())) n x.1 x.2.1.1.1 x.2.1.1.2.1 x.2.1.1.2.2.1 x.2.2.1 x.2.2.2.1 | none => none) | false => fun _ _ => none
noncomputable def lps : List (Nat × Code) := loopsOf cfg.blk code
noncomputable def b0 : Code := bodyOf lps 0
theorem l0_eq (n : Nat) (K : St → Option R) : ∀ (j : Nat) (x0 : List (Int)) (x1 : Int) (x2 : List (Int × Int × Int)) (x3 : List (Int)) (x4 : Int) (x5 : Int), slices_IndexFunc_int_int_cisNode_1.l0 n (fun _ => K (mkSt sout0 ())) j x0 x1 x2 x3 x4 x5 = iter (roundK cfg (pick (cal n)) (lam n) fin 0 b0 sin0 sout0 K) j (mkSt sin0 (x0, ((x1, x2, x3, ()), ()), x4, x5, ()))
  | 0, _, _, _, _, _, _ => rfl
  | j + 1, x0, x1, x2, x3, x4, x5 => by
    have ih : slices_IndexFunc_int_int_cisNode_1.l0 n (fun _ => K (mkSt sout0 ())) j = fun x0 x1 x2 x3 x4 x5 => iter (roundK cfg (pick (cal n)) (lam n) fin 0 b0 sin0 sout0 K) j (mkSt sin0 (x0, ((x1, x2, x3, ()), ()), x4, x5, ())) := funext fun x0 => funext fun x1 => funext fun x2 => funext fun x3 => funext fun x4 => funext fun x5 => l0_eq n K j x0 x1 x2 x3 x4 x5
    rw [slices_IndexFunc_int_int_cisNode_1.l0, ih]
    show _ = roundK cfg (pick (cal n)) (lam n) fin 0 b0 sin0 sout0 K (iter (roundK cfg (pick (cal n)) (lam n) fin 0 b0 sin0 sout0 K) j) (mkSt sin0 (x0, ((x1, x2, x3, ()), ()), x4, x5, ()))
    kernel_rfl
theorem loops (n : Nat) : LoopsOk cfg (pick (cal n)) (lam n) fin (loopsOf cfg.blk code) := by
  have h : loopsOf cfg.blk code = [(0, b0)] := by kernel_rfl
  rw [h]
  intro p hp K st r hr
  simp only [List.mem_cons, List.not_mem_nil, or_false] at hp
  rcases hp with rfl
  · have hr' : (match absSt sin0 st with | some (x, _) => slices_IndexFunc_int_int_cisNode_1.l0 n (fun _ => K (mkSt sout0 ())) n x.1 x.2.1.1.1 x.2.1.1.2.1 x.2.1.1.2.2.1 x.2.2.1 x.2.2.2.1 | none => none) = some r := hr
    split at hr'
    · rename_i x es hx
      rw [l0_eq] at hr'
      exact ⟨sin0, sout0, n, x, es, hx, hr'⟩
    · cases hr'
theorem F_eq (n : Nat) (x0 : List (Int)) (x1 : Int) (x2 : List (Int × Int × Int)) (x3 : List (Int)) : slices_IndexFunc_int_int_cisNode_1.F n x0 x1 x2 x3 = exK cfg (pick (cal n)) (lam n) fin code (fun _ _ => none) (mkSt shp (x0, ((x1, x2, x3, ()), ()), ())) fin := by
  kernel_rfl
def pfn (n : Nat) : PFn := mkFn shp outs (fun x => slices_IndexFunc_int_int_cisNode_1.F n x.1 x.2.1.1.1 x.2.1.1.2.1 x.2.1.1.2.2.1) out
theorem ok (n : Nat) : (pfn n).Ok Go.Proofs.Try.prog 104 :=
  mkFn_ok (fn := Go.Proofs.Try.f104) (code := code) Go.Proofs.Try.func104 (by kernel_rfl) (by decide) (C := cfg) (Φ := pick (cal n)) (Λ := lam n) (into := into) hT (cal_ok n) (by kernel_rfl) rfl (by decide) rfl (fun _ => rfl) (loops n)
    (fun x r h => by
      have e := F_eq n x.1 x.2.1.1.1 x.2.1.1.2.1 x.2.1.1.2.2.1
      exact e.symm.trans h)
end slices_IndexFunc_int_int_cisNode_1
end
/-! ### slices.ContainsFunc[[]int,int] -/
section
namespace slices_ContainsFunc_int_int_cisNode_1
noncomputable def code : Code := (Go.Proofs.Try.f91.body).getD .skip
abbrev shp : Shape := [(0, .one (.row (.int .i64) false)), (1, .cap (.box false [.int .i64, .row (.t3) false, .row (.int .i64) false]) (.fn 92 []))]
abbrev outs : List KD := [.one (.bool)]
abbrev R : Type := Bool
def out : R → denL outs := fun r => (r, ())
def into : denL outs → R := fun y => y.1
def cfg : Cfg := ⟨ty, 9, [], fun _ => .plain, fun _ => none⟩
def cal (n : Nat) : List (Nat × PFn) := [(104, slices_IndexFunc_int_int_cisNode_1.pfn n)]
theorem cal_ok (n : Nat) : ∀ g, (pick (cal n) g).Ok Go.Proofs.Try.prog g := pick_ok (by
  intro p hp
  simp only [cal, List.mem_cons, List.not_mem_nil, or_false] at hp
  rcases hp with rfl
  · exact slices_IndexFunc_int_int_cisNode_1.ok n)
def fin : St → Option R := finOf ty [.tmp 4] outs into
def lam (n : Nat) : Nat → (St → Option R) → St → Option R := fun _ => fun _ _ => none
theorem loops (n : Nat) : LoopsOk cfg (pick (cal n)) (lam n) fin (loopsOf cfg.blk code) := by
  have h : loopsOf cfg.blk code = [] := by kernel_rfl
  rw [h]
  intro p hp
  cases hp
theorem F_eq (n : Nat) (x0 : List (Int)) (x1 : Int) (x2 : List (Int × Int × Int)) (x3 : List (Int)) : slices_ContainsFunc_int_int_cisNode_1.F n x0 x1 x2 x3 = exK cfg (pick (cal n)) (lam n) fin code (fun _ _ => none) (mkSt shp (x0, ((x1, x2, x3, ()), ()), ())) fin := by
  kernel_rfl
def pfn (n : Nat) : PFn := mkFn shp outs (fun x => slices_ContainsFunc_int_int_cisNode_1.F n x.1 x.2.1.1.1 x.2.1.1.2.1 x.2.1.1.2.2.1) out
theorem ok (n : Nat) : (pfn n).Ok Go.Proofs.Try.prog 91 :=
  mkFn_ok (fn := Go.Proofs.Try.f91) (code := code) Go.Proofs.Try.func91 (by kernel_rfl) (by decide) (C := cfg) (Φ := pick (cal n)) (Λ := lam n) (into := into) hT (cal_ok n) (by kernel_rfl) rfl (by decide) rfl (fun _ => rfl) (loops n)
    (fun x r h => by
      have e := F_eq n x.1 x.2.1.1.1 x.2.1.1.2.1 x.2.1.1.2.2.1
      exact e.symm.trans h)
end slices_ContainsFunc_int_int_cisNode_1
end
/-! ### loop.example/g01158/impl.isNode -/
section
namespace impl_isNode
noncomputable def code : Code := (Go.Proofs.Try.f53.body).getD .skip
abbrev shp : Shape := [(0, .agg [.int .i64, .row (.t3) false, .row (.int .i64) false]), (1, .one (.row (.int .i64) false))]
abbrev outs : List KD := [.one (.bool)]
abbrev R : Type := Bool
def out : R → denL outs := fun r => (r, ())
def into : denL outs → R := fun y => y.1
def cfg : Cfg := ⟨ty, 13, [], fun _ => .plain, fun _ => none⟩
def cal (n : Nat) : List (Nat × PFn) := [(71, impl_IsMaze.pfn n), (91, slices_ContainsFunc_int_int_cisNode_1.pfn n)]
theorem cal_ok (n : Nat) : ∀ g, (pick (cal n) g).Ok Go.Proofs.Try.prog g := pick_ok (by
  intro p hp
  simp only [cal, List.mem_cons, List.not_mem_nil, or_false] at hp
  rcases hp with rfl | rfl
  · exact impl_IsMaze.ok n
  · exact slices_ContainsFunc_int_int_cisNode_1.ok n)
def fin : St → Option R := finOf ty [.tmp 4] outs into
def lam (n : Nat) : Nat → (St → Option R) → St → Option R := fun _ => fun _ _ => none
theorem loops (n : Nat) : LoopsOk cfg (pick (cal n)) (lam n) fin (loopsOf cfg.blk code) := by
  have h : loopsOf cfg.blk code = [] := by kernel_rfl
  rw [h]
  intro p hp
  cases hp
theorem F_eq (n : Nat) (x0 : Int) (x1 : List (Int × Int × Int)) (x2 : List (Int)) (x3 : List (Int)) : impl_isNode.F n x0 x1 x2 x3 = exK cfg (pick (cal n)) (lam n) fin code (fun _ _ => none) (mkSt shp ((x0, x1, x2, ()), x3, ())) fin := by
  kernel_rfl
def pfn (n : Nat) : PFn := mkFn shp outs (fun x => impl_isNode.F n x.1.1 x.1.2.1 x.1.2.2.1 x.2.1) out
theorem ok (n : Nat) : (pfn n).Ok Go.Proofs.Try.prog 53 :=
  mkFn_ok (fn := Go.Proofs.Try.f53) (code := code) Go.Proofs.Try.func53 (by kernel_rfl) (by decide) (C := cfg) (Φ := pick (cal n)) (Λ := lam n) (into := into) hT (cal_ok n) (by kernel_rfl) rfl (by decide) rfl (fun _ => rfl) (loops n)
    (fun x r h => by
      have e := F_eq n x.1.1 x.1.2.1 x.1.2.2.1 x.2.1
      exact e.symm.trans h)
end impl_isNode
end
/-! ### loop.example/g01158/impl.has -/
section
namespace impl_has
noncomputable def code : Code := (Go.Proofs.Try.f105.body).getD .skip
abbrev shp : Shape := [(0, .one (.int .i64)), (1, .one (.int .i64))]
abbrev outs : List KD := [.one (.bool)]
abbrev R : Type := Bool
def out : R → denL outs := fun r => (r, ())
def into : denL outs → R := fun y => y.1
def cfg : Cfg := ⟨ty, 9, [], fun _ => .plain, fun _ => none⟩
def cal (n : Nat) : List (Nat × PFn) := []
theorem cal_ok (n : Nat) : ∀ g, (pick (cal n) g).Ok Go.Proofs.Try.prog g := pick_ok (by
  intro p hp
  cases hp)
def fin : St → Option R := finOf ty [.tmp 4] outs into
def lam (n : Nat) : Nat → (St → Option R) → St → Option R := fun _ => fun _ _ => none
theorem loops (n : Nat) : LoopsOk cfg (pick (cal n)) (lam n) fin (loopsOf cfg.blk code) := by
  have h : loopsOf cfg.blk code = [] := by kernel_rfl
  rw [h]
  intro p hp
  cases hp
theorem F_eq (n : Nat) (x0 : Int) (x1 : Int) : impl_has.F n x0 x1 = exK cfg (pick (cal n)) (lam n) fin code (fun _ _ => none) (mkSt shp (x0, x1, ())) fin := by
  kernel_rfl
def pfn (n : Nat) : PFn := mkFn shp outs (fun x => impl_has.F n x.1 x.2.1) out
theorem ok (n : Nat) : (pfn n).Ok Go.Proofs.Try.prog 105 :=
  mkFn_ok (fn := Go.Proofs.Try.f105) (code := code) Go.Proofs.Try.func105 (by kernel_rfl) (by decide) (C := cfg) (Φ := pick (cal n)) (Λ := lam n) (into := into) hT (cal_ok n) (by kernel_rfl) rfl (by decide) rfl (fun _ => rfl) (loops n)
    (fun x r h => by
      have e := F_eq n x.1 x.2.1
      exact e.symm.trans h)
end impl_has
end
/-! ### loop.example/g01158/impl.steps -/
section
namespace impl_steps
noncomputable def code : Code := (Go.Proofs.Try.f94.body).getD .skip
abbrev shp : Shape := [(0, .agg [.int .i64, .row (.t3) false, .row (.int .i64) false]), (1, .one (.int .i64)), (2, .one (.int .i64))]
abbrev outs : List KD := [.one (.int .i64)]
abbrev R : Type := Int
def out : R → denL outs := fun r => (r, ())
def into : denL outs → R := fun y => y.1
def cfg : Cfg := ⟨ty, 42, [], fun i => match Nat.beq i 0 with | true => .loop | false => .plain, fun _ => none⟩
def cal (n : Nat) : List (Nat × PFn) := [(105, impl_has.pfn n)]
theorem cal_ok (n : Nat) : ∀ g, (pick (cal n) g).Ok Go.Proofs.Try.prog g := pick_ok (by
  intro p hp
  simp only [cal, List.mem_cons, List.not_mem_nil, or_false] at hp
  rcases hp with rfl
  · exact impl_has.ok n)
def fin : St → Option R := finOf ty [.tmp 6] outs into
abbrev sin0 : Shape := [(1, .one (.int .i64)), (2, .one (.int .i64)), (7, .one (.int .i64)), (11, .one (.row (.t3) false)), (12, .one (.int .i64)), (13, .one (.int .i64))]
abbrev sout0 : Shape := [(7, .one (.int .i64))]
def lam (n : Nat) : Nat → (St → Option R) → St → Option R := fun i => match Nat.beq i 0 with | true => (fun K st => match absSt sin0 st with | some (x, _) => impl_steps.l0 n (fun y0 => K (mkSt sout0 (y0, ()))) n x.1 x.2.1 x.2.2.1 x.2.2.2.1 x.2.2.2.2.1 x.2.2.2.2.2.1 | none => none) | false => fun _ _ => none
noncomputable def lps : List (Nat × Code) := loopsOf cfg.blk code
noncomputable def b0 : Code := bodyOf lps 0
theorem l0_eq (n : Nat) (K : St → Option R) : ∀ (j : Nat) (x0 : Int) (x1 : Int) (x2 : Int) (x3 : List (Int × Int × Int)) (x4 : Int) (x5 : Int), impl_steps.l0 n (fun y0 => K (mkSt sout0 (y0, ()))) j x0 x1 x2 x3 x4 x5 = iter (roundK cfg (pick (cal n)) (lam n) fin 0 b0 sin0 sout0 K) j (mkSt sin0 (x0, x1, x2, x3, x4, x5, ()))
  | 0, _, _, _, _, _, _ => rfl
  | j + 1, x0, x1, x2, x3, x4, x5 => by
    have ih : impl_steps.l0 n (fun y0 => K (mkSt sout0 (y0, ()))) j = fun x0 x1 x2 x3 x4 x5 => iter (roundK cfg (pick (cal n)) (lam n) fin 0 b0 sin0 sout0 K) j (mkSt sin0 (x0, x1, x2, x3, x4, x5, ())) := funext fun x0 => funext fun x1 => funext fun x2 => funext fun x3 => funext fun x4 => funext fun x5 => l0_eq n K j x0 x1 x2 x3 x4 x5
    rw [impl_steps.l0, ih]
    show _ = roundK cfg (pick (cal n)) (lam n) fin 0 b0 sin0 sout0 K (iter (roundK cfg (pick (cal n)) (lam n) fin 0 b0 sin0 sout0 K) j) (mkSt sin0 (x0, x1, x2, x3, x4, x5, ()))
    kernel_rfl
theorem loops (n : Nat) : LoopsOk cfg (pick (cal n)) (lam n) fin (loopsOf cfg.blk code) := by
  have h : loopsOf cfg.blk code = [(0, b0)] := by kernel_rfl
  rw [h]
  intro p hp K st r hr
  simp only [List.mem_cons, List.not_mem_nil, or_false] at hp
  rcases hp with rfl
  · have hr' : (match absSt sin0 st with | some (x, _) => impl_steps.l0 n (fun y0 => K (mkSt sout0 (y0, ()))) n x.1 x.2.1 x.2.2.1 x.2.2.2.1 x.2.2.2.2.1 x.2.2.2.2.2.1 | none => none) = some r := hr
    split at hr'
    · rename_i x es hx
      rw [l0_eq] at hr'
      exact ⟨sin0, sout0, n, x, es, hx, hr'⟩
    · cases hr'
theorem F_eq (n : Nat) (x0 : Int) (x1 : List (Int × Int × Int)) (x2 : List (Int)) (x3 : Int) (x4 : Int) : impl_steps.F n x0 x1 x2 x3 x4 = exK cfg (pick (cal n)) (lam n) fin code (fun _ _ => none) (mkSt shp ((x0, x1, x2, ()), x3, x4, ())) fin := by
  kernel_rfl
def pfn (n : Nat) : PFn := mkFn shp outs (fun x => impl_steps.F n x.1.1 x.1.2.1 x.1.2.2.1 x.2.1 x.2.2.1) out
theorem ok (n : Nat) : (pfn n).Ok Go.Proofs.Try.prog 94 :=
  mkFn_ok (fn := Go.Proofs.Try.f94) (code := code) Go.Proofs.Try.func94 (by kernel_rfl) (by decide) (C := cfg) (Φ := pick (cal n)) (Λ := lam n) (into := into) hT (cal_ok n) (by kernel_rfl) rfl (by decide) rfl (fun _ => rfl) (loops n)
    (fun x r h => by
      have e := F_eq n x.1.1 x.1.2.1 x.1.2.2.1 x.2.1 x.2.2.1
      exact e.symm.trans h)
end impl_steps
end
/-! ### loop.example/g01158/impl.members -/
section
namespace impl_members
noncomputable def code : Code := (Go.Proofs.Try.f55.body).getD .skip
abbrev shp : Shape := [(0, .one (.int .i64))]
abbrev outs : List KD := [.one (.row (.int .i64) true)]
abbrev R : Type := (List (Int))
def out : R → denL outs := fun r => (r, ())
def into : denL outs → R := fun y => y.1
def cfg : Cfg := ⟨ty, 22, [], fun i => match Nat.beq i 0 with | true => .loop | false => .plain, fun _ => none⟩
def cal (n : Nat) : List (Nat × PFn) := []
theorem cal_ok (n : Nat) : ∀ g, (pick (cal n) g).Ok Go.Proofs.Try.prog g := pick_ok (by
  intro p hp
  cases hp)
def fin : St → Option R := finOf ty [.tmp 2] outs into
abbrev sin0 : Shape := [(0, .one (.int .i64)), (3, .one (.row (.int .i64) true)), (4, .one (.int .i64))]
abbrev sout0 : Shape := [(3, .one (.row (.int .i64) true))]
def lam (n : Nat) : Nat → (St → Option R) → St → Option R := fun i => match Nat.beq i 0 with | true => (fun K st => match absSt sin0 st with | some (x, _) => impl_members.l0 n (fun y0 => K (mkSt sout0 (y0, ()))) n x.1 x.2.1 x.2.2.1 | none => none) | false => fun _ _ => none
noncomputable def lps : List (Nat × Code) := loopsOf cfg.blk code
noncomputable def b0 : Code := bodyOf lps 0
theorem l0_eq (n : Nat) (K : St → Option R) : ∀ (j : Nat) (x0 : Int) (x1 : List (Int)) (x2 : Int), impl_members.l0 n (fun y0 => K (mkSt sout0 (y0, ()))) j x0 x1 x2 = iter (roundK cfg (pick (cal n)) (lam n) fin 0 b0 sin0 sout0 K) j (mkSt sin0 (x0, x1, x2, ()))
  | 0, _, _, _ => rfl
  | j + 1, x0, x1, x2 => by
    have ih : impl_members.l0 n (fun y0 => K (mkSt sout0 (y0, ()))) j = fun x0 x1 x2 => iter (roundK cfg (pick (cal n)) (lam n) fin 0 b0 sin0 sout0 K) j (mkSt sin0 (x0, x1, x2, ())) := funext fun x0 => funext fun x1 => funext fun x2 => l0_eq n K j x0 x1 x2
    rw [impl_members.l0, ih]
    show _ = roundK cfg (pick (cal n)) (lam n) fin 0 b0 sin0 sout0 K (iter (roundK cfg (pick (cal n)) (lam n) fin 0 b0 sin0 sout0 K) j) (mkSt sin0 (x0, x1, x2, ()))
    kernel_rfl
theorem loops (n : Nat) : LoopsOk cfg (pick (cal n)) (lam n) fin (loopsOf cfg.blk code) := by
  have h : loopsOf cfg.blk code = [(0, b0)] := by kernel_rfl
  rw [h]
  intro p hp K st r hr
  simp only [List.mem_cons, List.not_mem_nil, or_false] at hp
  rcases hp with rfl
  · have hr' : (match absSt sin0 st with | some (x, _) => impl_members.l0 n (fun y0 => K (mkSt sout0 (y0, ()))) n x.1 x.2.1 x.2.2.1 | none => none) = some r := hr
    split at hr'
    · rename_i x es hx
      rw [l0_eq] at hr'
      exact ⟨sin0, sout0, n, x, es, hx, hr'⟩
    · cases hr'
theorem F_eq (n : Nat) (x0 : Int) : impl_members.F n x0 = exK cfg (pick (cal n)) (lam n) fin code (fun _ _ => none) (mkSt shp (x0, ())) fin := by
  kernel_rfl
def pfn (n : Nat) : PFn := mkFn shp outs (fun x => impl_members.F n x.1) out
theorem ok (n : Nat) : (pfn n).Ok Go.Proofs.Try.prog 55 :=
  mkFn_ok (fn := Go.Proofs.Try.f55) (code := code) Go.Proofs.Try.func55 (by kernel_rfl) (by decide) (C := cfg) (Φ := pick (cal n)) (Λ := lam n) (into := into) hT (cal_ok n) (by kernel_rfl) rfl (by decide) rfl (fun _ => rfl) (loops n)
    (fun x r h => by
      have e := F_eq n x.1
      exact e.symm.trans h)
end impl_members
end
/-! ### loop.example/g01158/impl.reach -/
section
namespace impl_reach
noncomputable def code : Code := (Go.Proofs.Try.f56.body).getD .skip
abbrev shp : Shape := [(0, .agg [.int .i64, .row (.t3) false, .row (.int .i64) false]), (1, .one (.int .i64)), (2, .one (.int .i64))]
abbrev outs : List KD := [.one (.int .i64)]
abbrev R : Type := Int
def out : R → denL outs := fun r => (r, ())
def into : denL outs → R := fun y => y.1
def cfg : Cfg := ⟨ty, 34, [], fun i => match Nat.beq i 0 with | true => .loop | false => .plain, fun _ => none⟩
def cal (n : Nat) : List (Nat × PFn) := [(55, impl_members.pfn n), (94, impl_steps.pfn n)]
theorem cal_ok (n : Nat) : ∀ g, (pick (cal n) g).Ok Go.Proofs.Try.prog g := pick_ok (by
  intro p hp
  simp only [cal, List.mem_cons, List.not_mem_nil, or_false] at hp
  rcases hp with rfl | rfl
  · exact impl_members.ok n
  · exact impl_steps.ok n)
def fin : St → Option R := finOf ty [.tmp 6] outs into
abbrev sin0 : Shape := [(2, .one (.int .i64)), (3, .box true [.int .i64, .row (.t3) false, .row (.int .i64) false]), (7, .one (.int .i64)), (8, .one (.row (.int .i64) true))]
abbrev sout0 : Shape := [(7, .one (.int .i64))]
def lam (n : Nat) : Nat → (St → Option R) → St → Option R := fun i => match Nat.beq i 0 with | true => (fun K st => match absSt sin0 st with | some (x, _) => impl_reach.l0 n (fun y0 => K (mkSt sout0 (y0, ()))) n x.1 x.2.1.1 x.2.1.2.1 x.2.1.2.2.1 x.2.2.1 x.2.2.2.1 | none => none) | false => fun _ _ => none
noncomputable def lps : List (Nat × Code) := loopsOf cfg.blk code
noncomputable def b0 : Code := bodyOf lps 0
theorem l0_eq (n : Nat) (K : St → Option R) : ∀ (j : Nat) (x0 : Int) (x1 : Int) (x2 : List (Int × Int × Int)) (x3 : List (Int)) (x4 : Int) (x5 : List (Int)), impl_reach.l0 n (fun y0 => K (mkSt sout0 (y0, ()))) j x0 x1 x2 x3 x4 x5 = iter (roundK cfg (pick (cal n)) (lam n) fin 0 b0 sin0 sout0 K) j (mkSt sin0 (x0, (x1, x2, x3, ()), x4, x5, ()))
  | 0, _, _, _, _, _, _ => rfl
  | j + 1, x0, x1, x2, x3, x4, x5 => by
    have ih : impl_reach.l0 n (fun y0 => K (mkSt sout0 (y0, ()))) j = fun x0 x1 x2 x3 x4 x5 => iter (roundK cfg (pick (cal n)) (lam n) fin 0 b0 sin0 sout0 K) j (mkSt sin0 (x0, (x1, x2, x3, ()), x4, x5, ())) := funext fun x0 => funext fun x1 => funext fun x2 => funext fun x3 => funext fun x4 => funext fun x5 => l0_eq n K j x0 x1 x2 x3 x4 x5
    rw [impl_reach.l0, ih]
    show _ = roundK cfg (pick (cal n)) (lam n) fin 0 b0 sin0 sout0 K (iter (roundK cfg (pick (cal n)) (lam n) fin 0 b0 sin0 sout0 K) j) (mkSt sin0 (x0, (x1, x2, x3, ()), x4, x5, ()))
    kernel_rfl
theorem loops (n : Nat) : LoopsOk cfg (pick (cal n)) (lam n) fin (loopsOf cfg.blk code) := by
  have h : loopsOf cfg.blk code = [(0, b0)] := by kernel_rfl
  rw [h]
  intro p hp K st r hr
  simp only [List.mem_cons, List.not_mem_nil, or_false] at hp
  rcases hp with rfl
  · have hr' : (match absSt sin0 st with | some (x, _) => impl_reach.l0 n (fun y0 => K (mkSt sout0 (y0, ()))) n x.1 x.2.1.1 x.2.1.2.1 x.2.1.2.2.1 x.2.2.1 x.2.2.2.1 | none => none) = some r := hr
    split at hr'
    · rename_i x es hx
      rw [l0_eq] at hr'
      exact ⟨sin0, sout0, n, x, es, hx, hr'⟩
    · cases hr'
theorem F_eq (n : Nat) (x0 : Int) (x1 : List (Int × Int × Int)) (x2 : List (Int)) (x3 : Int) (x4 : Int) : impl_reach.F n x0 x1 x2 x3 x4 = exK cfg (pick (cal n)) (lam n) fin code (fun _ _ => none) (mkSt shp ((x0, x1, x2, ()), x3, x4, ())) fin := by
  kernel_rfl
def pfn (n : Nat) : PFn := mkFn shp outs (fun x => impl_reach.F n x.1.1 x.1.2.1 x.1.2.2.1 x.2.1 x.2.2.1) out
theorem ok (n : Nat) : (pfn n).Ok Go.Proofs.Try.prog 56 :=
  mkFn_ok (fn := Go.Proofs.Try.f56) (code := code) Go.Proofs.Try.func56 (by kernel_rfl) (by decide) (C := cfg) (Φ := pick (cal n)) (Λ := lam n) (into := into) hT (cal_ok n) (by kernel_rfl) rfl (by decide) rfl (fun _ => rfl) (loops n)
    (fun x r h => by
      have e := F_eq n x.1.1 x.1.2.1 x.1.2.2.1 x.2.1 x.2.2.1
      exact e.symm.trans h)
end impl_reach
end
/-! ### loop.example/g01158/impl.ReachWith -/
section
namespace impl_ReachWith
noncomputable def code : Code := (Go.Proofs.Try.f18.body).getD .skip
abbrev shp : Shape := [(0, .agg [.int .i64, .row (.t3) false, .row (.int .i64) false]), (1, .one (.int .i64)), (2, .one (.int .i64))]
abbrev outs : List KD := [.one (.row (.int .i64) true), .one (.bool)]
abbrev R : Type := (List (Int)) × Bool
def out : R → denL outs := fun r => (r.1, r.2, ())
def into : denL outs → R := fun y => (y.1, y.2.1)
def cfg : Cfg := ⟨ty, 23, [], fun _ => .plain, fun _ => none⟩
def cal (n : Nat) : List (Nat × PFn) := [(53, impl_isNode.pfn n), (54, impl_isSet.pfn n), (55, impl_members.pfn n), (56, impl_reach.pfn n)]
theorem cal_ok (n : Nat) : ∀ g, (pick (cal n) g).Ok Go.Proofs.Try.prog g := pick_ok (by
  intro p hp
  simp only [cal, List.mem_cons, List.not_mem_nil, or_false] at hp
  rcases hp with rfl | rfl | rfl | rfl
  · exact impl_isNode.ok n
  · exact impl_isSet.ok n
  · exact impl_members.ok n
  · exact impl_reach.ok n)
def fin : St → Option R := finOf ty [.tmp 6, .tmp 7] outs into
def lam (n : Nat) : Nat → (St → Option R) → St → Option R := fun _ => fun _ _ => none
theorem loops (n : Nat) : LoopsOk cfg (pick (cal n)) (lam n) fin (loopsOf cfg.blk code) := by
  have h : loopsOf cfg.blk code = [] := by kernel_rfl
  rw [h]
  intro p hp
  cases hp
theorem F_eq (n : Nat) (x0 : Int) (x1 : List (Int × Int × Int)) (x2 : List (Int)) (x3 : Int) (x4 : Int) : impl_ReachWith.F n x0 x1 x2 x3 x4 = exK cfg (pick (cal n)) (lam n) fin code (fun _ _ => none) (mkSt shp ((x0, x1, x2, ()), x3, x4, ())) fin := by
  kernel_rfl
def pfn (n : Nat) : PFn := mkFn shp outs (fun x => impl_ReachWith.F n x.1.1 x.1.2.1 x.1.2.2.1 x.2.1 x.2.2.1) out
theorem ok (n : Nat) : (pfn n).Ok Go.Proofs.Try.prog 18 :=
  mkFn_ok (fn := Go.Proofs.Try.f18) (code := code) Go.Proofs.Try.func18 (by kernel_rfl) (by decide) (C := cfg) (Φ := pick (cal n)) (Λ := lam n) (into := into) hT (cal_ok n) (by kernel_rfl) rfl (by decide) rfl (fun _ => rfl) (loops n)
    (fun x r h => by
      have e := F_eq n x.1.1 x.1.2.1 x.1.2.2.1 x.2.1 x.2.2.1
      exact e.symm.trans h)
end impl_ReachWith
end
/-! ### loop.example/g01158/laws.eqIntS -/
section
namespace laws_eqIntS
noncomputable def code : Code := (Go.Proofs.Try.f19.body).getD .skip
abbrev shp : Shape := [(0, .one (.row (.int .i64) false)), (1, .one (.row (.int .i64) false))]
abbrev outs : List KD := [.one (.bool)]
abbrev R : Type := Bool
def out : R → denL outs := fun r => (r, ())
def into : denL outs → R := fun y => y.1
def cfg : Cfg := ⟨ty, 26, [], fun i => match Nat.beq i 0 with | true => .loop | false => .plain, fun _ => none⟩
def cal (n : Nat) : List (Nat × PFn) := []
theorem cal_ok (n : Nat) : ∀ g, (pick (cal n) g).Ok Go.Proofs.Try.prog g := pick_ok (by
  intro p hp
  cases hp)
def fin : St → Option R := finOf ty [.tmp 4] outs into
abbrev sin0 : Shape := [(0, .one (.row (.int .i64) false)), (1, .one (.row (.int .i64) false)), (5, .one (.int .i64))]
abbrev sout0 : Shape := []
def lam (n : Nat) : Nat → (St → Option R) → St → Option R := fun i => match Nat.beq i 0 with | true => (fun K st => match absSt sin0 st with | some (x, _) => laws_eqIntS.l0 n (fun _ => K (mkSt sout0 ())) n x.1 x.2.1 x.2.2.1 | none => none) | false => fun _ _ => none
noncomputable def lps : List (Nat × Code) := loopsOf cfg.blk code
noncomputable def b0 : Code := bodyOf lps 0
theorem l0_eq (n : Nat) (K : St → Option R) : ∀ (j : Nat) (x0 : List (Int)) (x1 : List (Int)) (x2 : Int), laws_eqIntS.l0 n (fun _ => K (mkSt sout0 ())) j x0 x1 x2 = iter (roundK cfg (pick (cal n)) (lam n) fin 0 b0 sin0 sout0 K) j (mkSt sin0 (x0, x1, x2, ()))
  | 0, _, _, _ => rfl
  | j + 1, x0, x1, x2 => by
    have ih : laws_eqIntS.l0 n (fun _ => K (mkSt sout0 ())) j = fun x0 x1 x2 => iter (roundK cfg (pick (cal n)) (lam n) fin 0 b0 sin0 sout0 K) j (mkSt sin0 (x0, x1, x2, ())) := funext fun x0 => funext fun x1 => funext fun x2 => l0_eq n K j x0 x1 x2
    rw [laws_eqIntS.l0, ih]
    show _ = roundK cfg (pick (cal n)) (lam n) fin 0 b0 sin0 sout0 K (iter (roundK cfg (pick (cal n)) (lam n) fin 0 b0 sin0 sout0 K) j) (mkSt sin0 (x0, x1, x2, ()))
    kernel_rfl
theorem loops (n : Nat) : LoopsOk cfg (pick (cal n)) (lam n) fin (loopsOf cfg.blk code) := by
  have h : loopsOf cfg.blk code = [(0, b0)] := by kernel_rfl
  rw [h]
  intro p hp K st r hr
  simp only [List.mem_cons, List.not_mem_nil, or_false] at hp
  rcases hp with rfl
  · have hr' : (match absSt sin0 st with | some (x, _) => laws_eqIntS.l0 n (fun _ => K (mkSt sout0 ())) n x.1 x.2.1 x.2.2.1 | none => none) = some r := hr
    split at hr'
    · rename_i x es hx
      rw [l0_eq] at hr'
      exact ⟨sin0, sout0, n, x, es, hx, hr'⟩
    · cases hr'
theorem F_eq (n : Nat) (x0 : List (Int)) (x1 : List (Int)) : laws_eqIntS.F n x0 x1 = exK cfg (pick (cal n)) (lam n) fin code (fun _ _ => none) (mkSt shp (x0, x1, ())) fin := by
  kernel_rfl
def pfn (n : Nat) : PFn := mkFn shp outs (fun x => laws_eqIntS.F n x.1 x.2.1) out
theorem ok (n : Nat) : (pfn n).Ok Go.Proofs.Try.prog 19 :=
  mkFn_ok (fn := Go.Proofs.Try.f19) (code := code) Go.Proofs.Try.func19 (by kernel_rfl) (by decide) (C := cfg) (Φ := pick (cal n)) (Λ := lam n) (into := into) hT (cal_ok n) (by kernel_rfl) rfl (by decide) rfl (fun _ => rfl) (loops n)
    (fun x r h => by
      have e := F_eq n x.1 x.2.1
      exact e.symm.trans h)
end laws_eqIntS
end
/-! ### loop.example/g01158/laws.eqIntA3 -/
section
namespace laws_eqIntA3
noncomputable def code : Code := (Go.Proofs.Try.f95.body).getD .skip
abbrev shp : Shape := [(0, .agg [.int .i64, .int .i64, .int .i64]), (1, .agg [.int .i64, .int .i64, .int .i64])]
abbrev outs : List KD := [.one (.bool)]
abbrev R : Type := Bool
def out : R → denL outs := fun r => (r, ())
def into : denL outs → R := fun y => y.1
def cfg : Cfg := ⟨ty, 17, [], fun i => match Nat.beq i 0 with | true => .unroll 4 | false => .plain, fun _ => none⟩
def cal (n : Nat) : List (Nat × PFn) := []
theorem cal_ok (n : Nat) : ∀ g, (pick (cal n) g).Ok Go.Proofs.Try.prog g := pick_ok (by
  intro p hp
  cases hp)
def fin : St → Option R := finOf ty [.tmp 4] outs into
def lam (n : Nat) : Nat → (St → Option R) → St → Option R := fun _ => fun _ _ => none
theorem loops (n : Nat) : LoopsOk cfg (pick (cal n)) (lam n) fin (loopsOf cfg.blk code) := by
  have h : loopsOf cfg.blk code = [] := by kernel_rfl
  rw [h]
  intro p hp
  cases hp
theorem F_eq (n : Nat) (x0 : Int) (x1 : Int) (x2 : Int) (x3 : Int) (x4 : Int) (x5 : Int) : laws_eqIntA3.F n x0 x1 x2 x3 x4 x5 = exK cfg (pick (cal n)) (lam n) fin code (fun _ _ => none) (mkSt shp ((x0, x1, x2, ()), (x3, x4, x5, ()), ())) fin := by
  kernel_rfl
def pfn (n : Nat) : PFn := mkFn shp outs (fun x => laws_eqIntA3.F n x.1.1 x.1.2.1 x.1.2.2.1 x.2.1.1 x.2.1.2.1 x.2.1.2.2.1) out
theorem ok (n : Nat) : (pfn n).Ok Go.Proofs.Try.prog 95 :=
  mkFn_ok (fn := Go.Proofs.Try.f95) (code := code) Go.Proofs.Try.func95 (by kernel_rfl) (by decide) (C := cfg) (Φ := pick (cal n)) (Λ := lam n) (into := into) hT (cal_ok n) (by kernel_rfl) rfl (by decide) rfl (fun _ => rfl) (loops n)
    (fun x r h => by
      have e := F_eq n x.1.1 x.1.2.1 x.1.2.2.1 x.2.1.1 x.2.1.2.1 x.2.1.2.2.1
      exact e.symm.trans h)
end laws_eqIntA3
end
/-! ### loop.example/g01158/laws.eqIntA3S -/
section
namespace laws_eqIntA3S
noncomputable def code : Code := (Go.Proofs.Try.f57.body).getD .skip
abbrev shp : Shape := [(0, .one (.row (.t3) false)), (1, .one (.row (.t3) false))]
abbrev outs : List KD := [.one (.bool)]
abbrev R : Type := Bool
def out : R → denL outs := fun r => (r, ())
def into : denL outs → R := fun y => y.1
def cfg : Cfg := ⟨ty, 27, [], fun i => match Nat.beq i 0 with | true => .loop | false => .plain, fun _ => none⟩
def cal (n : Nat) : List (Nat × PFn) := [(95, laws_eqIntA3.pfn n)]
theorem cal_ok (n : Nat) : ∀ g, (pick (cal n) g).Ok Go.Proofs.Try.prog g := pick_ok (by
  intro p hp
  simp only [cal, List.mem_cons, List.not_mem_nil, or_false] at hp
  rcases hp with rfl
  · exact laws_eqIntA3.ok n)
def fin : St → Option R := finOf ty [.tmp 4] outs into
abbrev sin0 : Shape := [(0, .one (.row (.t3) false)), (1, .one (.row (.t3) false)), (5, .one (.int .i64))]
abbrev sout0 : Shape := []
def lam (n : Nat) : Nat → (St → Option R) → St → Option R := fun i => match Nat.beq i 0 with | true => (fun K st => match absSt sin0 st with | some (x, _) => laws_eqIntA3S.l0 n (fun _ => K (mkSt sout0 ())) n x.1 x.2.1 x.2.2.1 | none => none) | false => fun _ _ => none
noncomputable def lps : List (Nat × Code) := loopsOf cfg.blk code
noncomputable def b0 : Code := bodyOf lps 0
theorem l0_eq (n : Nat) (K : St → Option R) : ∀ (j : Nat) (x0 : List (Int × Int × Int)) (x1 : List (Int × Int × Int)) (x2 : Int), laws_eqIntA3S.l0 n (fun _ => K (mkSt sout0 ())) j x0 x1 x2 = iter (roundK cfg (pick (cal n)) (lam n) fin 0 b0 sin0 sout0 K) j (mkSt sin0 (x0, x1, x2, ()))
  | 0, _, _, _ => rfl
  | j + 1, x0, x1, x2 => by
    have ih : laws_eqIntA3S.l0 n (fun _ => K (mkSt sout0 ())) j = fun x0 x1 x2 => iter (roundK cfg (pick (cal n)) (lam n) fin 0 b0 sin0 sout0 K) j (mkSt sin0 (x0, x1, x2, ())) := funext fun x0 => funext fun x1 => funext fun x2 => l0_eq n K j x0 x1 x2
    rw [laws_eqIntA3S.l0, ih]
    show _ = roundK cfg (pick (cal n)) (lam n) fin 0 b0 sin0 sout0 K (iter (roundK cfg (pick (cal n)) (lam n) fin 0 b0 sin0 sout0 K) j) (mkSt sin0 (x0, x1, x2, ()))
    kernel_rfl
theorem loops (n : Nat) : LoopsOk cfg (pick (cal n)) (lam n) fin (loopsOf cfg.blk code) := by
  have h : loopsOf cfg.blk code = [(0, b0)] := by kernel_rfl
  rw [h]
  intro p hp K st r hr
  simp only [List.mem_cons, List.not_mem_nil, or_false] at hp
  rcases hp with rfl
  · have hr' : (match absSt sin0 st with | some (x, _) => laws_eqIntA3S.l0 n (fun _ => K (mkSt sout0 ())) n x.1 x.2.1 x.2.2.1 | none => none) = some r := hr
    split at hr'
    · rename_i x es hx
      rw [l0_eq] at hr'
      exact ⟨sin0, sout0, n, x, es, hx, hr'⟩
    · cases hr'
theorem F_eq (n : Nat) (x0 : List (Int × Int × Int)) (x1 : List (Int × Int × Int)) : laws_eqIntA3S.F n x0 x1 = exK cfg (pick (cal n)) (lam n) fin code (fun _ _ => none) (mkSt shp (x0, x1, ())) fin := by
  kernel_rfl
def pfn (n : Nat) : PFn := mkFn shp outs (fun x => laws_eqIntA3S.F n x.1 x.2.1) out
theorem ok (n : Nat) : (pfn n).Ok Go.Proofs.Try.prog 57 :=
  mkFn_ok (fn := Go.Proofs.Try.f57) (code := code) Go.Proofs.Try.func57 (by kernel_rfl) (by decide) (C := cfg) (Φ := pick (cal n)) (Λ := lam n) (into := into) hT (cal_ok n) (by kernel_rfl) rfl (by decide) rfl (fun _ => rfl) (loops n)
    (fun x r h => by
      have e := F_eq n x.1 x.2.1
      exact e.symm.trans h)
end laws_eqIntA3S
end
/-! ### loop.example/g01158/laws.eqMaze -/
section
namespace laws_eqMaze
noncomputable def code : Code := (Go.Proofs.Try.f20.body).getD .skip
abbrev shp : Shape := [(0, .agg [.int .i64, .row (.t3) false, .row (.int .i64) false]), (1, .agg [.int .i64, .row (.t3) false, .row (.int .i64) false])]
abbrev outs : List KD := [.one (.bool)]
abbrev R : Type := Bool
def out : R → denL outs := fun r => (r, ())
def into : denL outs → R := fun y => y.1
def cfg : Cfg := ⟨ty, 22, [], fun _ => .plain, fun _ => none⟩
def cal (n : Nat) : List (Nat × PFn) := [(19, laws_eqIntS.pfn n), (57, laws_eqIntA3S.pfn n)]
theorem cal_ok (n : Nat) : ∀ g, (pick (cal n) g).Ok Go.Proofs.Try.prog g := pick_ok (by
  intro p hp
  simp only [cal, List.mem_cons, List.not_mem_nil, or_false] at hp
  rcases hp with rfl | rfl
  · exact laws_eqIntS.ok n
  · exact laws_eqIntA3S.ok n)
def fin : St → Option R := finOf ty [.tmp 4] outs into
def lam (n : Nat) : Nat → (St → Option R) → St → Option R := fun _ => fun _ _ => none
theorem loops (n : Nat) : LoopsOk cfg (pick (cal n)) (lam n) fin (loopsOf cfg.blk code) := by
  have h : loopsOf cfg.blk code = [] := by kernel_rfl
  rw [h]
  intro p hp
  cases hp
theorem F_eq (n : Nat) (x0 : Int) (x1 : List (Int × Int × Int)) (x2 : List (Int)) (x3 : Int) (x4 : List (Int × Int × Int)) (x5 : List (Int)) : laws_eqMaze.F n x0 x1 x2 x3 x4 x5 = exK cfg (pick (cal n)) (lam n) fin code (fun _ _ => none) (mkSt shp ((x0, x1, x2, ()), (x3, x4, x5, ()), ())) fin := by
  kernel_rfl
def pfn (n : Nat) : PFn := mkFn shp outs (fun x => laws_eqMaze.F n x.1.1 x.1.2.1 x.1.2.2.1 x.2.1.1 x.2.1.2.1 x.2.1.2.2.1) out
theorem ok (n : Nat) : (pfn n).Ok Go.Proofs.Try.prog 20 :=
  mkFn_ok (fn := Go.Proofs.Try.f20) (code := code) Go.Proofs.Try.func20 (by kernel_rfl) (by decide) (C := cfg) (Φ := pick (cal n)) (Λ := lam n) (into := into) hT (cal_ok n) (by kernel_rfl) rfl (by decide) rfl (fun _ => rfl) (loops n)
    (fun x r h => by
      have e := F_eq n x.1.1 x.1.2.1 x.1.2.2.1 x.2.1.1 x.2.1.2.1 x.2.1.2.2.1
      exact e.symm.trans h)
end laws_eqMaze
end
/-! ### loop.example/g01158/laws.markIntA3S -/
section
namespace laws_markIntA3S
noncomputable def code : Code := (Go.Proofs.Try.f58.body).getD .skip
abbrev shp : Shape := [(0, .one (.row (.t3) true)), (1, .one (.int .i64))]
abbrev outs : List KD := [.one (.int .i64)]
abbrev R : Type := Int × (List (Int × Int × Int))
abbrev k0 : KD := .one (.row (.t3) true)
abbrev rshp : Shape := [(1, .one (.int .i64))]
def out : R → denL outs := fun r => (r.1, ())
def up : R → k0.den := fun r => r.2
def into : denL outs → k0.den → R := fun y z => (y.1, z)
def cfg : Cfg := ⟨ty, 26, [0], fun i => match Nat.beq i 0 with | true => .loop | false => match Nat.beq i 2 with | true => .unroll 4 | false => .plain, fun _ => none⟩
def cal (n : Nat) : List (Nat × PFn) := []
theorem cal_ok (n : Nat) : ∀ g, (pick (cal n) g).Ok Go.Proofs.Try.prog g := pick_ok (by
  intro p hp
  cases hp)
def fin : St → Option R := finMut ty [.tmp 4] outs k0 into
abbrev sin0 : Shape := [(0, .one (.row (.t3) true)), (1, .one (.int .i64)), (5, .one (.int .i64))]
abbrev sout0 : Shape := [(0, .one (.row (.t3) true)), (1, .one (.int .i64))]
def lam (n : Nat) : Nat → (St → Option R) → St → Option R := fun i => match Nat.beq i 0 with | true => (fun K st => match absSt sin0 st with | some (x, _) => laws_markIntA3S.l0 n (fun y0 y1 => K (mkSt sout0 (y0, y1, ()))) n x.1 x.2.1 x.2.2.1 | none => none) | false => fun _ _ => none
noncomputable def lps : List (Nat × Code) := loopsOf cfg.blk code
noncomputable def b0 : Code := bodyOf lps 0
theorem l0_eq (n : Nat) (K : St → Option R) : ∀ (j : Nat) (x0 : List (Int × Int × Int)) (x1 : Int) (x2 : Int), laws_markIntA3S.l0 n (fun y0 y1 => K (mkSt sout0 (y0, y1, ()))) j x0 x1 x2 = iter (roundK cfg (pick (cal n)) (lam n) fin 0 b0 sin0 sout0 K) j (mkSt sin0 (x0, x1, x2, ()))
  | 0, _, _, _ => rfl
  | j + 1, x0, x1, x2 => by
    have ih : laws_markIntA3S.l0 n (fun y0 y1 => K (mkSt sout0 (y0, y1, ()))) j = fun x0 x1 x2 => iter (roundK cfg (pick (cal n)) (lam n) fin 0 b0 sin0 sout0 K) j (mkSt sin0 (x0, x1, x2, ())) := funext fun x0 => funext fun x1 => funext fun x2 => l0_eq n K j x0 x1 x2
    rw [laws_markIntA3S.l0, ih]
    show _ = roundK cfg (pick (cal n)) (lam n) fin 0 b0 sin0 sout0 K (iter (roundK cfg (pick (cal n)) (lam n) fin 0 b0 sin0 sout0 K) j) (mkSt sin0 (x0, x1, x2, ()))
    kernel_rfl
theorem loops (n : Nat) : LoopsOk cfg (pick (cal n)) (lam n) fin (loopsOf cfg.blk code) := by
  have h : loopsOf cfg.blk code = [(0, b0)] := by kernel_rfl
  rw [h]
  intro p hp K st r hr
  simp only [List.mem_cons, List.not_mem_nil, or_false] at hp
  rcases hp with rfl
  · have hr' : (match absSt sin0 st with | some (x, _) => laws_markIntA3S.l0 n (fun y0 y1 => K (mkSt sout0 (y0, y1, ()))) n x.1 x.2.1 x.2.2.1 | none => none) = some r := hr
    split at hr'
    · rename_i x es hx
      rw [l0_eq] at hr'
      exact ⟨sin0, sout0, n, x, es, hx, hr'⟩
    · cases hr'
theorem F_eq (n : Nat) (x0 : List (Int × Int × Int)) (x1 : Int) : laws_markIntA3S.F n x0 x1 = exK cfg (pick (cal n)) (lam n) fin code (fun _ _ => none) (mkSt shp (x0, x1, ())) fin := by
  kernel_rfl
def pfn (n : Nat) : PFn := mkMut k0 rshp.ks outs (fun x xs => laws_markIntA3S.F n x xs.1) out up
theorem ok (n : Nat) : (pfn n).Ok Go.Proofs.Try.prog 58 :=
  mkMut_ok (rshp := rshp) (fn := Go.Proofs.Try.f58) (code := code) Go.Proofs.Try.func58 (by kernel_rfl) (by decide) (C := cfg) (Φ := pick (cal n)) (Λ := lam n) (into := into) hT (cal_ok n) (by kernel_rfl) rfl (by decide) rfl rfl (by decide) (int1_loc .i64) (int1_ext .i64) (fun _ _ => rfl) (fun _ _ => rfl) (loops n)
    (fun x xs r h => by
      have e := F_eq n x xs.1
      exact e.symm.trans h)
end laws_markIntA3S
end
/-! ### loop.example/g01158/laws.markIntS -/
section
namespace laws_markIntS
noncomputable def code : Code := (Go.Proofs.Try.f22.body).getD .skip
abbrev shp : Shape := [(0, .one (.row (.int .i64) true)), (1, .one (.int .i64))]
abbrev outs : List KD := [.one (.int .i64)]
abbrev R : Type := Int × (List (Int))
abbrev k0 : KD := .one (.row (.int .i64) true)
abbrev rshp : Shape := [(1, .one (.int .i64))]
def out : R → denL outs := fun r => (r.1, ())
def up : R → k0.den := fun r => r.2
def into : denL outs → k0.den → R := fun y z => (y.1, z)
def cfg : Cfg := ⟨ty, 19, [0], fun i => match Nat.beq i 0 with | true => .loop | false => .plain, fun _ => none⟩
def cal (n : Nat) : List (Nat × PFn) := []
theorem cal_ok (n : Nat) : ∀ g, (pick (cal n) g).Ok Go.Proofs.Try.prog g := pick_ok (by
  intro p hp
  cases hp)
def fin : St → Option R := finMut ty [.tmp 4] outs k0 into
abbrev sin0 : Shape := [(0, .one (.row (.int .i64) true)), (1, .one (.int .i64)), (5, .one (.int .i64))]
abbrev sout0 : Shape := [(0, .one (.row (.int .i64) true)), (1, .one (.int .i64))]
def lam (n : Nat) : Nat → (St → Option R) → St → Option R := fun i => match Nat.beq i 0 with | true => (fun K st => match absSt sin0 st with | some (x, _) => laws_markIntS.l0 n (fun y0 y1 => K (mkSt sout0 (y0, y1, ()))) n x.1 x.2.1 x.2.2.1 | none => none) | false => fun _ _ => none
noncomputable def lps : List (Nat × Code) := loopsOf cfg.blk code
noncomputable def b0 : Code := bodyOf lps 0
theorem l0_eq (n : Nat) (K : St → Option R) : ∀ (j : Nat) (x0 : List (Int)) (x1 : Int) (x2 : Int), laws_markIntS.l0 n (fun y0 y1 => K (mkSt sout0 (y0, y1, ()))) j x0 x1 x2 = iter (roundK cfg (pick (cal n)) (lam n) fin 0 b0 sin0 sout0 K) j (mkSt sin0 (x0, x1, x2, ()))
  | 0, _, _, _ => rfl
  | j + 1, x0, x1, x2 => by
    have ih : laws_markIntS.l0 n (fun y0 y1 => K (mkSt sout0 (y0, y1, ()))) j = fun x0 x1 x2 => iter (roundK cfg (pick (cal n)) (lam n) fin 0 b0 sin0 sout0 K) j (mkSt sin0 (x0, x1, x2, ())) := funext fun x0 => funext fun x1 => funext fun x2 => l0_eq n K j x0 x1 x2
    rw [laws_markIntS.l0, ih]
    show _ = roundK cfg (pick (cal n)) (lam n) fin 0 b0 sin0 sout0 K (iter (roundK cfg (pick (cal n)) (lam n) fin 0 b0 sin0 sout0 K) j) (mkSt sin0 (x0, x1, x2, ()))
    kernel_rfl
theorem loops (n : Nat) : LoopsOk cfg (pick (cal n)) (lam n) fin (loopsOf cfg.blk code) := by
  have h : loopsOf cfg.blk code = [(0, b0)] := by kernel_rfl
  rw [h]
  intro p hp K st r hr
  simp only [List.mem_cons, List.not_mem_nil, or_false] at hp
  rcases hp with rfl
  · have hr' : (match absSt sin0 st with | some (x, _) => laws_markIntS.l0 n (fun y0 y1 => K (mkSt sout0 (y0, y1, ()))) n x.1 x.2.1 x.2.2.1 | none => none) = some r := hr
    split at hr'
    · rename_i x es hx
      rw [l0_eq] at hr'
      exact ⟨sin0, sout0, n, x, es, hx, hr'⟩
    · cases hr'
theorem F_eq (n : Nat) (x0 : List (Int)) (x1 : Int) : laws_markIntS.F n x0 x1 = exK cfg (pick (cal n)) (lam n) fin code (fun _ _ => none) (mkSt shp (x0, x1, ())) fin := by
  kernel_rfl
def pfn (n : Nat) : PFn := mkMut k0 rshp.ks outs (fun x xs => laws_markIntS.F n x xs.1) out up
theorem ok (n : Nat) : (pfn n).Ok Go.Proofs.Try.prog 22 :=
  mkMut_ok (rshp := rshp) (fn := Go.Proofs.Try.f22) (code := code) Go.Proofs.Try.func22 (by kernel_rfl) (by decide) (C := cfg) (Φ := pick (cal n)) (Λ := lam n) (into := into) hT (cal_ok n) (by kernel_rfl) rfl (by decide) rfl rfl (by decide) (int1_loc .i64) (int1_ext .i64) (fun _ _ => rfl) (fun _ _ => rfl) (loops n)
    (fun x xs r h => by
      have e := F_eq n x xs.1
      exact e.symm.trans h)
end laws_markIntS
end
/-! ### loop.example/g01158/laws.markMaze -/
section
namespace laws_markMaze
noncomputable def code : Code := (Go.Proofs.Try.f21.body).getD .skip
abbrev shp : Shape := [(0, .agg [.int .i64, .row (.t3) true, .row (.int .i64) true]), (1, .one (.int .i64))]
abbrev outs : List KD := [.one (.int .i64)]
abbrev R : Type := Int × Int × (List (Int × Int × Int)) × (List (Int))
abbrev k0 : KD := .agg [.int .i64, .row (.t3) true, .row (.int .i64) true]
abbrev rshp : Shape := [(1, .one (.int .i64))]
def out : R → denL outs := fun r => (r.1, ())
def up : R → k0.den := fun r => (r.2.1, r.2.2.1, r.2.2.2, ())
def into : denL outs → k0.den → R := fun y z => (y.1, z.1, z.2.1, z.2.2.1)
def cfg : Cfg := ⟨ty, 14, [0], fun _ => .plain, fun _ => none⟩
def cal (n : Nat) : List (Nat × PFn) := [(22, laws_markIntS.pfn n), (58, laws_markIntA3S.pfn n)]
theorem cal_ok (n : Nat) : ∀ g, (pick (cal n) g).Ok Go.Proofs.Try.prog g := pick_ok (by
  intro p hp
  simp only [cal, List.mem_cons, List.not_mem_nil, or_false] at hp
  rcases hp with rfl | rfl
  · exact laws_markIntS.ok n
  · exact laws_markIntA3S.ok n)
def fin : St → Option R := finMut ty [.tmp 4] outs k0 into
def lam (n : Nat) : Nat → (St → Option R) → St → Option R := fun _ => fun _ _ => none
theorem loops (n : Nat) : LoopsOk cfg (pick (cal n)) (lam n) fin (loopsOf cfg.blk code) := by
  have h : loopsOf cfg.blk code = [] := by kernel_rfl
  rw [h]
  intro p hp
  cases hp
theorem F_eq (n : Nat) (x0 : Int) (x1 : List (Int × Int × Int)) (x2 : List (Int)) (x3 : Int) : laws_markMaze.F n x0 x1 x2 x3 = exK cfg (pick (cal n)) (lam n) fin code (fun _ _ => none) (mkSt shp ((x0, x1, x2, ()), x3, ())) fin := by
  kernel_rfl
def pfn (n : Nat) : PFn := mkMut k0 rshp.ks outs (fun x xs => laws_markMaze.F n x.1 x.2.1 x.2.2.1 xs.1) out up
theorem ok (n : Nat) : (pfn n).Ok Go.Proofs.Try.prog 21 :=
  mkMut_ok (rshp := rshp) (fn := Go.Proofs.Try.f21) (code := code) Go.Proofs.Try.func21 (by kernel_rfl) (by decide) (C := cfg) (Φ := pick (cal n)) (Λ := lam n) (into := into) hT (cal_ok n) (by kernel_rfl) rfl (by decide) rfl rfl (by decide) (int1_loc .i64) (int1_ext .i64) (fun _ _ => rfl) (fun _ _ => rfl) (loops n)
    (fun x xs r h => by
      have e := F_eq n x.1 x.2.1 x.2.2.1 xs.1
      exact e.symm.trans h)
end laws_markMaze
end
/-! ### loop.example/g01158/laws.heldIntS -/
section
namespace laws_heldIntS
noncomputable def code : Code := (Go.Proofs.Try.f23.body).getD .skip
abbrev shp : Shape := [(0, .one (.row (.int .i64) false)), (1, .one (.int .i64))]
abbrev outs : List KD := [.one (.int .i64)]
abbrev R : Type := Int
def out : R → denL outs := fun r => (r, ())
def into : denL outs → R := fun y => y.1
def cfg : Cfg := ⟨ty, 21, [], fun i => match Nat.beq i 0 with | true => .loop | false => .plain, fun _ => none⟩
def cal (n : Nat) : List (Nat × PFn) := []
theorem cal_ok (n : Nat) : ∀ g, (pick (cal n) g).Ok Go.Proofs.Try.prog g := pick_ok (by
  intro p hp
  cases hp)
def fin : St → Option R := finOf ty [.tmp 4] outs into
abbrev sin0 : Shape := [(0, .one (.row (.int .i64) false)), (1, .one (.int .i64)), (5, .one (.int .i64))]
abbrev sout0 : Shape := [(1, .one (.int .i64))]
def lam (n : Nat) : Nat → (St → Option R) → St → Option R := fun i => match Nat.beq i 0 with | true => (fun K st => match absSt sin0 st with | some (x, _) => laws_heldIntS.l0 n (fun y0 => K (mkSt sout0 (y0, ()))) n x.1 x.2.1 x.2.2.1 | none => none) | false => fun _ _ => none
noncomputable def lps : List (Nat × Code) := loopsOf cfg.blk code
noncomputable def b0 : Code := bodyOf lps 0
theorem l0_eq (n : Nat) (K : St → Option R) : ∀ (j : Nat) (x0 : List (Int)) (x1 : Int) (x2 : Int), laws_heldIntS.l0 n (fun y0 => K (mkSt sout0 (y0, ()))) j x0 x1 x2 = iter (roundK cfg (pick (cal n)) (lam n) fin 0 b0 sin0 sout0 K) j (mkSt sin0 (x0, x1, x2, ()))
  | 0, _, _, _ => rfl
  | j + 1, x0, x1, x2 => by
    have ih : laws_heldIntS.l0 n (fun y0 => K (mkSt sout0 (y0, ()))) j = fun x0 x1 x2 => iter (roundK cfg (pick (cal n)) (lam n) fin 0 b0 sin0 sout0 K) j (mkSt sin0 (x0, x1, x2, ())) := funext fun x0 => funext fun x1 => funext fun x2 => l0_eq n K j x0 x1 x2
    rw [laws_heldIntS.l0, ih]
    show _ = roundK cfg (pick (cal n)) (lam n) fin 0 b0 sin0 sout0 K (iter (roundK cfg (pick (cal n)) (lam n) fin 0 b0 sin0 sout0 K) j) (mkSt sin0 (x0, x1, x2, ()))
    kernel_rfl
theorem loops (n : Nat) : LoopsOk cfg (pick (cal n)) (lam n) fin (loopsOf cfg.blk code) := by
  have h : loopsOf cfg.blk code = [(0, b0)] := by kernel_rfl
  rw [h]
  intro p hp K st r hr
  simp only [List.mem_cons, List.not_mem_nil, or_false] at hp
  rcases hp with rfl
  · have hr' : (match absSt sin0 st with | some (x, _) => laws_heldIntS.l0 n (fun y0 => K (mkSt sout0 (y0, ()))) n x.1 x.2.1 x.2.2.1 | none => none) = some r := hr
    split at hr'
    · rename_i x es hx
      rw [l0_eq] at hr'
      exact ⟨sin0, sout0, n, x, es, hx, hr'⟩
    · cases hr'
theorem F_eq (n : Nat) (x0 : List (Int)) (x1 : Int) : laws_heldIntS.F n x0 x1 = exK cfg (pick (cal n)) (lam n) fin code (fun _ _ => none) (mkSt shp (x0, x1, ())) fin := by
  kernel_rfl
def pfn (n : Nat) : PFn := mkFn shp outs (fun x => laws_heldIntS.F n x.1 x.2.1) out
theorem ok (n : Nat) : (pfn n).Ok Go.Proofs.Try.prog 23 :=
  mkFn_ok (fn := Go.Proofs.Try.f23) (code := code) Go.Proofs.Try.func23 (by kernel_rfl) (by decide) (C := cfg) (Φ := pick (cal n)) (Λ := lam n) (into := into) hT (cal_ok n) (by kernel_rfl) rfl (by decide) rfl (fun _ => rfl) (loops n)
    (fun x r h => by
      have e := F_eq n x.1 x.2.1
      exact e.symm.trans h)
end laws_heldIntS
end
/-! ### loop.example/g01158/laws.FnExactReachWith -/
section
namespace laws_FnExactReachWith
noncomputable def code : Code := (Go.Proofs.Try.f3.body).getD .skip
abbrev shp : Shape := [(0, .agg [.int .i64, .row (.t3) false, .row (.int .i64) false]), (1, .one (.int .i64)), (2, .one (.int .i64))]
abbrev outs : List KD := [.one (.bool)]
abbrev R : Type := Bool
def out : R → denL outs := fun r => (r, ())
def into : denL outs → R := fun y => y.1
def cfg : Cfg := ⟨ty, 106, [], fun _ => .plain, fun i => match Nat.beq i 10 with | true => some [(1, .one (.int .i64)), (2, .one (.int .i64)), (3, .box true [.int .i64, .row (.t3) false, .row (.int .i64) false]), (8, .one (.row (.int .i64) true)), (9, .one (.bool)), (10, .box true [.int .i64, .row (.t3) true, .row (.int .i64) true]), (11, .one (.row (.int .i64) true)), (12, .one (.bool))] | false => match Nat.beq i 16 with | true => some [(1, .one (.int .i64)), (2, .one (.int .i64)), (3, .box true [.int .i64, .row (.t3) false, .row (.int .i64) false]), (8, .one (.row (.int .i64) true)), (9, .one (.bool)), (11, .one (.row (.int .i64) true))] | false => none⟩
def cal (n : Nat) : List (Nat × PFn) := [(15, laws_szMaze.pfn n), (16, spec_ReachWith.pfn n), (17, laws_toMaze.pfn n), (18, impl_ReachWith.pfn n), (19, laws_eqIntS.pfn n), (20, laws_eqMaze.pfn n), (21, laws_markMaze.pfn n), (22, laws_markIntS.pfn n), (23, laws_heldIntS.pfn n)]
theorem cal_ok (n : Nat) : ∀ g, (pick (cal n) g).Ok Go.Proofs.Try.prog g := pick_ok (by
  intro p hp
  simp only [cal, List.mem_cons, List.not_mem_nil, or_false] at hp
  rcases hp with rfl | rfl | rfl | rfl | rfl | rfl | rfl | rfl | rfl
  · exact laws_szMaze.ok n
  · exact spec_ReachWith.ok n
  · exact laws_toMaze.ok n
  · exact impl_ReachWith.ok n
  · exact laws_eqIntS.ok n
  · exact laws_eqMaze.ok n
  · exact laws_markMaze.ok n
  · exact laws_markIntS.ok n
  · exact laws_heldIntS.ok n)
def fin : St → Option R := finOf ty [.tmp 6] outs into
def lam (n : Nat) : Nat → (St → Option R) → St → Option R := fun _ => fun _ _ => none
theorem loops (n : Nat) : LoopsOk cfg (pick (cal n)) (lam n) fin (loopsOf cfg.blk code) := by
  have h : loopsOf cfg.blk code = [] := by kernel_rfl
  rw [h]
  intro p hp
  cases hp
theorem F_eq (n : Nat) (x0 : Int) (x1 : List (Int × Int × Int)) (x2 : List (Int)) (x3 : Int) (x4 : Int) : laws_FnExactReachWith.F n x0 x1 x2 x3 x4 = exK cfg (pick (cal n)) (lam n) fin code (fun _ _ => none) (mkSt shp ((x0, x1, x2, ()), x3, x4, ())) fin := by
  kernel_rfl
def pfn (n : Nat) : PFn := mkFn shp outs (fun x => laws_FnExactReachWith.F n x.1.1 x.1.2.1 x.1.2.2.1 x.2.1 x.2.2.1) out
theorem ok (n : Nat) : (pfn n).Ok Go.Proofs.Try.prog 3 :=
  mkFn_ok (fn := Go.Proofs.Try.f3) (code := code) Go.Proofs.Try.func3 (by kernel_rfl) (by decide) (C := cfg) (Φ := pick (cal n)) (Λ := lam n) (into := into) hT (cal_ok n) (by kernel_rfl) rfl (by decide) rfl (fun _ => rfl) (loops n)
    (fun x r h => by
      have e := F_eq n x.1.1 x.1.2.1 x.1.2.2.1 x.2.1 x.2.2.1
      exact e.symm.trans h)
end laws_FnExactReachWith
end
/-! ### loop.example/g01158/spec.l3Ask -/
section
namespace spec_l3Ask
noncomputable def code : Code := (Go.Proofs.Try.f59.body).getD .skip
abbrev shp : Shape := [(0, .agg [.int .i64, .row (.t3) false, .row (.int .i64) false]), (1, .one (.int .i64))]
abbrev outs : List KD := [.one (.bool)]
abbrev R : Type := Bool
def out : R → denL outs := fun r => (r, ())
def into : denL outs → R := fun y => y.1
def cfg : Cfg := ⟨ty, 11, [], fun _ => .plain, fun _ => none⟩
def cal (n : Nat) : List (Nat × PFn) := [(50, spec_l2Set.pfn n), (69, spec_l2Maze.pfn n)]
theorem cal_ok (n : Nat) : ∀ g, (pick (cal n) g).Ok Go.Proofs.Try.prog g := pick_ok (by
  intro p hp
  simp only [cal, List.mem_cons, List.not_mem_nil, or_false] at hp
  rcases hp with rfl | rfl
  · exact spec_l2Set.ok n
  · exact spec_l2Maze.ok n)
def fin : St → Option R := finOf ty [.tmp 4] outs into
def lam (n : Nat) : Nat → (St → Option R) → St → Option R := fun _ => fun _ _ => none
theorem loops (n : Nat) : LoopsOk cfg (pick (cal n)) (lam n) fin (loopsOf cfg.blk code) := by
  have h : loopsOf cfg.blk code = [] := by kernel_rfl
  rw [h]
  intro p hp
  cases hp
theorem F_eq (n : Nat) (x0 : Int) (x1 : List (Int × Int × Int)) (x2 : List (Int)) (x3 : Int) : spec_l3Ask.F n x0 x1 x2 x3 = exK cfg (pick (cal n)) (lam n) fin code (fun _ _ => none) (mkSt shp ((x0, x1, x2, ()), x3, ())) fin := by
  kernel_rfl
def pfn (n : Nat) : PFn := mkFn shp outs (fun x => spec_l3Ask.F n x.1.1 x.1.2.1 x.1.2.2.1 x.2.1) out
theorem ok (n : Nat) : (pfn n).Ok Go.Proofs.Try.prog 59 :=
  mkFn_ok (fn := Go.Proofs.Try.f59) (code := code) Go.Proofs.Try.func59 (by kernel_rfl) (by decide) (C := cfg) (Φ := pick (cal n)) (Λ := lam n) (into := into) hT (cal_ok n) (by kernel_rfl) rfl (by decide) rfl (fun _ => rfl) (loops n)
    (fun x r h => by
      have e := F_eq n x.1.1 x.1.2.1 x.1.2.2.1 x.2.1
      exact e.symm.trans h)
end spec_l3Ask
end
/-! ### loop.example/g01158/spec.l2Close -/
section
namespace spec_l2Close
noncomputable def code : Code := (Go.Proofs.Try.f67.body).getD .skip
abbrev shp : Shape := [(0, .agg [.int .i64, .row (.t3) false, .row (.int .i64) false]), (1, .one (.int .i64))]
abbrev outs : List KD := [.one (.int .i64), .one (.row (.int .i64) true)]
abbrev R : Type := Int × (List (Int))
def out : R → denL outs := fun r => (r.1, r.2, ())
def into : denL outs → R := fun y => (y.1, y.2.1)
def cfg : Cfg := ⟨ty, 35, [], fun i => match Nat.beq i 2 with | true => .loop | false => match Nat.beq i 0 with | true => .loop | false => .plain, fun _ => none⟩
def cal (n : Nat) : List (Nat × PFn) := [(51, spec_l2Reach.pfn n)]
theorem cal_ok (n : Nat) : ∀ g, (pick (cal n) g).Ok Go.Proofs.Try.prog g := pick_ok (by
  intro p hp
  simp only [cal, List.mem_cons, List.not_mem_nil, or_false] at hp
  rcases hp with rfl
  · exact spec_l2Reach.ok n)
def fin : St → Option R := finOf ty [.tmp 4, .tmp 5] outs into
abbrev sin2 : Shape := [(1, .one (.int .i64)), (2, .box true [.int .i64, .row (.t3) false, .row (.int .i64) false]), (6, .one (.row (.int .i64) true)), (7, .one (.int .i64)), (8, .one (.int .i64))]
abbrev sout2 : Shape := [(1, .one (.int .i64)), (2, .box true [.int .i64, .row (.t3) false, .row (.int .i64) false]), (6, .one (.row (.int .i64) true)), (7, .one (.int .i64))]
abbrev sin0 : Shape := [(1, .one (.int .i64)), (2, .box true [.int .i64, .row (.t3) false, .row (.int .i64) false])]
abbrev sout0 : Shape := []
def lam (n : Nat) : Nat → (St → Option R) → St → Option R := fun i => match Nat.beq i 2 with | true => (fun K st => match absSt sin2 st with | some (x, _) => spec_l2Close.l2 n (fun y0 y1 y2 y3 y4 y5 => K (mkSt sout2 (y0, (y1, y2, y3, ()), y4, y5, ()))) n x.1 x.2.1.1 x.2.1.2.1 x.2.1.2.2.1 x.2.2.1 x.2.2.2.1 x.2.2.2.2.1 | none => none) | false => match Nat.beq i 0 with | true => (fun K st => match absSt sin0 st with | some (x, _) => spec_l2Close.l0 n (fun _ => K (mkSt sout0 ())) n x.1 x.2.1.1 x.2.1.2.1 x.2.1.2.2.1 | none => none) | false => fun _ _ => none
noncomputable def lps : List (Nat × Code) := loopsOf cfg.blk code
noncomputable def b2 : Code := bodyOf lps 2
theorem l2_eq (n : Nat) (K : St → Option R) : ∀ (j : Nat) (x0 : Int) (x1 : Int) (x2 : List (Int × Int × Int)) (x3 : List (Int)) (x4 : List (Int)) (x5 : Int) (x6 : Int), spec_l2Close.l2 n (fun y0 y1 y2 y3 y4 y5 => K (mkSt sout2 (y0, (y1, y2, y3, ()), y4, y5, ()))) j x0 x1 x2 x3 x4 x5 x6 = iter (roundK cfg (pick (cal n)) (lam n) fin 2 b2 sin2 sout2 K) j (mkSt sin2 (x0, (x1, x2, x3, ()), x4, x5, x6, ()))
  | 0, _, _, _, _, _, _, _ => rfl
  | j + 1, x0, x1, x2, x3, x4, x5, x6 => by
    have ih : spec_l2Close.l2 n (fun y0 y1 y2 y3 y4 y5 => K (mkSt sout2 (y0, (y1, y2, y3, ()), y4, y5, ()))) j = fun x0 x1 x2 x3 x4 x5 x6 => iter (roundK cfg (pick (cal n)) (lam n) fin 2 b2 sin2 sout2 K) j (mkSt sin2 (x0, (x1, x2, x3, ()), x4, x5, x6, ())) := funext fun x0 => funext fun x1 => funext fun x2 => funext fun x3 => funext fun x4 => funext fun x5 => funext fun x6 => l2_eq n K j x0 x1 x2 x3 x4 x5 x6
    rw [spec_l2Close.l2, ih]
    show _ = roundK cfg (pick (cal n)) (lam n) fin 2 b2 sin2 sout2 K (iter (roundK cfg (pick (cal n)) (lam n) fin 2 b2 sin2 sout2 K) j) (mkSt sin2 (x0, (x1, x2, x3, ()), x4, x5, x6, ()))
    kernel_rfl
noncomputable def b0 : Code := bodyOf lps 0
theorem l0_eq (n : Nat) (K : St → Option R) : ∀ (j : Nat) (x0 : Int) (x1 : Int) (x2 : List (Int × Int × Int)) (x3 : List (Int)), spec_l2Close.l0 n (fun _ => K (mkSt sout0 ())) j x0 x1 x2 x3 = iter (roundK cfg (pick (cal n)) (lam n) fin 0 b0 sin0 sout0 K) j (mkSt sin0 (x0, (x1, x2, x3, ()), ()))
  | 0, _, _, _, _ => rfl
  | j + 1, x0, x1, x2, x3 => by
    have ih : spec_l2Close.l0 n (fun _ => K (mkSt sout0 ())) j = fun x0 x1 x2 x3 => iter (roundK cfg (pick (cal n)) (lam n) fin 0 b0 sin0 sout0 K) j (mkSt sin0 (x0, (x1, x2, x3, ()), ())) := funext fun x0 => funext fun x1 => funext fun x2 => funext fun x3 => l0_eq n K j x0 x1 x2 x3
    rw [spec_l2Close.l0, ih]
    show _ = roundK cfg (pick (cal n)) (lam n) fin 0 b0 sin0 sout0 K (iter (roundK cfg (pick (cal n)) (lam n) fin 0 b0 sin0 sout0 K) j) (mkSt sin0 (x0, (x1, x2, x3, ()), ()))
    kernel_rfl
theorem loops (n : Nat) : LoopsOk cfg (pick (cal n)) (lam n) fin (loopsOf cfg.blk code) := by
  have h : loopsOf cfg.blk code = [(0, b0), (2, b2)] := by kernel_rfl
  rw [h]
  intro p hp K st r hr
  simp only [List.mem_cons, List.not_mem_nil, or_false] at hp
  rcases hp with rfl | rfl
  · have hr' : (match absSt sin0 st with | some (x, _) => spec_l2Close.l0 n (fun _ => K (mkSt sout0 ())) n x.1 x.2.1.1 x.2.1.2.1 x.2.1.2.2.1 | none => none) = some r := hr
    split at hr'
    · rename_i x es hx
      rw [l0_eq] at hr'
      exact ⟨sin0, sout0, n, x, es, hx, hr'⟩
    · cases hr'
  · have hr' : (match absSt sin2 st with | some (x, _) => spec_l2Close.l2 n (fun y0 y1 y2 y3 y4 y5 => K (mkSt sout2 (y0, (y1, y2, y3, ()), y4, y5, ()))) n x.1 x.2.1.1 x.2.1.2.1 x.2.1.2.2.1 x.2.2.1 x.2.2.2.1 x.2.2.2.2.1 | none => none) = some r := hr
    split at hr'
    · rename_i x es hx
      rw [l2_eq] at hr'
      exact ⟨sin2, sout2, n, x, es, hx, hr'⟩
    · cases hr'
theorem F_eq (n : Nat) (x0 : Int) (x1 : List (Int × Int × Int)) (x2 : List (Int)) (x3 : Int) : spec_l2Close.F n x0 x1 x2 x3 = exK cfg (pick (cal n)) (lam n) fin code (fun _ _ => none) (mkSt shp ((x0, x1, x2, ()), x3, ())) fin := by
  kernel_rfl
def pfn (n : Nat) : PFn := mkFn shp outs (fun x => spec_l2Close.F n x.1.1 x.1.2.1 x.1.2.2.1 x.2.1) out
theorem ok (n : Nat) : (pfn n).Ok Go.Proofs.Try.prog 67 :=
  mkFn_ok (fn := Go.Proofs.Try.f67) (code := code) Go.Proofs.Try.func67 (by kernel_rfl) (by decide) (C := cfg) (Φ := pick (cal n)) (Λ := lam n) (into := into) hT (cal_ok n) (by kernel_rfl) rfl (by decide) rfl (fun _ => rfl) (loops n)
    (fun x r h => by
      have e := F_eq n x.1.1 x.1.2.1 x.1.2.2.1 x.2.1
      exact e.symm.trans h)
end spec_l2Close
end
/-! ### loop.example/g01158/spec.l3Wins -/
section
namespace spec_l3Wins
noncomputable def code : Code := (Go.Proofs.Try.f60.body).getD .skip
abbrev shp : Shape := [(0, .agg [.int .i64, .row (.t3) false, .row (.int .i64) false]), (1, .one (.int .i64))]
abbrev outs : List KD := [.one (.bool)]
abbrev R : Type := Bool
def out : R → denL outs := fun r => (r, ())
def into : denL outs → R := fun y => y.1
def cfg : Cfg := ⟨ty, 18, [], fun _ => .plain, fun _ => none⟩
def cal (n : Nat) : List (Nat × PFn) := [(67, spec_l2Close.pfn n), (74, spec_l1Has.pfn n)]
theorem cal_ok (n : Nat) : ∀ g, (pick (cal n) g).Ok Go.Proofs.Try.prog g := pick_ok (by
  intro p hp
  simp only [cal, List.mem_cons, List.not_mem_nil, or_false] at hp
  rcases hp with rfl | rfl
  · exact spec_l2Close.ok n
  · exact spec_l1Has.ok n)
def fin : St → Option R := finOf ty [.tmp 4] outs into
def lam (n : Nat) : Nat → (St → Option R) → St → Option R := fun _ => fun _ _ => none
theorem loops (n : Nat) : LoopsOk cfg (pick (cal n)) (lam n) fin (loopsOf cfg.blk code) := by
  have h : loopsOf cfg.blk code = [] := by kernel_rfl
  rw [h]
  intro p hp
  cases hp
theorem F_eq (n : Nat) (x0 : Int) (x1 : List (Int × Int × Int)) (x2 : List (Int)) (x3 : Int) : spec_l3Wins.F n x0 x1 x2 x3 = exK cfg (pick (cal n)) (lam n) fin code (fun _ _ => none) (mkSt shp ((x0, x1, x2, ()), x3, ())) fin := by
  kernel_rfl
def pfn (n : Nat) : PFn := mkFn shp outs (fun x => spec_l3Wins.F n x.1.1 x.1.2.1 x.1.2.2.1 x.2.1) out
theorem ok (n : Nat) : (pfn n).Ok Go.Proofs.Try.prog 60 :=
  mkFn_ok (fn := Go.Proofs.Try.f60) (code := code) Go.Proofs.Try.func60 (by kernel_rfl) (by decide) (C := cfg) (Φ := pick (cal n)) (Λ := lam n) (into := into) hT (cal_ok n) (by kernel_rfl) rfl (by decide) rfl (fun _ => rfl) (loops n)
    (fun x r h => by
      have e := F_eq n x.1.1 x.1.2.1 x.1.2.2.1 x.2.1
      exact e.symm.trans h)
end spec_l3Wins
end
/-! ### loop.example/g01158/spec.CanWin -/
section
namespace spec_CanWin
noncomputable def code : Code := (Go.Proofs.Try.f24.body).getD .skip
abbrev shp : Shape := [(0, .agg [.int .i64, .row (.t3) false, .row (.int .i64) false]), (1, .one (.int .i64))]
abbrev outs : List KD := [.one (.bool), .one (.bool)]
abbrev R : Type := Bool × Bool
def out : R → denL outs := fun r => (r.1, r.2, ())
def into : denL outs → R := fun y => (y.1, y.2.1)
def cfg : Cfg := ⟨ty, 13, [], fun _ => .plain, fun _ => none⟩
def cal (n : Nat) : List (Nat × PFn) := [(59, spec_l3Ask.pfn n), (60, spec_l3Wins.pfn n)]
theorem cal_ok (n : Nat) : ∀ g, (pick (cal n) g).Ok Go.Proofs.Try.prog g := pick_ok (by
  intro p hp
  simp only [cal, List.mem_cons, List.not_mem_nil, or_false] at hp
  rcases hp with rfl | rfl
  · exact spec_l3Ask.ok n
  · exact spec_l3Wins.ok n)
def fin : St → Option R := finOf ty [.tmp 4, .tmp 5] outs into
def lam (n : Nat) : Nat → (St → Option R) → St → Option R := fun _ => fun _ _ => none
theorem loops (n : Nat) : LoopsOk cfg (pick (cal n)) (lam n) fin (loopsOf cfg.blk code) := by
  have h : loopsOf cfg.blk code = [] := by kernel_rfl
  rw [h]
  intro p hp
  cases hp
theorem F_eq (n : Nat) (x0 : Int) (x1 : List (Int × Int × Int)) (x2 : List (Int)) (x3 : Int) : spec_CanWin.F n x0 x1 x2 x3 = exK cfg (pick (cal n)) (lam n) fin code (fun _ _ => none) (mkSt shp ((x0, x1, x2, ()), x3, ())) fin := by
  kernel_rfl
def pfn (n : Nat) : PFn := mkFn shp outs (fun x => spec_CanWin.F n x.1.1 x.1.2.1 x.1.2.2.1 x.2.1) out
theorem ok (n : Nat) : (pfn n).Ok Go.Proofs.Try.prog 24 :=
  mkFn_ok (fn := Go.Proofs.Try.f24) (code := code) Go.Proofs.Try.func24 (by kernel_rfl) (by decide) (C := cfg) (Φ := pick (cal n)) (Λ := lam n) (into := into) hT (cal_ok n) (by kernel_rfl) rfl (by decide) rfl (fun _ => rfl) (loops n)
    (fun x r h => by
      have e := F_eq n x.1.1 x.1.2.1 x.1.2.2.1 x.2.1
      exact e.symm.trans h)
end spec_CanWin
end
/-! ### loop.example/g01158/impl.asked -/
section
namespace impl_asked
noncomputable def code : Code := (Go.Proofs.Try.f61.body).getD .skip
abbrev shp : Shape := [(0, .agg [.int .i64, .row (.t3) false, .row (.int .i64) false]), (1, .one (.int .i64))]
abbrev outs : List KD := [.one (.bool)]
abbrev R : Type := Bool
def out : R → denL outs := fun r => (r, ())
def into : denL outs → R := fun y => y.1
def cfg : Cfg := ⟨ty, 11, [], fun _ => .plain, fun _ => none⟩
def cal (n : Nat) : List (Nat × PFn) := [(54, impl_isSet.pfn n), (71, impl_IsMaze.pfn n)]
theorem cal_ok (n : Nat) : ∀ g, (pick (cal n) g).Ok Go.Proofs.Try.prog g := pick_ok (by
  intro p hp
  simp only [cal, List.mem_cons, List.not_mem_nil, or_false] at hp
  rcases hp with rfl | rfl
  · exact impl_isSet.ok n
  · exact impl_IsMaze.ok n)
def fin : St → Option R := finOf ty [.tmp 4] outs into
def lam (n : Nat) : Nat → (St → Option R) → St → Option R := fun _ => fun _ _ => none
theorem loops (n : Nat) : LoopsOk cfg (pick (cal n)) (lam n) fin (loopsOf cfg.blk code) := by
  have h : loopsOf cfg.blk code = [] := by kernel_rfl
  rw [h]
  intro p hp
  cases hp
theorem F_eq (n : Nat) (x0 : Int) (x1 : List (Int × Int × Int)) (x2 : List (Int)) (x3 : Int) : impl_asked.F n x0 x1 x2 x3 = exK cfg (pick (cal n)) (lam n) fin code (fun _ _ => none) (mkSt shp ((x0, x1, x2, ()), x3, ())) fin := by
  kernel_rfl
def pfn (n : Nat) : PFn := mkFn shp outs (fun x => impl_asked.F n x.1.1 x.1.2.1 x.1.2.2.1 x.2.1) out
theorem ok (n : Nat) : (pfn n).Ok Go.Proofs.Try.prog 61 :=
  mkFn_ok (fn := Go.Proofs.Try.f61) (code := code) Go.Proofs.Try.func61 (by kernel_rfl) (by decide) (C := cfg) (Φ := pick (cal n)) (Λ := lam n) (into := into) hT (cal_ok n) (by kernel_rfl) rfl (by decide) rfl (fun _ => rfl) (loops n)
    (fun x r h => by
      have e := F_eq n x.1.1 x.1.2.1 x.1.2.2.1 x.2.1
      exact e.symm.trans h)
end impl_asked
end
/-! ### loop.example/g01158/impl.rounds -/
section
namespace impl_rounds
noncomputable def code : Code := (Go.Proofs.Try.f66.body).getD .skip
abbrev shp : Shape := [(0, .agg [.int .i64, .row (.t3) false, .row (.int .i64) false]), (1, .one (.int .i64))]
abbrev outs : List KD := [.one (.row (.p2) true)]
abbrev R : Type := (List (Int × Int))
def out : R → denL outs := fun r => (r, ())
def into : denL outs → R := fun y => y.1
def cfg : Cfg := ⟨ty, 43, [], fun i => match Nat.beq i 2 with | true => .loop | false => match Nat.beq i 0 with | true => .loop | false => .plain, fun _ => none⟩
def cal (n : Nat) : List (Nat × PFn) := [(55, impl_members.pfn n), (56, impl_reach.pfn n)]
theorem cal_ok (n : Nat) : ∀ g, (pick (cal n) g).Ok Go.Proofs.Try.prog g := pick_ok (by
  intro p hp
  simp only [cal, List.mem_cons, List.not_mem_nil, or_false] at hp
  rcases hp with rfl | rfl
  · exact impl_members.ok n
  · exact impl_reach.ok n)
def fin : St → Option R := finOf ty [.tmp 4] outs into
abbrev sin2 : Shape := [(2, .box true [.int .i64, .row (.t3) false, .row (.int .i64) false]), (5, .one (.row (.p2) true)), (6, .one (.int .i64)), (7, .one (.int .i64)), (8, .one (.int .i64)), (18, .one (.row (.int .i64) true)), (19, .one (.int .i64)), (20, .one (.int .i64))]
abbrev sout2 : Shape := [(2, .box true [.int .i64, .row (.t3) false, .row (.int .i64) false]), (5, .one (.row (.p2) true)), (6, .one (.int .i64)), (7, .one (.int .i64)), (8, .one (.int .i64))]
abbrev sin0 : Shape := [(2, .box true [.int .i64, .row (.t3) false, .row (.int .i64) false]), (5, .one (.row (.p2) true)), (6, .one (.int .i64))]
abbrev sout0 : Shape := []
def lam (n : Nat) : Nat → (St → Option R) → St → Option R := fun i => match Nat.beq i 2 with | true => (fun K st => match absSt sin2 st with | some (x, _) => impl_rounds.l2 n (fun y0 y1 y2 y3 y4 y5 y6 => K (mkSt sout2 ((y0, y1, y2, ()), y3, y4, y5, y6, ()))) n x.1.1 x.1.2.1 x.1.2.2.1 x.2.1 x.2.2.1 x.2.2.2.1 x.2.2.2.2.1 x.2.2.2.2.2.1 x.2.2.2.2.2.2.1 x.2.2.2.2.2.2.2.1 | none => none) | false => match Nat.beq i 0 with | true => (fun K st => match absSt sin0 st with | some (x, _) => impl_rounds.l0 n (fun _ => K (mkSt sout0 ())) n x.1.1 x.1.2.1 x.1.2.2.1 x.2.1 x.2.2.1 | none => none) | false => fun _ _ => none
noncomputable def lps : List (Nat × Code) := loopsOf cfg.blk code
noncomputable def b2 : Code := bodyOf lps 2
theorem l2_eq (n : Nat) (K : St → Option R) : ∀ (j : Nat) (x0 : Int) (x1 : List (Int × Int × Int)) (x2 : List (Int)) (x3 : List (Int × Int)) (x4 : Int) (x5 : Int) (x6 : Int) (x7 : List (Int)) (x8 : Int) (x9 : Int), impl_rounds.l2 n (fun y0 y1 y2 y3 y4 y5 y6 => K (mkSt sout2 ((y0, y1, y2, ()), y3, y4, y5, y6, ()))) j x0 x1 x2 x3 x4 x5 x6 x7 x8 x9 = iter (roundK cfg (pick (cal n)) (lam n) fin 2 b2 sin2 sout2 K) j (mkSt sin2 ((x0, x1, x2, ()), x3, x4, x5, x6, x7, x8, x9, ()))
  | 0, _, _, _, _, _, _, _, _, _, _ => rfl
  | j + 1, x0, x1, x2, x3, x4, x5, x6, x7, x8, x9 => by
    have ih : impl_rounds.l2 n (fun y0 y1 y2 y3 y4 y5 y6 => K (mkSt sout2 ((y0, y1, y2, ()), y3, y4, y5, y6, ()))) j = fun x0 x1 x2 x3 x4 x5 x6 x7 x8 x9 => iter (roundK cfg (pick (cal n)) (lam n) fin 2 b2 sin2 sout2 K) j (mkSt sin2 ((x0, x1, x2, ()), x3, x4, x5, x6, x7, x8, x9, ())) := funext fun x0 => funext fun x1 => funext fun x2 => funext fun x3 => funext fun x4 => funext fun x5 => funext fun x6 => funext fun x7 => funext fun x8 => funext fun x9 => l2_eq n K j x0 x1 x2 x3 x4 x5 x6 x7 x8 x9
    rw [impl_rounds.l2, ih]
    show _ = roundK cfg (pick (cal n)) (lam n) fin 2 b2 sin2 sout2 K (iter (roundK cfg (pick (cal n)) (lam n) fin 2 b2 sin2 sout2 K) j) (mkSt sin2 ((x0, x1, x2, ()), x3, x4, x5, x6, x7, x8, x9, ()))
    kernel_rfl
noncomputable def b0 : Code := bodyOf lps 0
theorem l0_eq (n : Nat) (K : St → Option R) : ∀ (j : Nat) (x0 : Int) (x1 : List (Int × Int × Int)) (x2 : List (Int)) (x3 : List (Int × Int)) (x4 : Int), impl_rounds.l0 n (fun _ => K (mkSt sout0 ())) j x0 x1 x2 x3 x4 = iter (roundK cfg (pick (cal n)) (lam n) fin 0 b0 sin0 sout0 K) j (mkSt sin0 ((x0, x1, x2, ()), x3, x4, ()))
  | 0, _, _, _, _, _ => rfl
  | j + 1, x0, x1, x2, x3, x4 => by
    have ih : impl_rounds.l0 n (fun _ => K (mkSt sout0 ())) j = fun x0 x1 x2 x3 x4 => iter (roundK cfg (pick (cal n)) (lam n) fin 0 b0 sin0 sout0 K) j (mkSt sin0 ((x0, x1, x2, ()), x3, x4, ())) := funext fun x0 => funext fun x1 => funext fun x2 => funext fun x3 => funext fun x4 => l0_eq n K j x0 x1 x2 x3 x4
    rw [impl_rounds.l0, ih]
    show _ = roundK cfg (pick (cal n)) (lam n) fin 0 b0 sin0 sout0 K (iter (roundK cfg (pick (cal n)) (lam n) fin 0 b0 sin0 sout0 K) j) (mkSt sin0 ((x0, x1, x2, ()), x3, x4, ()))
    kernel_rfl
theorem loops (n : Nat) : LoopsOk cfg (pick (cal n)) (lam n) fin (loopsOf cfg.blk code) := by
  have h : loopsOf cfg.blk code = [(0, b0), (2, b2)] := by kernel_rfl
  rw [h]
  intro p hp K st r hr
  simp only [List.mem_cons, List.not_mem_nil, or_false] at hp
  rcases hp with rfl | rfl
  · have hr' : (match absSt sin0 st with | some (x, _) => impl_rounds.l0 n (fun _ => K (mkSt sout0 ())) n x.1.1 x.1.2.1 x.1.2.2.1 x.2.1 x.2.2.1 | none => none) = some r := hr
    split at hr'
    · rename_i x es hx
      rw [l0_eq] at hr'
      exact ⟨sin0, sout0, n, x, es, hx, hr'⟩
    · cases hr'
  · have hr' : (match absSt sin2 st with | some (x, _) => impl_rounds.l2 n (fun y0 y1 y2 y3 y4 y5 y6 => K (mkSt sout2 ((y0, y1, y2, ()), y3, y4, y5, y6, ()))) n x.1.1 x.1.2.1 x.1.2.2.1 x.2.1 x.2.2.1 x.2.2.2.1 x.2.2.2.2.1 x.2.2.2.2.2.1 x.2.2.2.2.2.2.1 x.2.2.2.2.2.2.2.1 | none => none) = some r := hr
    split at hr'
    · rename_i x es hx
      rw [l2_eq] at hr'
      exact ⟨sin2, sout2, n, x, es, hx, hr'⟩
    · cases hr'
theorem F_eq (n : Nat) (x0 : Int) (x1 : List (Int × Int × Int)) (x2 : List (Int)) (x3 : Int) : impl_rounds.F n x0 x1 x2 x3 = exK cfg (pick (cal n)) (lam n) fin code (fun _ _ => none) (mkSt shp ((x0, x1, x2, ()), x3, ())) fin := by
  kernel_rfl
def pfn (n : Nat) : PFn := mkFn shp outs (fun x => impl_rounds.F n x.1.1 x.1.2.1 x.1.2.2.1 x.2.1) out
theorem ok (n : Nat) : (pfn n).Ok Go.Proofs.Try.prog 66 :=
  mkFn_ok (fn := Go.Proofs.Try.f66) (code := code) Go.Proofs.Try.func66 (by kernel_rfl) (by decide) (C := cfg) (Φ := pick (cal n)) (Λ := lam n) (into := into) hT (cal_ok n) (by kernel_rfl) rfl (by decide) rfl (fun _ => rfl) (loops n)
    (fun x r h => by
      have e := F_eq n x.1.1 x.1.2.1 x.1.2.2.1 x.2.1
      exact e.symm.trans h)
end impl_rounds
end
/-! ### loop.example/g01158/impl.atLast -/
section
namespace impl_atLast
noncomputable def code : Code := (Go.Proofs.Try.f68.body).getD .skip
abbrev shp : Shape := [(0, .agg [.int .i64, .row (.t3) false, .row (.int .i64) false]), (1, .one (.int .i64))]
abbrev outs : List KD := [.agg [.int .i64, .int .i64]]
abbrev R : Type := Int × Int
def out : R → denL outs := fun r => ((r.1, r.2, ()), ())
def into : denL outs → R := fun y => (y.1.1, y.1.2.1)
def cfg : Cfg := ⟨ty, 15, [], fun _ => .plain, fun _ => none⟩
def cal (n : Nat) : List (Nat × PFn) := [(66, impl_rounds.pfn n)]
theorem cal_ok (n : Nat) : ∀ g, (pick (cal n) g).Ok Go.Proofs.Try.prog g := pick_ok (by
  intro p hp
  simp only [cal, List.mem_cons, List.not_mem_nil, or_false] at hp
  rcases hp with rfl
  · exact impl_rounds.ok n)
def fin : St → Option R := finOf ty [.cell 4 64] outs into
def lam (n : Nat) : Nat → (St → Option R) → St → Option R := fun _ => fun _ _ => none
theorem loops (n : Nat) : LoopsOk cfg (pick (cal n)) (lam n) fin (loopsOf cfg.blk code) := by
  have h : loopsOf cfg.blk code = [] := by kernel_rfl
  rw [h]
  intro p hp
  cases hp
theorem F_eq (n : Nat) (x0 : Int) (x1 : List (Int × Int × Int)) (x2 : List (Int)) (x3 : Int) : impl_atLast.F n x0 x1 x2 x3 = exK cfg (pick (cal n)) (lam n) fin code (fun _ _ => none) (mkSt shp ((x0, x1, x2, ()), x3, ())) fin := by
  kernel_rfl
def pfn (n : Nat) : PFn := mkFn shp outs (fun x => impl_atLast.F n x.1.1 x.1.2.1 x.1.2.2.1 x.2.1) out
theorem ok (n : Nat) : (pfn n).Ok Go.Proofs.Try.prog 68 :=
  mkFn_ok (fn := Go.Proofs.Try.f68) (code := code) Go.Proofs.Try.func68 (by kernel_rfl) (by decide) (C := cfg) (Φ := pick (cal n)) (Λ := lam n) (into := into) hT (cal_ok n) (by kernel_rfl) rfl (by decide) rfl (fun _ => rfl) (loops n)
    (fun x r h => by
      have e := F_eq n x.1.1 x.1.2.1 x.1.2.2.1 x.2.1
      exact e.symm.trans h)
end impl_atLast
end
/-! ### loop.example/g01158/impl.canWin -/
section
namespace impl_canWin
noncomputable def code : Code := (Go.Proofs.Try.f62.body).getD .skip
abbrev shp : Shape := [(0, .agg [.int .i64, .row (.t3) false, .row (.int .i64) false]), (1, .one (.int .i64))]
abbrev outs : List KD := [.one (.bool)]
abbrev R : Type := Bool
def out : R → denL outs := fun r => (r, ())
def into : denL outs → R := fun y => y.1
def cfg : Cfg := ⟨ty, 15, [], fun _ => .plain, fun _ => none⟩
def cal (n : Nat) : List (Nat × PFn) := [(68, impl_atLast.pfn n)]
theorem cal_ok (n : Nat) : ∀ g, (pick (cal n) g).Ok Go.Proofs.Try.prog g := pick_ok (by
  intro p hp
  simp only [cal, List.mem_cons, List.not_mem_nil, or_false] at hp
  rcases hp with rfl
  · exact impl_atLast.ok n)
def fin : St → Option R := finOf ty [.tmp 4] outs into
def lam (n : Nat) : Nat → (St → Option R) → St → Option R := fun _ => fun _ _ => none
theorem loops (n : Nat) : LoopsOk cfg (pick (cal n)) (lam n) fin (loopsOf cfg.blk code) := by
  have h : loopsOf cfg.blk code = [] := by kernel_rfl
  rw [h]
  intro p hp
  cases hp
theorem F_eq (n : Nat) (x0 : Int) (x1 : List (Int × Int × Int)) (x2 : List (Int)) (x3 : Int) : impl_canWin.F n x0 x1 x2 x3 = exK cfg (pick (cal n)) (lam n) fin code (fun _ _ => none) (mkSt shp ((x0, x1, x2, ()), x3, ())) fin := by
  kernel_rfl
def pfn (n : Nat) : PFn := mkFn shp outs (fun x => impl_canWin.F n x.1.1 x.1.2.1 x.1.2.2.1 x.2.1) out
theorem ok (n : Nat) : (pfn n).Ok Go.Proofs.Try.prog 62 :=
  mkFn_ok (fn := Go.Proofs.Try.f62) (code := code) Go.Proofs.Try.func62 (by kernel_rfl) (by decide) (C := cfg) (Φ := pick (cal n)) (Λ := lam n) (into := into) hT (cal_ok n) (by kernel_rfl) rfl (by decide) rfl (fun _ => rfl) (loops n)
    (fun x r h => by
      have e := F_eq n x.1.1 x.1.2.1 x.1.2.2.1 x.2.1
      exact e.symm.trans h)
end impl_canWin
end
/-! ### loop.example/g01158/impl.CanWin -/
section
namespace impl_CanWin
noncomputable def code : Code := (Go.Proofs.Try.f25.body).getD .skip
abbrev shp : Shape := [(0, .agg [.int .i64, .row (.t3) false, .row (.int .i64) false]), (1, .one (.int .i64))]
abbrev outs : List KD := [.one (.bool), .one (.bool)]
abbrev R : Type := Bool × Bool
def out : R → denL outs := fun r => (r.1, r.2, ())
def into : denL outs → R := fun y => (y.1, y.2.1)
def cfg : Cfg := ⟨ty, 13, [], fun _ => .plain, fun _ => none⟩
def cal (n : Nat) : List (Nat × PFn) := [(61, impl_asked.pfn n), (62, impl_canWin.pfn n)]
theorem cal_ok (n : Nat) : ∀ g, (pick (cal n) g).Ok Go.Proofs.Try.prog g := pick_ok (by
  intro p hp
  simp only [cal, List.mem_cons, List.not_mem_nil, or_false] at hp
  rcases hp with rfl | rfl
  · exact impl_asked.ok n
  · exact impl_canWin.ok n)
def fin : St → Option R := finOf ty [.tmp 4, .tmp 5] outs into
def lam (n : Nat) : Nat → (St → Option R) → St → Option R := fun _ => fun _ _ => none
theorem loops (n : Nat) : LoopsOk cfg (pick (cal n)) (lam n) fin (loopsOf cfg.blk code) := by
  have h : loopsOf cfg.blk code = [] := by kernel_rfl
  rw [h]
  intro p hp
  cases hp
theorem F_eq (n : Nat) (x0 : Int) (x1 : List (Int × Int × Int)) (x2 : List (Int)) (x3 : Int) : impl_CanWin.F n x0 x1 x2 x3 = exK cfg (pick (cal n)) (lam n) fin code (fun _ _ => none) (mkSt shp ((x0, x1, x2, ()), x3, ())) fin := by
  kernel_rfl
def pfn (n : Nat) : PFn := mkFn shp outs (fun x => impl_CanWin.F n x.1.1 x.1.2.1 x.1.2.2.1 x.2.1) out
theorem ok (n : Nat) : (pfn n).Ok Go.Proofs.Try.prog 25 :=
  mkFn_ok (fn := Go.Proofs.Try.f25) (code := code) Go.Proofs.Try.func25 (by kernel_rfl) (by decide) (C := cfg) (Φ := pick (cal n)) (Λ := lam n) (into := into) hT (cal_ok n) (by kernel_rfl) rfl (by decide) rfl (fun _ => rfl) (loops n)
    (fun x r h => by
      have e := F_eq n x.1.1 x.1.2.1 x.1.2.2.1 x.2.1
      exact e.symm.trans h)
end impl_CanWin
end
/-! ### loop.example/g01158/laws.FnExactCanWin -/
section
namespace laws_FnExactCanWin
noncomputable def code : Code := (Go.Proofs.Try.f4.body).getD .skip
abbrev shp : Shape := [(0, .agg [.int .i64, .row (.t3) false, .row (.int .i64) false]), (1, .one (.int .i64))]
abbrev outs : List KD := [.one (.bool)]
abbrev R : Type := Bool
def out : R → denL outs := fun r => (r, ())
def into : denL outs → R := fun y => y.1
def cfg : Cfg := ⟨ty, 44, [], fun _ => .plain, fun _ => none⟩
def cal (n : Nat) : List (Nat × PFn) := [(15, laws_szMaze.pfn n), (17, laws_toMaze.pfn n), (20, laws_eqMaze.pfn n), (24, spec_CanWin.pfn n), (25, impl_CanWin.pfn n)]
theorem cal_ok (n : Nat) : ∀ g, (pick (cal n) g).Ok Go.Proofs.Try.prog g := pick_ok (by
  intro p hp
  simp only [cal, List.mem_cons, List.not_mem_nil, or_false] at hp
  rcases hp with rfl | rfl | rfl | rfl | rfl
  · exact laws_szMaze.ok n
  · exact laws_toMaze.ok n
  · exact laws_eqMaze.ok n
  · exact spec_CanWin.ok n
  · exact impl_CanWin.ok n)
def fin : St → Option R := finOf ty [.tmp 4] outs into
def lam (n : Nat) : Nat → (St → Option R) → St → Option R := fun _ => fun _ _ => none
theorem loops (n : Nat) : LoopsOk cfg (pick (cal n)) (lam n) fin (loopsOf cfg.blk code) := by
  have h : loopsOf cfg.blk code = [] := by kernel_rfl
  rw [h]
  intro p hp
  cases hp
theorem F_eq (n : Nat) (x0 : Int) (x1 : List (Int × Int × Int)) (x2 : List (Int)) (x3 : Int) : laws_FnExactCanWin.F n x0 x1 x2 x3 = exK cfg (pick (cal n)) (lam n) fin code (fun _ _ => none) (mkSt shp ((x0, x1, x2, ()), x3, ())) fin := by
  kernel_rfl
def pfn (n : Nat) : PFn := mkFn shp outs (fun x => laws_FnExactCanWin.F n x.1.1 x.1.2.1 x.1.2.2.1 x.2.1) out
theorem ok (n : Nat) : (pfn n).Ok Go.Proofs.Try.prog 4 :=
  mkFn_ok (fn := Go.Proofs.Try.f4) (code := code) Go.Proofs.Try.func4 (by kernel_rfl) (by decide) (C := cfg) (Φ := pick (cal n)) (Λ := lam n) (into := into) hT (cal_ok n) (by kernel_rfl) rfl (by decide) rfl (fun _ => rfl) (loops n)
    (fun x r h => by
      have e := F_eq n x.1.1 x.1.2.1 x.1.2.2.1 x.2.1
      exact e.symm.trans h)
end laws_FnExactCanWin
end
/-! ### loop.example/g01158/spec.HelpfulColours -/
section
namespace spec_HelpfulColours
noncomputable def code : Code := (Go.Proofs.Try.f26.body).getD .skip
abbrev shp : Shape := [(0, .agg [.int .i64, .row (.t3) false, .row (.int .i64) false]), (1, .one (.int .i64))]
abbrev outs : List KD := [.one (.int .i64), .one (.bool)]
abbrev R : Type := Int × Bool
def out : R → denL outs := fun r => (r.1, r.2, ())
def into : denL outs → R := fun y => (y.1, y.2.1)
def cfg : Cfg := ⟨ty, 32, [], fun i => match Nat.beq i 0 with | true => .loop | false => .plain, fun _ => none⟩
def cal (n : Nat) : List (Nat × PFn) := [(59, spec_l3Ask.pfn n), (60, spec_l3Wins.pfn n)]
theorem cal_ok (n : Nat) : ∀ g, (pick (cal n) g).Ok Go.Proofs.Try.prog g := pick_ok (by
  intro p hp
  simp only [cal, List.mem_cons, List.not_mem_nil, or_false] at hp
  rcases hp with rfl | rfl
  · exact spec_l3Ask.ok n
  · exact spec_l3Wins.ok n)
def fin : St → Option R := finOf ty [.tmp 4, .tmp 5] outs into
abbrev sin0 : Shape := [(1, .one (.int .i64)), (2, .box true [.int .i64, .row (.t3) false, .row (.int .i64) false]), (6, .one (.int .i64)), (7, .one (.int .i64))]
abbrev sout0 : Shape := [(6, .one (.int .i64))]
def lam (n : Nat) : Nat → (St → Option R) → St → Option R := fun i => match Nat.beq i 0 with | true => (fun K st => match absSt sin0 st with | some (x, _) => spec_HelpfulColours.l0 n (fun y0 => K (mkSt sout0 (y0, ()))) n x.1 x.2.1.1 x.2.1.2.1 x.2.1.2.2.1 x.2.2.1 x.2.2.2.1 | none => none) | false => fun _ _ => none
noncomputable def lps : List (Nat × Code) := loopsOf cfg.blk code
noncomputable def b0 : Code := bodyOf lps 0
theorem l0_eq (n : Nat) (K : St → Option R) : ∀ (j : Nat) (x0 : Int) (x1 : Int) (x2 : List (Int × Int × Int)) (x3 : List (Int)) (x4 : Int) (x5 : Int), spec_HelpfulColours.l0 n (fun y0 => K (mkSt sout0 (y0, ()))) j x0 x1 x2 x3 x4 x5 = iter (roundK cfg (pick (cal n)) (lam n) fin 0 b0 sin0 sout0 K) j (mkSt sin0 (x0, (x1, x2, x3, ()), x4, x5, ()))
  | 0, _, _, _, _, _, _ => rfl
  | j + 1, x0, x1, x2, x3, x4, x5 => by
    have ih : spec_HelpfulColours.l0 n (fun y0 => K (mkSt sout0 (y0, ()))) j = fun x0 x1 x2 x3 x4 x5 => iter (roundK cfg (pick (cal n)) (lam n) fin 0 b0 sin0 sout0 K) j (mkSt sin0 (x0, (x1, x2, x3, ()), x4, x5, ())) := funext fun x0 => funext fun x1 => funext fun x2 => funext fun x3 => funext fun x4 => funext fun x5 => l0_eq n K j x0 x1 x2 x3 x4 x5
    rw [spec_HelpfulColours.l0, ih]
    show _ = roundK cfg (pick (cal n)) (lam n) fin 0 b0 sin0 sout0 K (iter (roundK cfg (pick (cal n)) (lam n) fin 0 b0 sin0 sout0 K) j) (mkSt sin0 (x0, (x1, x2, x3, ()), x4, x5, ()))
    kernel_rfl
theorem loops (n : Nat) : LoopsOk cfg (pick (cal n)) (lam n) fin (loopsOf cfg.blk code) := by
  have h : loopsOf cfg.blk code = [(0, b0)] := by kernel_rfl
  rw [h]
  intro p hp K st r hr
  simp only [List.mem_cons, List.not_mem_nil, or_false] at hp
  rcases hp with rfl
  · have hr' : (match absSt sin0 st with | some (x, _) => spec_HelpfulColours.l0 n (fun y0 => K (mkSt sout0 (y0, ()))) n x.1 x.2.1.1 x.2.1.2.1 x.2.1.2.2.1 x.2.2.1 x.2.2.2.1 | none => none) = some r := hr
    split at hr'
    · rename_i x es hx
      rw [l0_eq] at hr'
      exact ⟨sin0, sout0, n, x, es, hx, hr'⟩
    · cases hr'
theorem F_eq (n : Nat) (x0 : Int) (x1 : List (Int × Int × Int)) (x2 : List (Int)) (x3 : Int) : spec_HelpfulColours.F n x0 x1 x2 x3 = exK cfg (pick (cal n)) (lam n) fin code (fun _ _ => none) (mkSt shp ((x0, x1, x2, ()), x3, ())) fin := by
  kernel_rfl
def pfn (n : Nat) : PFn := mkFn shp outs (fun x => spec_HelpfulColours.F n x.1.1 x.1.2.1 x.1.2.2.1 x.2.1) out
theorem ok (n : Nat) : (pfn n).Ok Go.Proofs.Try.prog 26 :=
  mkFn_ok (fn := Go.Proofs.Try.f26) (code := code) Go.Proofs.Try.func26 (by kernel_rfl) (by decide) (C := cfg) (Φ := pick (cal n)) (Λ := lam n) (into := into) hT (cal_ok n) (by kernel_rfl) rfl (by decide) rfl (fun _ => rfl) (loops n)
    (fun x r h => by
      have e := F_eq n x.1.1 x.1.2.1 x.1.2.2.1 x.2.1
      exact e.symm.trans h)
end spec_HelpfulColours
end
/-! ### loop.example/g01158/impl.HelpfulColours -/
section
namespace impl_HelpfulColours
noncomputable def code : Code := (Go.Proofs.Try.f27.body).getD .skip
abbrev shp : Shape := [(0, .agg [.int .i64, .row (.t3) false, .row (.int .i64) false]), (1, .one (.int .i64))]
abbrev outs : List KD := [.one (.int .i64), .one (.bool)]
abbrev R : Type := Int × Bool
def out : R → denL outs := fun r => (r.1, r.2, ())
def into : denL outs → R := fun y => (y.1, y.2.1)
def cfg : Cfg := ⟨ty, 32, [], fun i => match Nat.beq i 0 with | true => .loop | false => .plain, fun _ => none⟩
def cal (n : Nat) : List (Nat × PFn) := [(61, impl_asked.pfn n), (62, impl_canWin.pfn n)]
theorem cal_ok (n : Nat) : ∀ g, (pick (cal n) g).Ok Go.Proofs.Try.prog g := pick_ok (by
  intro p hp
  simp only [cal, List.mem_cons, List.not_mem_nil, or_false] at hp
  rcases hp with rfl | rfl
  · exact impl_asked.ok n
  · exact impl_canWin.ok n)
def fin : St → Option R := finOf ty [.tmp 4, .tmp 5] outs into
abbrev sin0 : Shape := [(1, .one (.int .i64)), (2, .box true [.int .i64, .row (.t3) false, .row (.int .i64) false]), (6, .one (.int .i64)), (17, .one (.int .i64))]
abbrev sout0 : Shape := [(6, .one (.int .i64))]
def lam (n : Nat) : Nat → (St → Option R) → St → Option R := fun i => match Nat.beq i 0 with | true => (fun K st => match absSt sin0 st with | some (x, _) => impl_HelpfulColours.l0 n (fun y0 => K (mkSt sout0 (y0, ()))) n x.1 x.2.1.1 x.2.1.2.1 x.2.1.2.2.1 x.2.2.1 x.2.2.2.1 | none => none) | false => fun _ _ => none
noncomputable def lps : List (Nat × Code) := loopsOf cfg.blk code
noncomputable def b0 : Code := bodyOf lps 0
theorem l0_eq (n : Nat) (K : St → Option R) : ∀ (j : Nat) (x0 : Int) (x1 : Int) (x2 : List (Int × Int × Int)) (x3 : List (Int)) (x4 : Int) (x5 : Int), impl_HelpfulColours.l0 n (fun y0 => K (mkSt sout0 (y0, ()))) j x0 x1 x2 x3 x4 x5 = iter (roundK cfg (pick (cal n)) (lam n) fin 0 b0 sin0 sout0 K) j (mkSt sin0 (x0, (x1, x2, x3, ()), x4, x5, ()))
  | 0, _, _, _, _, _, _ => rfl
  | j + 1, x0, x1, x2, x3, x4, x5 => by
    have ih : impl_HelpfulColours.l0 n (fun y0 => K (mkSt sout0 (y0, ()))) j = fun x0 x1 x2 x3 x4 x5 => iter (roundK cfg (pick (cal n)) (lam n) fin 0 b0 sin0 sout0 K) j (mkSt sin0 (x0, (x1, x2, x3, ()), x4, x5, ())) := funext fun x0 => funext fun x1 => funext fun x2 => funext fun x3 => funext fun x4 => funext fun x5 => l0_eq n K j x0 x1 x2 x3 x4 x5
    rw [impl_HelpfulColours.l0, ih]
    show _ = roundK cfg (pick (cal n)) (lam n) fin 0 b0 sin0 sout0 K (iter (roundK cfg (pick (cal n)) (lam n) fin 0 b0 sin0 sout0 K) j) (mkSt sin0 (x0, (x1, x2, x3, ()), x4, x5, ()))
    kernel_rfl
theorem loops (n : Nat) : LoopsOk cfg (pick (cal n)) (lam n) fin (loopsOf cfg.blk code) := by
  have h : loopsOf cfg.blk code = [(0, b0)] := by kernel_rfl
  rw [h]
  intro p hp K st r hr
  simp only [List.mem_cons, List.not_mem_nil, or_false] at hp
  rcases hp with rfl
  · have hr' : (match absSt sin0 st with | some (x, _) => impl_HelpfulColours.l0 n (fun y0 => K (mkSt sout0 (y0, ()))) n x.1 x.2.1.1 x.2.1.2.1 x.2.1.2.2.1 x.2.2.1 x.2.2.2.1 | none => none) = some r := hr
    split at hr'
    · rename_i x es hx
      rw [l0_eq] at hr'
      exact ⟨sin0, sout0, n, x, es, hx, hr'⟩
    · cases hr'
theorem F_eq (n : Nat) (x0 : Int) (x1 : List (Int × Int × Int)) (x2 : List (Int)) (x3 : Int) : impl_HelpfulColours.F n x0 x1 x2 x3 = exK cfg (pick (cal n)) (lam n) fin code (fun _ _ => none) (mkSt shp ((x0, x1, x2, ()), x3, ())) fin := by
  kernel_rfl
def pfn (n : Nat) : PFn := mkFn shp outs (fun x => impl_HelpfulColours.F n x.1.1 x.1.2.1 x.1.2.2.1 x.2.1) out
theorem ok (n : Nat) : (pfn n).Ok Go.Proofs.Try.prog 27 :=
  mkFn_ok (fn := Go.Proofs.Try.f27) (code := code) Go.Proofs.Try.func27 (by kernel_rfl) (by decide) (C := cfg) (Φ := pick (cal n)) (Λ := lam n) (into := into) hT (cal_ok n) (by kernel_rfl) rfl (by decide) rfl (fun _ => rfl) (loops n)
    (fun x r h => by
      have e := F_eq n x.1.1 x.1.2.1 x.1.2.2.1 x.2.1
      exact e.symm.trans h)
end impl_HelpfulColours
end
/-! ### loop.example/g01158/laws.FnExactHelpfulColours -/
section
namespace laws_FnExactHelpfulColours
noncomputable def code : Code := (Go.Proofs.Try.f5.body).getD .skip
abbrev shp : Shape := [(0, .agg [.int .i64, .row (.t3) false, .row (.int .i64) false]), (1, .one (.int .i64))]
abbrev outs : List KD := [.one (.bool)]
abbrev R : Type := Bool
def out : R → denL outs := fun r => (r, ())
def into : denL outs → R := fun y => y.1
def cfg : Cfg := ⟨ty, 44, [], fun _ => .plain, fun _ => none⟩
def cal (n : Nat) : List (Nat × PFn) := [(15, laws_szMaze.pfn n), (17, laws_toMaze.pfn n), (20, laws_eqMaze.pfn n), (26, spec_HelpfulColours.pfn n), (27, impl_HelpfulColours.pfn n)]
theorem cal_ok (n : Nat) : ∀ g, (pick (cal n) g).Ok Go.Proofs.Try.prog g := pick_ok (by
  intro p hp
  simp only [cal, List.mem_cons, List.not_mem_nil, or_false] at hp
  rcases hp with rfl | rfl | rfl | rfl | rfl
  · exact laws_szMaze.ok n
  · exact laws_toMaze.ok n
  · exact laws_eqMaze.ok n
  · exact spec_HelpfulColours.ok n
  · exact impl_HelpfulColours.ok n)
def fin : St → Option R := finOf ty [.tmp 4] outs into
def lam (n : Nat) : Nat → (St → Option R) → St → Option R := fun _ => fun _ _ => none
theorem loops (n : Nat) : LoopsOk cfg (pick (cal n)) (lam n) fin (loopsOf cfg.blk code) := by
  have h : loopsOf cfg.blk code = [] := by kernel_rfl
  rw [h]
  intro p hp
  cases hp
theorem F_eq (n : Nat) (x0 : Int) (x1 : List (Int × Int × Int)) (x2 : List (Int)) (x3 : Int) : laws_FnExactHelpfulColours.F n x0 x1 x2 x3 = exK cfg (pick (cal n)) (lam n) fin code (fun _ _ => none) (mkSt shp ((x0, x1, x2, ()), x3, ())) fin := by
  kernel_rfl
def pfn (n : Nat) : PFn := mkFn shp outs (fun x => laws_FnExactHelpfulColours.F n x.1.1 x.1.2.1 x.1.2.2.1 x.2.1) out
theorem ok (n : Nat) : (pfn n).Ok Go.Proofs.Try.prog 5 :=
  mkFn_ok (fn := Go.Proofs.Try.f5) (code := code) Go.Proofs.Try.func5 (by kernel_rfl) (by decide) (C := cfg) (Φ := pick (cal n)) (Λ := lam n) (into := into) hT (cal_ok n) (by kernel_rfl) rfl (by decide) rfl (fun _ => rfl) (loops n)
    (fun x r h => by
      have e := F_eq n x.1.1 x.1.2.1 x.1.2.2.1 x.2.1
      exact e.symm.trans h)
end laws_FnExactHelpfulColours
end
/-! ### loop.example/g01158/spec.l3Rounds -/
section
namespace spec_l3Rounds
noncomputable def code : Code := (Go.Proofs.Try.f65.body).getD .skip
abbrev shp : Shape := [(0, .agg [.int .i64, .row (.t3) false, .row (.int .i64) false]), (1, .one (.int .i64))]
abbrev outs : List KD := [.one (.row (.int .i64) true)]
abbrev R : Type := (List (Int))
def out : R → denL outs := fun r => (r, ())
def into : denL outs → R := fun y => y.1
def cfg : Cfg := ⟨ty, 46, [], fun i => match Nat.beq i 2 with | true => .loop | false => match Nat.beq i 0 with | true => .loop | false => .plain, fun _ => none⟩
def cal (n : Nat) : List (Nat × PFn) := [(51, spec_l2Reach.pfn n)]
theorem cal_ok (n : Nat) : ∀ g, (pick (cal n) g).Ok Go.Proofs.Try.prog g := pick_ok (by
  intro p hp
  simp only [cal, List.mem_cons, List.not_mem_nil, or_false] at hp
  rcases hp with rfl
  · exact spec_l2Reach.ok n)
def fin : St → Option R := finOf ty [.tmp 4] outs into
abbrev sin2 : Shape := [(2, .box true [.int .i64, .row (.t3) false, .row (.int .i64) false]), (5, .one (.row (.int .i64) true)), (6, .one (.int .i64)), (7, .one (.row (.int .i64) true)), (8, .one (.int .i64)), (9, .one (.int .i64))]
abbrev sout2 : Shape := [(2, .box true [.int .i64, .row (.t3) false, .row (.int .i64) false]), (5, .one (.row (.int .i64) true)), (6, .one (.int .i64)), (8, .one (.int .i64))]
abbrev sin0 : Shape := [(2, .box true [.int .i64, .row (.t3) false, .row (.int .i64) false]), (5, .one (.row (.int .i64) true))]
abbrev sout0 : Shape := []
def lam (n : Nat) : Nat → (St → Option R) → St → Option R := fun i => match Nat.beq i 2 with | true => (fun K st => match absSt sin2 st with | some (x, _) => spec_l3Rounds.l2 n (fun y0 y1 y2 y3 y4 y5 => K (mkSt sout2 ((y0, y1, y2, ()), y3, y4, y5, ()))) n x.1.1 x.1.2.1 x.1.2.2.1 x.2.1 x.2.2.1 x.2.2.2.1 x.2.2.2.2.1 x.2.2.2.2.2.1 | none => none) | false => match Nat.beq i 0 with | true => (fun K st => match absSt sin0 st with | some (x, _) => spec_l3Rounds.l0 n (fun _ => K (mkSt sout0 ())) n x.1.1 x.1.2.1 x.1.2.2.1 x.2.1 | none => none) | false => fun _ _ => none
noncomputable def lps : List (Nat × Code) := loopsOf cfg.blk code
noncomputable def b2 : Code := bodyOf lps 2
theorem l2_eq (n : Nat) (K : St → Option R) : ∀ (j : Nat) (x0 : Int) (x1 : List (Int × Int × Int)) (x2 : List (Int)) (x3 : List (Int)) (x4 : Int) (x5 : List (Int)) (x6 : Int) (x7 : Int), spec_l3Rounds.l2 n (fun y0 y1 y2 y3 y4 y5 => K (mkSt sout2 ((y0, y1, y2, ()), y3, y4, y5, ()))) j x0 x1 x2 x3 x4 x5 x6 x7 = iter (roundK cfg (pick (cal n)) (lam n) fin 2 b2 sin2 sout2 K) j (mkSt sin2 ((x0, x1, x2, ()), x3, x4, x5, x6, x7, ()))
  | 0, _, _, _, _, _, _, _, _ => rfl
  | j + 1, x0, x1, x2, x3, x4, x5, x6, x7 => by
    have ih : spec_l3Rounds.l2 n (fun y0 y1 y2 y3 y4 y5 => K (mkSt sout2 ((y0, y1, y2, ()), y3, y4, y5, ()))) j = fun x0 x1 x2 x3 x4 x5 x6 x7 => iter (roundK cfg (pick (cal n)) (lam n) fin 2 b2 sin2 sout2 K) j (mkSt sin2 ((x0, x1, x2, ()), x3, x4, x5, x6, x7, ())) := funext fun x0 => funext fun x1 => funext fun x2 => funext fun x3 => funext fun x4 => funext fun x5 => funext fun x6 => funext fun x7 => l2_eq n K j x0 x1 x2 x3 x4 x5 x6 x7
    rw [spec_l3Rounds.l2, ih]
    show _ = roundK cfg (pick (cal n)) (lam n) fin 2 b2 sin2 sout2 K (iter (roundK cfg (pick (cal n)) (lam n) fin 2 b2 sin2 sout2 K) j) (mkSt sin2 ((x0, x1, x2, ()), x3, x4, x5, x6, x7, ()))
    kernel_rfl
noncomputable def b0 : Code := bodyOf lps 0
theorem l0_eq (n : Nat) (K : St → Option R) : ∀ (j : Nat) (x0 : Int) (x1 : List (Int × Int × Int)) (x2 : List (Int)) (x3 : List (Int)), spec_l3Rounds.l0 n (fun _ => K (mkSt sout0 ())) j x0 x1 x2 x3 = iter (roundK cfg (pick (cal n)) (lam n) fin 0 b0 sin0 sout0 K) j (mkSt sin0 ((x0, x1, x2, ()), x3, ()))
  | 0, _, _, _, _ => rfl
  | j + 1, x0, x1, x2, x3 => by
    have ih : spec_l3Rounds.l0 n (fun _ => K (mkSt sout0 ())) j = fun x0 x1 x2 x3 => iter (roundK cfg (pick (cal n)) (lam n) fin 0 b0 sin0 sout0 K) j (mkSt sin0 ((x0, x1, x2, ()), x3, ())) := funext fun x0 => funext fun x1 => funext fun x2 => funext fun x3 => l0_eq n K j x0 x1 x2 x3
    rw [spec_l3Rounds.l0, ih]
    show _ = roundK cfg (pick (cal n)) (lam n) fin 0 b0 sin0 sout0 K (iter (roundK cfg (pick (cal n)) (lam n) fin 0 b0 sin0 sout0 K) j) (mkSt sin0 ((x0, x1, x2, ()), x3, ()))
    kernel_rfl
theorem loops (n : Nat) : LoopsOk cfg (pick (cal n)) (lam n) fin (loopsOf cfg.blk code) := by
  have h : loopsOf cfg.blk code = [(0, b0), (2, b2)] := by kernel_rfl
  rw [h]
  intro p hp K st r hr
  simp only [List.mem_cons, List.not_mem_nil, or_false] at hp
  rcases hp with rfl | rfl
  · have hr' : (match absSt sin0 st with | some (x, _) => spec_l3Rounds.l0 n (fun _ => K (mkSt sout0 ())) n x.1.1 x.1.2.1 x.1.2.2.1 x.2.1 | none => none) = some r := hr
    split at hr'
    · rename_i x es hx
      rw [l0_eq] at hr'
      exact ⟨sin0, sout0, n, x, es, hx, hr'⟩
    · cases hr'
  · have hr' : (match absSt sin2 st with | some (x, _) => spec_l3Rounds.l2 n (fun y0 y1 y2 y3 y4 y5 => K (mkSt sout2 ((y0, y1, y2, ()), y3, y4, y5, ()))) n x.1.1 x.1.2.1 x.1.2.2.1 x.2.1 x.2.2.1 x.2.2.2.1 x.2.2.2.2.1 x.2.2.2.2.2.1 | none => none) = some r := hr
    split at hr'
    · rename_i x es hx
      rw [l2_eq] at hr'
      exact ⟨sin2, sout2, n, x, es, hx, hr'⟩
    · cases hr'
theorem F_eq (n : Nat) (x0 : Int) (x1 : List (Int × Int × Int)) (x2 : List (Int)) (x3 : Int) : spec_l3Rounds.F n x0 x1 x2 x3 = exK cfg (pick (cal n)) (lam n) fin code (fun _ _ => none) (mkSt shp ((x0, x1, x2, ()), x3, ())) fin := by
  kernel_rfl
def pfn (n : Nat) : PFn := mkFn shp outs (fun x => spec_l3Rounds.F n x.1.1 x.1.2.1 x.1.2.2.1 x.2.1) out
theorem ok (n : Nat) : (pfn n).Ok Go.Proofs.Try.prog 65 :=
  mkFn_ok (fn := Go.Proofs.Try.f65) (code := code) Go.Proofs.Try.func65 (by kernel_rfl) (by decide) (C := cfg) (Φ := pick (cal n)) (Λ := lam n) (into := into) hT (cal_ok n) (by kernel_rfl) rfl (by decide) rfl (fun _ => rfl) (loops n)
    (fun x r h => by
      have e := F_eq n x.1.1 x.1.2.1 x.1.2.2.1 x.2.1
      exact e.symm.trans h)
end spec_l3Rounds
end
/-! ### loop.example/g01158/spec.l3Entered -/
section
namespace spec_l3Entered
noncomputable def code : Code := (Go.Proofs.Try.f63.body).getD .skip
abbrev shp : Shape := [(0, .agg [.int .i64, .row (.t3) false, .row (.int .i64) false]), (1, .one (.int .i64))]
abbrev outs : List KD := [.one (.row (.int .i64) true)]
abbrev R : Type := (List (Int))
def out : R → denL outs := fun r => (r, ())
def into : denL outs → R := fun y => y.1
def cfg : Cfg := ⟨ty, 51, [], fun i => match Nat.beq i 2 with | true => .loop | false => match Nat.beq i 0 with | true => .loop | false => .plain, fun _ => none⟩
def cal (n : Nat) : List (Nat × PFn) := [(51, spec_l2Reach.pfn n), (65, spec_l3Rounds.pfn n)]
theorem cal_ok (n : Nat) : ∀ g, (pick (cal n) g).Ok Go.Proofs.Try.prog g := pick_ok (by
  intro p hp
  simp only [cal, List.mem_cons, List.not_mem_nil, or_false] at hp
  rcases hp with rfl | rfl
  · exact spec_l2Reach.ok n
  · exact spec_l3Rounds.ok n)
def fin : St → Option R := finOf ty [.tmp 4] outs into
abbrev sin2 : Shape := [(2, .box true [.int .i64, .row (.t3) false, .row (.int .i64) false]), (5, .one (.row (.int .i64) true)), (6, .one (.row (.int .i64) true)), (7, .one (.int .i64)), (8, .one (.row (.int .i64) true)), (9, .one (.int .i64))]
abbrev sout2 : Shape := [(2, .box true [.int .i64, .row (.t3) false, .row (.int .i64) false]), (5, .one (.row (.int .i64) true)), (6, .one (.row (.int .i64) true)), (7, .one (.int .i64))]
abbrev sin0 : Shape := [(2, .box true [.int .i64, .row (.t3) false, .row (.int .i64) false]), (5, .one (.row (.int .i64) true)), (6, .one (.row (.int .i64) true)), (7, .one (.int .i64))]
abbrev sout0 : Shape := [(5, .one (.row (.int .i64) true))]
def lam (n : Nat) : Nat → (St → Option R) → St → Option R := fun i => match Nat.beq i 2 with | true => (fun K st => match absSt sin2 st with | some (x, _) => spec_l3Entered.l2 n (fun y0 y1 y2 y3 y4 y5 => K (mkSt sout2 ((y0, y1, y2, ()), y3, y4, y5, ()))) n x.1.1 x.1.2.1 x.1.2.2.1 x.2.1 x.2.2.1 x.2.2.2.1 x.2.2.2.2.1 x.2.2.2.2.2.1 | none => none) | false => match Nat.beq i 0 with | true => (fun K st => match absSt sin0 st with | some (x, _) => spec_l3Entered.l0 n (fun y0 => K (mkSt sout0 (y0, ()))) n x.1.1 x.1.2.1 x.1.2.2.1 x.2.1 x.2.2.1 x.2.2.2.1 | none => none) | false => fun _ _ => none
noncomputable def lps : List (Nat × Code) := loopsOf cfg.blk code
noncomputable def b2 : Code := bodyOf lps 2
theorem l2_eq (n : Nat) (K : St → Option R) : ∀ (j : Nat) (x0 : Int) (x1 : List (Int × Int × Int)) (x2 : List (Int)) (x3 : List (Int)) (x4 : List (Int)) (x5 : Int) (x6 : List (Int)) (x7 : Int), spec_l3Entered.l2 n (fun y0 y1 y2 y3 y4 y5 => K (mkSt sout2 ((y0, y1, y2, ()), y3, y4, y5, ()))) j x0 x1 x2 x3 x4 x5 x6 x7 = iter (roundK cfg (pick (cal n)) (lam n) fin 2 b2 sin2 sout2 K) j (mkSt sin2 ((x0, x1, x2, ()), x3, x4, x5, x6, x7, ()))
  | 0, _, _, _, _, _, _, _, _ => rfl
  | j + 1, x0, x1, x2, x3, x4, x5, x6, x7 => by
    have ih : spec_l3Entered.l2 n (fun y0 y1 y2 y3 y4 y5 => K (mkSt sout2 ((y0, y1, y2, ()), y3, y4, y5, ()))) j = fun x0 x1 x2 x3 x4 x5 x6 x7 => iter (roundK cfg (pick (cal n)) (lam n) fin 2 b2 sin2 sout2 K) j (mkSt sin2 ((x0, x1, x2, ()), x3, x4, x5, x6, x7, ())) := funext fun x0 => funext fun x1 => funext fun x2 => funext fun x3 => funext fun x4 => funext fun x5 => funext fun x6 => funext fun x7 => l2_eq n K j x0 x1 x2 x3 x4 x5 x6 x7
    rw [spec_l3Entered.l2, ih]
    show _ = roundK cfg (pick (cal n)) (lam n) fin 2 b2 sin2 sout2 K (iter (roundK cfg (pick (cal n)) (lam n) fin 2 b2 sin2 sout2 K) j) (mkSt sin2 ((x0, x1, x2, ()), x3, x4, x5, x6, x7, ()))
    kernel_rfl
noncomputable def b0 : Code := bodyOf lps 0
theorem l0_eq (n : Nat) (K : St → Option R) : ∀ (j : Nat) (x0 : Int) (x1 : List (Int × Int × Int)) (x2 : List (Int)) (x3 : List (Int)) (x4 : List (Int)) (x5 : Int), spec_l3Entered.l0 n (fun y0 => K (mkSt sout0 (y0, ()))) j x0 x1 x2 x3 x4 x5 = iter (roundK cfg (pick (cal n)) (lam n) fin 0 b0 sin0 sout0 K) j (mkSt sin0 ((x0, x1, x2, ()), x3, x4, x5, ()))
  | 0, _, _, _, _, _, _ => rfl
  | j + 1, x0, x1, x2, x3, x4, x5 => by
    have ih : spec_l3Entered.l0 n (fun y0 => K (mkSt sout0 (y0, ()))) j = fun x0 x1 x2 x3 x4 x5 => iter (roundK cfg (pick (cal n)) (lam n) fin 0 b0 sin0 sout0 K) j (mkSt sin0 ((x0, x1, x2, ()), x3, x4, x5, ())) := funext fun x0 => funext fun x1 => funext fun x2 => funext fun x3 => funext fun x4 => funext fun x5 => l0_eq n K j x0 x1 x2 x3 x4 x5
    rw [spec_l3Entered.l0, ih]
    show _ = roundK cfg (pick (cal n)) (lam n) fin 0 b0 sin0 sout0 K (iter (roundK cfg (pick (cal n)) (lam n) fin 0 b0 sin0 sout0 K) j) (mkSt sin0 ((x0, x1, x2, ()), x3, x4, x5, ()))
    kernel_rfl
theorem loops (n : Nat) : LoopsOk cfg (pick (cal n)) (lam n) fin (loopsOf cfg.blk code) := by
  have h : loopsOf cfg.blk code = [(0, b0), (2, b2)] := by kernel_rfl
  rw [h]
  intro p hp K st r hr
  simp only [List.mem_cons, List.not_mem_nil, or_false] at hp
  rcases hp with rfl | rfl
  · have hr' : (match absSt sin0 st with | some (x, _) => spec_l3Entered.l0 n (fun y0 => K (mkSt sout0 (y0, ()))) n x.1.1 x.1.2.1 x.1.2.2.1 x.2.1 x.2.2.1 x.2.2.2.1 | none => none) = some r := hr
    split at hr'
    · rename_i x es hx
      rw [l0_eq] at hr'
      exact ⟨sin0, sout0, n, x, es, hx, hr'⟩
    · cases hr'
  · have hr' : (match absSt sin2 st with | some (x, _) => spec_l3Entered.l2 n (fun y0 y1 y2 y3 y4 y5 => K (mkSt sout2 ((y0, y1, y2, ()), y3, y4, y5, ()))) n x.1.1 x.1.2.1 x.1.2.2.1 x.2.1 x.2.2.1 x.2.2.2.1 x.2.2.2.2.1 x.2.2.2.2.2.1 | none => none) = some r := hr
    split at hr'
    · rename_i x es hx
      rw [l2_eq] at hr'
      exact ⟨sin2, sout2, n, x, es, hx, hr'⟩
    · cases hr'
theorem F_eq (n : Nat) (x0 : Int) (x1 : List (Int × Int × Int)) (x2 : List (Int)) (x3 : Int) : spec_l3Entered.F n x0 x1 x2 x3 = exK cfg (pick (cal n)) (lam n) fin code (fun _ _ => none) (mkSt shp ((x0, x1, x2, ()), x3, ())) fin := by
  kernel_rfl
def pfn (n : Nat) : PFn := mkFn shp outs (fun x => spec_l3Entered.F n x.1.1 x.1.2.1 x.1.2.2.1 x.2.1) out
theorem ok (n : Nat) : (pfn n).Ok Go.Proofs.Try.prog 63 :=
  mkFn_ok (fn := Go.Proofs.Try.f63) (code := code) Go.Proofs.Try.func63 (by kernel_rfl) (by decide) (C := cfg) (Φ := pick (cal n)) (Λ := lam n) (into := into) hT (cal_ok n) (by kernel_rfl) rfl (by decide) rfl (fun _ => rfl) (loops n)
    (fun x r h => by
      have e := F_eq n x.1.1 x.1.2.1 x.1.2.2.1 x.2.1
      exact e.symm.trans h)
end spec_l3Entered
end
/-! ### loop.example/g01158/spec.WinRound -/
section
namespace spec_WinRound
noncomputable def code : Code := (Go.Proofs.Try.f28.body).getD .skip
abbrev shp : Shape := [(0, .agg [.int .i64, .row (.t3) false, .row (.int .i64) false]), (1, .one (.int .i64))]
abbrev outs : List KD := [.one (.int .i64), .one (.bool)]
abbrev R : Type := Int × Bool
def out : R → denL outs := fun r => (r.1, r.2, ())
def into : denL outs → R := fun y => (y.1, y.2.1)
def cfg : Cfg := ⟨ty, 22, [], fun _ => .plain, fun _ => none⟩
def cal (n : Nat) : List (Nat × PFn) := [(59, spec_l3Ask.pfn n), (63, spec_l3Entered.pfn n)]
theorem cal_ok (n : Nat) : ∀ g, (pick (cal n) g).Ok Go.Proofs.Try.prog g := pick_ok (by
  intro p hp
  simp only [cal, List.mem_cons, List.not_mem_nil, or_false] at hp
  rcases hp with rfl | rfl
  · exact spec_l3Ask.ok n
  · exact spec_l3Entered.ok n)
def fin : St → Option R := finOf ty [.tmp 4, .tmp 5] outs into
def lam (n : Nat) : Nat → (St → Option R) → St → Option R := fun _ => fun _ _ => none
theorem loops (n : Nat) : LoopsOk cfg (pick (cal n)) (lam n) fin (loopsOf cfg.blk code) := by
  have h : loopsOf cfg.blk code = [] := by kernel_rfl
  rw [h]
  intro p hp
  cases hp
theorem F_eq (n : Nat) (x0 : Int) (x1 : List (Int × Int × Int)) (x2 : List (Int)) (x3 : Int) : spec_WinRound.F n x0 x1 x2 x3 = exK cfg (pick (cal n)) (lam n) fin code (fun _ _ => none) (mkSt shp ((x0, x1, x2, ()), x3, ())) fin := by
  kernel_rfl
def pfn (n : Nat) : PFn := mkFn shp outs (fun x => spec_WinRound.F n x.1.1 x.1.2.1 x.1.2.2.1 x.2.1) out
theorem ok (n : Nat) : (pfn n).Ok Go.Proofs.Try.prog 28 :=
  mkFn_ok (fn := Go.Proofs.Try.f28) (code := code) Go.Proofs.Try.func28 (by kernel_rfl) (by decide) (C := cfg) (Φ := pick (cal n)) (Λ := lam n) (into := into) hT (cal_ok n) (by kernel_rfl) rfl (by decide) rfl (fun _ => rfl) (loops n)
    (fun x r h => by
      have e := F_eq n x.1.1 x.1.2.1 x.1.2.2.1 x.2.1
      exact e.symm.trans h)
end spec_WinRound
end
/-! ### loop.example/g01158/impl.nodeRounds -/
section
namespace impl_nodeRounds
noncomputable def code : Code := (Go.Proofs.Try.f64.body).getD .skip
abbrev shp : Shape := [(0, .agg [.int .i64, .row (.t3) false, .row (.int .i64) false]), (1, .one (.int .i64))]
abbrev outs : List KD := [.one (.row (.int .i64) true)]
abbrev R : Type := (List (Int))
def out : R → denL outs := fun r => (r, ())
def into : denL outs → R := fun y => y.1
def cfg : Cfg := ⟨ty, 43, [], fun i => match Nat.beq i 2 with | true => .loop | false => match Nat.beq i 0 with | true => .loop | false => .plain, fun _ => none⟩
def cal (n : Nat) : List (Nat × PFn) := [(55, impl_members.pfn n), (66, impl_rounds.pfn n)]
theorem cal_ok (n : Nat) : ∀ g, (pick (cal n) g).Ok Go.Proofs.Try.prog g := pick_ok (by
  intro p hp
  simp only [cal, List.mem_cons, List.not_mem_nil, or_false] at hp
  rcases hp with rfl | rfl
  · exact impl_members.ok n
  · exact impl_rounds.ok n)
def fin : St → Option R := finOf ty [.tmp 4] outs into
abbrev sin2 : Shape := [(5, .one (.row (.int .i64) true)), (6, .one (.int .i64)), (15, .one (.row (.p2) true)), (16, .one (.int .i64)), (17, .one (.int .i64)), (24, .one (.row (.int .i64) true)), (25, .one (.int .i64)), (26, .one (.int .i64))]
abbrev sout2 : Shape := [(5, .one (.row (.int .i64) true)), (15, .one (.row (.p2) true)), (16, .one (.int .i64)), (17, .one (.int .i64))]
abbrev sin0 : Shape := [(5, .one (.row (.int .i64) true)), (15, .one (.row (.p2) true)), (16, .one (.int .i64)), (17, .one (.int .i64))]
abbrev sout0 : Shape := [(5, .one (.row (.int .i64) true))]
def lam (n : Nat) : Nat → (St → Option R) → St → Option R := fun i => match Nat.beq i 2 with | true => (fun K st => match absSt sin2 st with | some (x, _) => impl_nodeRounds.l2 n (fun y0 y1 y2 y3 => K (mkSt sout2 (y0, y1, y2, y3, ()))) n x.1 x.2.1 x.2.2.1 x.2.2.2.1 x.2.2.2.2.1 x.2.2.2.2.2.1 x.2.2.2.2.2.2.1 x.2.2.2.2.2.2.2.1 | none => none) | false => match Nat.beq i 0 with | true => (fun K st => match absSt sin0 st with | some (x, _) => impl_nodeRounds.l0 n (fun y0 => K (mkSt sout0 (y0, ()))) n x.1 x.2.1 x.2.2.1 x.2.2.2.1 | none => none) | false => fun _ _ => none
noncomputable def lps : List (Nat × Code) := loopsOf cfg.blk code
noncomputable def b2 : Code := bodyOf lps 2
theorem l2_eq (n : Nat) (K : St → Option R) : ∀ (j : Nat) (x0 : List (Int)) (x1 : Int) (x2 : List (Int × Int)) (x3 : Int) (x4 : Int) (x5 : List (Int)) (x6 : Int) (x7 : Int), impl_nodeRounds.l2 n (fun y0 y1 y2 y3 => K (mkSt sout2 (y0, y1, y2, y3, ()))) j x0 x1 x2 x3 x4 x5 x6 x7 = iter (roundK cfg (pick (cal n)) (lam n) fin 2 b2 sin2 sout2 K) j (mkSt sin2 (x0, x1, x2, x3, x4, x5, x6, x7, ()))
  | 0, _, _, _, _, _, _, _, _ => rfl
  | j + 1, x0, x1, x2, x3, x4, x5, x6, x7 => by
    have ih : impl_nodeRounds.l2 n (fun y0 y1 y2 y3 => K (mkSt sout2 (y0, y1, y2, y3, ()))) j = fun x0 x1 x2 x3 x4 x5 x6 x7 => iter (roundK cfg (pick (cal n)) (lam n) fin 2 b2 sin2 sout2 K) j (mkSt sin2 (x0, x1, x2, x3, x4, x5, x6, x7, ())) := funext fun x0 => funext fun x1 => funext fun x2 => funext fun x3 => funext fun x4 => funext fun x5 => funext fun x6 => funext fun x7 => l2_eq n K j x0 x1 x2 x3 x4 x5 x6 x7
    rw [impl_nodeRounds.l2, ih]
    show _ = roundK cfg (pick (cal n)) (lam n) fin 2 b2 sin2 sout2 K (iter (roundK cfg (pick (cal n)) (lam n) fin 2 b2 sin2 sout2 K) j) (mkSt sin2 (x0, x1, x2, x3, x4, x5, x6, x7, ()))
    kernel_rfl
noncomputable def b0 : Code := bodyOf lps 0
theorem l0_eq (n : Nat) (K : St → Option R) : ∀ (j : Nat) (x0 : List (Int)) (x1 : List (Int × Int)) (x2 : Int) (x3 : Int), impl_nodeRounds.l0 n (fun y0 => K (mkSt sout0 (y0, ()))) j x0 x1 x2 x3 = iter (roundK cfg (pick (cal n)) (lam n) fin 0 b0 sin0 sout0 K) j (mkSt sin0 (x0, x1, x2, x3, ()))
  | 0, _, _, _, _ => rfl
  | j + 1, x0, x1, x2, x3 => by
    have ih : impl_nodeRounds.l0 n (fun y0 => K (mkSt sout0 (y0, ()))) j = fun x0 x1 x2 x3 => iter (roundK cfg (pick (cal n)) (lam n) fin 0 b0 sin0 sout0 K) j (mkSt sin0 (x0, x1, x2, x3, ())) := funext fun x0 => funext fun x1 => funext fun x2 => funext fun x3 => l0_eq n K j x0 x1 x2 x3
    rw [impl_nodeRounds.l0, ih]
    show _ = roundK cfg (pick (cal n)) (lam n) fin 0 b0 sin0 sout0 K (iter (roundK cfg (pick (cal n)) (lam n) fin 0 b0 sin0 sout0 K) j) (mkSt sin0 (x0, x1, x2, x3, ()))
    kernel_rfl
theorem loops (n : Nat) : LoopsOk cfg (pick (cal n)) (lam n) fin (loopsOf cfg.blk code) := by
  have h : loopsOf cfg.blk code = [(0, b0), (2, b2)] := by kernel_rfl
  rw [h]
  intro p hp K st r hr
  simp only [List.mem_cons, List.not_mem_nil, or_false] at hp
  rcases hp with rfl | rfl
  · have hr' : (match absSt sin0 st with | some (x, _) => impl_nodeRounds.l0 n (fun y0 => K (mkSt sout0 (y0, ()))) n x.1 x.2.1 x.2.2.1 x.2.2.2.1 | none => none) = some r := hr
    split at hr'
    · rename_i x es hx
      rw [l0_eq] at hr'
      exact ⟨sin0, sout0, n, x, es, hx, hr'⟩
    · cases hr'
  · have hr' : (match absSt sin2 st with | some (x, _) => impl_nodeRounds.l2 n (fun y0 y1 y2 y3 => K (mkSt sout2 (y0, y1, y2, y3, ()))) n x.1 x.2.1 x.2.2.1 x.2.2.2.1 x.2.2.2.2.1 x.2.2.2.2.2.1 x.2.2.2.2.2.2.1 x.2.2.2.2.2.2.2.1 | none => none) = some r := hr
    split at hr'
    · rename_i x es hx
      rw [l2_eq] at hr'
      exact ⟨sin2, sout2, n, x, es, hx, hr'⟩
    · cases hr'
theorem F_eq (n : Nat) (x0 : Int) (x1 : List (Int × Int × Int)) (x2 : List (Int)) (x3 : Int) : impl_nodeRounds.F n x0 x1 x2 x3 = exK cfg (pick (cal n)) (lam n) fin code (fun _ _ => none) (mkSt shp ((x0, x1, x2, ()), x3, ())) fin := by
  kernel_rfl
def pfn (n : Nat) : PFn := mkFn shp outs (fun x => impl_nodeRounds.F n x.1.1 x.1.2.1 x.1.2.2.1 x.2.1) out
theorem ok (n : Nat) : (pfn n).Ok Go.Proofs.Try.prog 64 :=
  mkFn_ok (fn := Go.Proofs.Try.f64) (code := code) Go.Proofs.Try.func64 (by kernel_rfl) (by decide) (C := cfg) (Φ := pick (cal n)) (Λ := lam n) (into := into) hT (cal_ok n) (by kernel_rfl) rfl (by decide) rfl (fun _ => rfl) (loops n)
    (fun x r h => by
      have e := F_eq n x.1.1 x.1.2.1 x.1.2.2.1 x.2.1
      exact e.symm.trans h)
end impl_nodeRounds
end
end Go.Pf
