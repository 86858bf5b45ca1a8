/- The Go functions of this seat do what their pure functions tell; printed by a program of mine (mach.py). -/
import Derived.Test.YtfgncboicamdjaaGreatDoorProg
import Derived.Test.YtfgncboicamdjaaGreatDoorGwE
import Derived.Test.YtfgncboicamdjaaGreatDoorGwS
import Derived.Test.YtfgncboicamdjaaGreatDoorLayT
import Derived.Test.YtfgncboicamdjaaGreatDoorPure
import Derived.KernelRfl
set_option linter.unusedVariables false
set_option autoImplicit false
set_option maxRecDepth 100000
set_option maxHeartbeats 4000000
namespace Go.Pf
open Go Go.Fx
noncomputable section

def tys : List (Nat × TI) := [(3, ⟨.int .i64, 1, [.int .i64 0], some (.int .i64), false, false⟩),
  (4, ⟨.bool, 1, [.bool false], some (.bool), false, false⟩),
  (5, ⟨.int .u8, 1, [.int .u8 0], some (.int .u8), false, false⟩),
  (9, ⟨.str, 1, [.str ByteArray.empty], some (.str), false, false⟩),
  (22, ⟨.slice 5, 1, [.nil], none, false, false⟩),
  (24, ⟨.slice 60, 1, [.nil], none, false, false⟩),
  (25, ⟨.slice 3, 1, [.nil], none, false, false⟩),
  (27, ⟨.struct [(3, 0), (24, 1), (25, 2)], 3, [.int .i64 0, .nil, .nil], none, false, false⟩),
  (54, ⟨.int .u64, 1, [.int .u64 0], some (.int .u64), false, false⟩),
  (56, ⟨.struct [(22, 0), (3, 1), (54, 2)], 3, [.nil, .int .i64 0, .int .u64 0], none, false, false⟩),
  (60, ⟨.arr 3 3, 3, [.int .i64 0, .int .i64 0, .int .i64 0], some (.t3), false, false⟩),
  (81, ⟨.slice 9, 1, [.nil], none, false, false⟩)]
def ty : Ty := tyOf tys
theorem hT : TyOk Go.Proofs.Tryz.prog ty := tyOf_ok (by kernel_rfl)

/-! ### loop.example/g01158/laws.rBig -/
section
namespace laws_rBig
noncomputable def code : Code := (Go.Proofs.Tryz.f4.body).getD .skip
abbrev shp : Shape := [(0, .one (.row (.int .u8) false))]
abbrev outs : List KD := [.one (.bool)]
abbrev R : Type := Bool
def out : R → denL outs := fun r => (r, ())
def into : denL outs → R := fun y => y.1
def cfg : Cfg := ⟨ty, 6, [], fun _ => .plain, fun _ => none⟩
def cal (n : Nat) : List (Nat × PFn) := []
theorem cal_ok (n : Nat) : ∀ g, (pick (cal n) g).Ok Go.Proofs.Tryz.prog g := pick_ok (by
  intro p hp
  cases hp)
def fin : St → Option R := finOf ty [.tmp 2] outs into
def lam (n : Nat) : Nat → (St → Option R) → St → Option R := fun _ => fun _ _ => none
theorem loops (n : Nat) : LoopsOk cfg (pick (cal n)) (lam n) fin (loopsOf cfg.blk code) := by
  have h : loopsOf cfg.blk code = [] := by kernel_rfl
  rw [h]
  intro p hp
  cases hp
theorem F_eq (n : Nat) (x0 : List (Int)) : laws_rBig.F n x0 = exK cfg (pick (cal n)) (lam n) fin code (fun _ _ => none) (mkSt shp (x0, ())) fin := by
  kernel_rfl
def pfn (n : Nat) : PFn := mkFn shp outs (fun x => laws_rBig.F n x.1) out
theorem ok (n : Nat) : (pfn n).Ok Go.Proofs.Tryz.prog 4 :=
  mkFn_ok (fn := Go.Proofs.Tryz.f4) (code := code) Go.Proofs.Tryz.func4 (by kernel_rfl) (by decide) (C := cfg) (Φ := pick (cal n)) (Λ := lam n) (into := into) hT (cal_ok n) (by kernel_rfl) rfl (by decide) rfl (fun _ => rfl) (loops n)
    (fun x r h => by
      have e := F_eq n x.1
      exact e.symm.trans h)
end laws_rBig
end
/-! ### (*loop.example/g01158/spec.l1Cur).next -/
section
namespace spec_l1Cur_next
noncomputable def code : Code := (Go.Proofs.Tryz.f78.body).getD .skip
abbrev shp : Shape := [(0, .box true [.row (.int .u8) false, .int .i64, .int .u64])]
abbrev outs : List KD := [.one (.int .i64)]
abbrev R : Type := (List (Int)) × Int × Int × Int
abbrev bs : List BK := [.row (.int .u8) false, .int .i64, .int .u64]
abbrev rshp : Shape := []
def out : R → denB bs × denL outs := fun r => ((r.1, r.2.1, r.2.2.1, ()), (r.2.2.2, ()))
def into : denB bs → denL outs → R := fun z y => (z.1, z.2.1, z.2.2.1, y.1)
def cfg : Cfg := ⟨ty, 62, [0], fun _ => .plain, fun i => match Nat.beq i 4 with | true => some [(0, .box true [.row (.int .u8) false, .int .i64, .int .u64]), (3, .one (.int .i64))] | false => none⟩
def cal (n : Nat) : List (Nat × PFn) := []
theorem cal_ok (n : Nat) : ∀ g, (pick (cal n) g).Ok Go.Proofs.Tryz.prog g := pick_ok (by
  intro p hp
  cases hp)
def fin : St → Option R := finBox ty [.tmp 2] bs outs into
def lam (n : Nat) : Nat → (St → Option R) → St → Option R := fun _ => fun _ _ => none
theorem loops (n : Nat) : LoopsOk cfg (pick (cal n)) (lam n) fin (loopsOf cfg.blk code) := by
  have h : loopsOf cfg.blk code = [] := by kernel_rfl
  rw [h]
  intro p hp
  cases hp
theorem F_eq (n : Nat) (x0 : List (Int)) (x1 : Int) (x2 : Int) : spec_l1Cur_next.F n x0 x1 x2 = exK cfg (pick (cal n)) (lam n) fin code (fun _ _ => none) (mkSt shp ((x0, x1, x2, ()), ())) fin := by
  kernel_rfl
def pfn (n : Nat) : PFn := mkBox bs rshp.ks outs (fun x xs => spec_l1Cur_next.F n x.1 x.2.1 x.2.2.1) out
theorem ok (n : Nat) : (pfn n).Ok Go.Proofs.Tryz.prog 78 :=
  mkBox_ok (rshp := rshp) (fn := Go.Proofs.Tryz.f78) (code := code) Go.Proofs.Tryz.func78 (by kernel_rfl) (by decide) (C := cfg) (Φ := pick (cal n)) (Λ := lam n) (into := into) hT (cal_ok n) (by kernel_rfl) rfl (by decide) rfl rfl rfl (by decide) (fun _ _ => rfl) (loops n)
    (fun x xs r h => by
      have e := F_eq n x.1 x.2.1 x.2.2.1
      exact e.symm.trans h)
end spec_l1Cur_next
end
/-! ### (*loop.example/g01158/spec.l1Cur).pick -/
section
namespace spec_l1Cur_pick
noncomputable def code : Code := (Go.Proofs.Tryz.f37.body).getD .skip
abbrev shp : Shape := [(0, .box true [.row (.int .u8) false, .int .i64, .int .u64]), (1, .one (.int .i64))]
abbrev outs : List KD := [.one (.int .i64)]
abbrev R : Type := (List (Int)) × Int × Int × Int
abbrev bs : List BK := [.row (.int .u8) false, .int .i64, .int .u64]
abbrev rshp : Shape := [(1, .one (.int .i64))]
def out : R → denB bs × denL outs := fun r => ((r.1, r.2.1, r.2.2.1, ()), (r.2.2.2, ()))
def into : denB bs → denL outs → R := fun z y => (z.1, z.2.1, z.2.2.1, y.1)
def cfg : Cfg := ⟨ty, 20, [0], fun _ => .plain, fun _ => none⟩
def cal (n : Nat) : List (Nat × PFn) := [(78, spec_l1Cur_next.pfn n)]
theorem cal_ok (n : Nat) : ∀ g, (pick (cal n) g).Ok Go.Proofs.Tryz.prog g := pick_ok (by
  intro p hp
  simp only [cal, List.mem_cons, List.not_mem_nil, or_false] at hp
  rcases hp with rfl
  · exact spec_l1Cur_next.ok n)
def fin : St → Option R := finBox ty [.tmp 4] bs outs into
def lam (n : Nat) : Nat → (St → Option R) → St → Option R := fun _ => fun _ _ => none
theorem loops (n : Nat) : LoopsOk cfg (pick (cal n)) (lam n) fin (loopsOf cfg.blk code) := by
  have h : loopsOf cfg.blk code = [] := by kernel_rfl
  rw [h]
  intro p hp
  cases hp
theorem F_eq (n : Nat) (x0 : List (Int)) (x1 : Int) (x2 : Int) (x3 : Int) : spec_l1Cur_pick.F n x0 x1 x2 x3 = exK cfg (pick (cal n)) (lam n) fin code (fun _ _ => none) (mkSt shp ((x0, x1, x2, ()), x3, ())) fin := by
  kernel_rfl
def pfn (n : Nat) : PFn := mkBox bs rshp.ks outs (fun x xs => spec_l1Cur_pick.F n x.1 x.2.1 x.2.2.1 xs.1) out
theorem ok (n : Nat) : (pfn n).Ok Go.Proofs.Tryz.prog 37 :=
  mkBox_ok (rshp := rshp) (fn := Go.Proofs.Tryz.f37) (code := code) Go.Proofs.Tryz.func37 (by kernel_rfl) (by decide) (C := cfg) (Φ := pick (cal n)) (Λ := lam n) (into := into) hT (cal_ok n) (by kernel_rfl) rfl (by decide) rfl rfl rfl (by decide) (fun _ _ => rfl) (loops n)
    (fun x xs r h => by
      have e := F_eq n x.1 x.2.1 x.2.2.1 xs.1
      exact e.symm.trans h)
end spec_l1Cur_pick
end
/-! ### (*loop.example/g01158/spec.l1Cur).among -/
section
namespace spec_l1Cur_among
noncomputable def code : Code := (Go.Proofs.Tryz.f61.body).getD .skip
abbrev shp : Shape := [(0, .box true [.row (.int .u8) false, .int .i64, .int .u64]), (1, .one (.row (.int .i64) false))]
abbrev outs : List KD := [.one (.int .i64)]
abbrev R : Type := (List (Int)) × Int × Int × Int
abbrev bs : List BK := [.row (.int .u8) false, .int .i64, .int .u64]
abbrev rshp : Shape := [(1, .one (.row (.int .i64) false))]
def out : R → denB bs × denL outs := fun r => ((r.1, r.2.1, r.2.2.1, ()), (r.2.2.2, ()))
def into : denB bs → denL outs → R := fun z y => (z.1, z.2.1, z.2.2.1, y.1)
def cfg : Cfg := ⟨ty, 12, [0], fun _ => .plain, fun _ => none⟩
def cal (n : Nat) : List (Nat × PFn) := [(37, spec_l1Cur_pick.pfn n)]
theorem cal_ok (n : Nat) : ∀ g, (pick (cal n) g).Ok Go.Proofs.Tryz.prog g := pick_ok (by
  intro p hp
  simp only [cal, List.mem_cons, List.not_mem_nil, or_false] at hp
  rcases hp with rfl
  · exact spec_l1Cur_pick.ok n)
def fin : St → Option R := finBox ty [.tmp 4] bs outs into
def lam (n : Nat) : Nat → (St → Option R) → St → Option R := fun _ => fun _ _ => none
theorem loops (n : Nat) : LoopsOk cfg (pick (cal n)) (lam n) fin (loopsOf cfg.blk code) := by
  have h : loopsOf cfg.blk code = [] := by kernel_rfl
  rw [h]
  intro p hp
  cases hp
theorem F_eq (n : Nat) (x0 : List (Int)) (x1 : Int) (x2 : Int) (x3 : List (Int)) : spec_l1Cur_among.F n x0 x1 x2 x3 = exK cfg (pick (cal n)) (lam n) fin code (fun _ _ => none) (mkSt shp ((x0, x1, x2, ()), x3, ())) fin := by
  kernel_rfl
def pfn (n : Nat) : PFn := mkBox bs rshp.ks outs (fun x xs => spec_l1Cur_among.F n x.1 x.2.1 x.2.2.1 xs.1) out
theorem ok (n : Nat) : (pfn n).Ok Go.Proofs.Tryz.prog 61 :=
  mkBox_ok (rshp := rshp) (fn := Go.Proofs.Tryz.f61) (code := code) Go.Proofs.Tryz.func61 (by kernel_rfl) (by decide) (C := cfg) (Φ := pick (cal n)) (Λ := lam n) (into := into) hT (cal_ok n) (by kernel_rfl) rfl (by decide) rfl rfl rfl (by decide) (fun _ _ => rfl) (loops n)
    (fun x xs r h => by
      have e := F_eq n x.1 x.2.1 x.2.2.1 xs.1
      exact e.symm.trans h)
end spec_l1Cur_among
end
/-! ### (*loop.example/g01158/spec.l1Cur).one -/
section
namespace spec_l1Cur_one
noncomputable def code : Code := (Go.Proofs.Tryz.f36.body).getD .skip
abbrev shp : Shape := [(0, .box true [.row (.int .u8) false, .int .i64, .int .u64]), (1, .one (.int .i64))]
abbrev outs : List KD := [.one (.bool)]
abbrev R : Type := (List (Int)) × Int × Int × Bool
abbrev bs : List BK := [.row (.int .u8) false, .int .i64, .int .u64]
abbrev rshp : Shape := [(1, .one (.int .i64))]
def out : R → denB bs × denL outs := fun r => ((r.1, r.2.1, r.2.2.1, ()), (r.2.2.2, ()))
def into : denB bs → denL outs → R := fun z y => (z.1, z.2.1, z.2.2.1, y.1)
def cfg : Cfg := ⟨ty, 9, [0], fun _ => .plain, fun _ => none⟩
def cal (n : Nat) : List (Nat × PFn) := [(37, spec_l1Cur_pick.pfn n)]
theorem cal_ok (n : Nat) : ∀ g, (pick (cal n) g).Ok Go.Proofs.Tryz.prog g := pick_ok (by
  intro p hp
  simp only [cal, List.mem_cons, List.not_mem_nil, or_false] at hp
  rcases hp with rfl
  · exact spec_l1Cur_pick.ok n)
def fin : St → Option R := finBox ty [.tmp 4] bs outs into
def lam (n : Nat) : Nat → (St → Option R) → St → Option R := fun _ => fun _ _ => none
theorem loops (n : Nat) : LoopsOk cfg (pick (cal n)) (lam n) fin (loopsOf cfg.blk code) := by
  have h : loopsOf cfg.blk code = [] := by kernel_rfl
  rw [h]
  intro p hp
  cases hp
theorem F_eq (n : Nat) (x0 : List (Int)) (x1 : Int) (x2 : Int) (x3 : Int) : spec_l1Cur_one.F n x0 x1 x2 x3 = exK cfg (pick (cal n)) (lam n) fin code (fun _ _ => none) (mkSt shp ((x0, x1, x2, ()), x3, ())) fin := by
  kernel_rfl
def pfn (n : Nat) : PFn := mkBox bs rshp.ks outs (fun x xs => spec_l1Cur_one.F n x.1 x.2.1 x.2.2.1 xs.1) out
theorem ok (n : Nat) : (pfn n).Ok Go.Proofs.Tryz.prog 36 :=
  mkBox_ok (rshp := rshp) (fn := Go.Proofs.Tryz.f36) (code := code) Go.Proofs.Tryz.func36 (by kernel_rfl) (by decide) (C := cfg) (Φ := pick (cal n)) (Λ := lam n) (into := into) hT (cal_ok n) (by kernel_rfl) rfl (by decide) rfl rfl rfl (by decide) (fun _ _ => rfl) (loops n)
    (fun x xs r h => by
      have e := F_eq n x.1 x.2.1 x.2.2.1 xs.1
      exact e.symm.trans h)
end spec_l1Cur_one
end
/-! ### (*loop.example/g01158/spec.l1Cur).few -/
section
namespace spec_l1Cur_few
noncomputable def code : Code := (Go.Proofs.Tryz.f54.body).getD .skip
abbrev shp : Shape := [(0, .box true [.row (.int .u8) false, .int .i64, .int .u64]), (1, .one (.int .i64))]
abbrev outs : List KD := [.one (.int .i64)]
abbrev R : Type := (List (Int)) × Int × Int × Int
abbrev bs : List BK := [.row (.int .u8) false, .int .i64, .int .u64]
abbrev rshp : Shape := [(1, .one (.int .i64))]
def out : R → denB bs × denL outs := fun r => ((r.1, r.2.1, r.2.2.1, ()), (r.2.2.2, ()))
def into : denB bs → denL outs → R := fun z y => (z.1, z.2.1, z.2.2.1, y.1)
def cfg : Cfg := ⟨ty, 21, [0], fun i => match Nat.beq i 0 with | true => .loop | false => .plain, fun _ => none⟩
def cal (n : Nat) : List (Nat × PFn) := [(37, spec_l1Cur_pick.pfn n), (61, spec_l1Cur_among.pfn n)]
theorem cal_ok (n : Nat) : ∀ g, (pick (cal n) g).Ok Go.Proofs.Tryz.prog g := pick_ok (by
  intro p hp
  simp only [cal, List.mem_cons, List.not_mem_nil, or_false] at hp
  rcases hp with rfl | rfl
  · exact spec_l1Cur_pick.ok n
  · exact spec_l1Cur_among.ok n)
def fin : St → Option R := finBox ty [.tmp 4] bs outs into
abbrev sin0 : Shape := [(0, .box true [.row (.int .u8) false, .int .i64, .int .u64]), (1, .one (.int .i64)), (5, .one (.int .i64)), (6, .one (.int .i64))]
abbrev sout0 : Shape := [(0, .box true [.row (.int .u8) false, .int .i64, .int .u64]), (5, .one (.int .i64))]
def lam (n : Nat) : Nat → (St → Option R) → St → Option R := fun i => match Nat.beq i 0 with | true => (fun K st => match absSt sin0 st with | some (x, _) => spec_l1Cur_few.l0 n (fun y0 y1 y2 y3 => K (mkSt sout0 ((y0, y1, y2, ()), y3, ()))) n x.1.1 x.1.2.1 x.1.2.2.1 x.2.1 x.2.2.1 x.2.2.2.1 | none => none) | false => fun _ _ => none
noncomputable def lps : List (Nat × Code) := loopsOf cfg.blk code
noncomputable def b0 : Code := bodyOf lps 0
theorem l0_eq (n : Nat) (K : St → Option R) : ∀ (j : Nat) (x0 : List (Int)) (x1 : Int) (x2 : Int) (x3 : Int) (x4 : Int) (x5 : Int), spec_l1Cur_few.l0 n (fun y0 y1 y2 y3 => K (mkSt sout0 ((y0, y1, y2, ()), y3, ()))) j x0 x1 x2 x3 x4 x5 = iter (roundK cfg (pick (cal n)) (lam n) fin 0 b0 sin0 sout0 K) j (mkSt sin0 ((x0, x1, x2, ()), x3, x4, x5, ()))
  | 0, _, _, _, _, _, _ => rfl
  | j + 1, x0, x1, x2, x3, x4, x5 => by
    have ih : spec_l1Cur_few.l0 n (fun y0 y1 y2 y3 => K (mkSt sout0 ((y0, y1, y2, ()), y3, ()))) j = fun x0 x1 x2 x3 x4 x5 => iter (roundK cfg (pick (cal n)) (lam n) fin 0 b0 sin0 sout0 K) j (mkSt sin0 ((x0, x1, x2, ()), x3, x4, x5, ())) := funext fun x0 => funext fun x1 => funext fun x2 => funext fun x3 => funext fun x4 => funext fun x5 => l0_eq n K j x0 x1 x2 x3 x4 x5
    rw [spec_l1Cur_few.l0, ih]
    show _ = roundK cfg (pick (cal n)) (lam n) fin 0 b0 sin0 sout0 K (iter (roundK cfg (pick (cal n)) (lam n) fin 0 b0 sin0 sout0 K) j) (mkSt sin0 ((x0, x1, x2, ()), x3, x4, x5, ()))
    kernel_rfl
theorem loops (n : Nat) : LoopsOk cfg (pick (cal n)) (lam n) fin (loopsOf cfg.blk code) := by
  have h : loopsOf cfg.blk code = [(0, b0)] := by kernel_rfl
  rw [h]
  intro p hp K st r hr
  simp only [List.mem_cons, List.not_mem_nil, or_false] at hp
  rcases hp with rfl
  · have hr' : (match absSt sin0 st with | some (x, _) => spec_l1Cur_few.l0 n (fun y0 y1 y2 y3 => K (mkSt sout0 ((y0, y1, y2, ()), y3, ()))) n x.1.1 x.1.2.1 x.1.2.2.1 x.2.1 x.2.2.1 x.2.2.2.1 | none => none) = some r := hr
    split at hr'
    · rename_i x es hx
      rw [l0_eq] at hr'
      exact ⟨sin0, sout0, n, x, es, hx, hr'⟩
    · cases hr'
theorem F_eq (n : Nat) (x0 : List (Int)) (x1 : Int) (x2 : Int) (x3 : Int) : spec_l1Cur_few.F n x0 x1 x2 x3 = exK cfg (pick (cal n)) (lam n) fin code (fun _ _ => none) (mkSt shp ((x0, x1, x2, ()), x3, ())) fin := by
  kernel_rfl
def pfn (n : Nat) : PFn := mkBox bs rshp.ks outs (fun x xs => spec_l1Cur_few.F n x.1 x.2.1 x.2.2.1 xs.1) out
theorem ok (n : Nat) : (pfn n).Ok Go.Proofs.Tryz.prog 54 :=
  mkBox_ok (rshp := rshp) (fn := Go.Proofs.Tryz.f54) (code := code) Go.Proofs.Tryz.func54 (by kernel_rfl) (by decide) (C := cfg) (Φ := pick (cal n)) (Λ := lam n) (into := into) hT (cal_ok n) (by kernel_rfl) rfl (by decide) rfl rfl rfl (by decide) (fun _ _ => rfl) (loops n)
    (fun x xs r h => by
      have e := F_eq n x.1 x.2.1 x.2.2.1 xs.1
      exact e.symm.trans h)
end spec_l1Cur_few
end
/-! ### loop.example/g01158/spec.l1Least -/
section
namespace spec_l1Least
noncomputable def code : Code := (Go.Proofs.Tryz.f76.body).getD .skip
abbrev shp : Shape := [(0, .one (.int .i64)), (1, .one (.int .i64))]
abbrev outs : List KD := [.one (.int .i64)]
abbrev R : Type := Int
def out : R → denL outs := fun r => (r, ())
def into : denL outs → R := fun y => y.1
def cfg : Cfg := ⟨ty, 10, [], fun _ => .plain, fun _ => none⟩
def cal (n : Nat) : List (Nat × PFn) := []
theorem cal_ok (n : Nat) : ∀ g, (pick (cal n) g).Ok Go.Proofs.Tryz.prog g := pick_ok (by
  intro p hp
  cases hp)
def fin : St → Option R := finOf ty [.tmp 4] outs into
def lam (n : Nat) : Nat → (St → Option R) → St → Option R := fun _ => fun _ _ => none
theorem loops (n : Nat) : LoopsOk cfg (pick (cal n)) (lam n) fin (loopsOf cfg.blk code) := by
  have h : loopsOf cfg.blk code = [] := by kernel_rfl
  rw [h]
  intro p hp
  cases hp
theorem F_eq (n : Nat) (x0 : Int) (x1 : Int) : spec_l1Least.F n x0 x1 = exK cfg (pick (cal n)) (lam n) fin code (fun _ _ => none) (mkSt shp (x0, x1, ())) fin := by
  kernel_rfl
def pfn (n : Nat) : PFn := mkFn shp outs (fun x => spec_l1Least.F n x.1 x.2.1) out
theorem ok (n : Nat) : (pfn n).Ok Go.Proofs.Tryz.prog 76 :=
  mkFn_ok (fn := Go.Proofs.Tryz.f76) (code := code) Go.Proofs.Tryz.func76 (by kernel_rfl) (by decide) (C := cfg) (Φ := pick (cal n)) (Λ := lam n) (into := into) hT (cal_ok n) (by kernel_rfl) rfl (by decide) rfl (fun _ => rfl) (loops n)
    (fun x r h => by
      have e := F_eq n x.1 x.2.1
      exact e.symm.trans h)
end spec_l1Least
end
/-! ### loop.example/g01158/spec.l1Most -/
section
namespace spec_l1Most
noncomputable def code : Code := (Go.Proofs.Tryz.f75.body).getD .skip
abbrev shp : Shape := [(0, .one (.int .i64)), (1, .one (.int .i64))]
abbrev outs : List KD := [.one (.int .i64)]
abbrev R : Type := Int
def out : R → denL outs := fun r => (r, ())
def into : denL outs → R := fun y => y.1
def cfg : Cfg := ⟨ty, 10, [], fun _ => .plain, fun _ => none⟩
def cal (n : Nat) : List (Nat × PFn) := []
theorem cal_ok (n : Nat) : ∀ g, (pick (cal n) g).Ok Go.Proofs.Tryz.prog g := pick_ok (by
  intro p hp
  cases hp)
def fin : St → Option R := finOf ty [.tmp 4] outs into
def lam (n : Nat) : Nat → (St → Option R) → St → Option R := fun _ => fun _ _ => none
theorem loops (n : Nat) : LoopsOk cfg (pick (cal n)) (lam n) fin (loopsOf cfg.blk code) := by
  have h : loopsOf cfg.blk code = [] := by kernel_rfl
  rw [h]
  intro p hp
  cases hp
theorem F_eq (n : Nat) (x0 : Int) (x1 : Int) : spec_l1Most.F n x0 x1 = exK cfg (pick (cal n)) (lam n) fin code (fun _ _ => none) (mkSt shp (x0, x1, ())) fin := by
  kernel_rfl
def pfn (n : Nat) : PFn := mkFn shp outs (fun x => spec_l1Most.F n x.1 x.2.1) out
theorem ok (n : Nat) : (pfn n).Ok Go.Proofs.Tryz.prog 75 :=
  mkFn_ok (fn := Go.Proofs.Tryz.f75) (code := code) Go.Proofs.Tryz.func75 (by kernel_rfl) (by decide) (C := cfg) (Φ := pick (cal n)) (Λ := lam n) (into := into) hT (cal_ok n) (by kernel_rfl) rfl (by decide) rfl (fun _ => rfl) (loops n)
    (fun x r h => by
      have e := F_eq n x.1 x.2.1
      exact e.symm.trans h)
end spec_l1Most
end
/-! ### loop.example/g01158/spec.l2Before -/
section
namespace spec_l2Before
noncomputable def code : Code := (Go.Proofs.Tryz.f77.body).getD .skip
abbrev shp : Shape := [(0, .agg [.int .i64, .int .i64, .int .i64]), (1, .agg [.int .i64, .int .i64, .int .i64])]
abbrev outs : List KD := [.one (.bool)]
abbrev R : Type := Bool
def out : R → denL outs := fun r => (r, ())
def into : denL outs → R := fun y => y.1
def cfg : Cfg := ⟨ty, 24, [], fun i => match Nat.beq i 0 with | true => .unroll 4 | false => .plain, fun _ => none⟩
def cal (n : Nat) : List (Nat × PFn) := []
theorem cal_ok (n : Nat) : ∀ g, (pick (cal n) g).Ok Go.Proofs.Tryz.prog g := pick_ok (by
  intro p hp
  cases hp)
def fin : St → Option R := finOf ty [.tmp 4] outs into
def lam (n : Nat) : Nat → (St → Option R) → St → Option R := fun _ => fun _ _ => none
theorem loops (n : Nat) : LoopsOk cfg (pick (cal n)) (lam n) fin (loopsOf cfg.blk code) := by
  have h : loopsOf cfg.blk code = [] := by kernel_rfl
  rw [h]
  intro p hp
  cases hp
theorem F_eq (n : Nat) (x0 : Int) (x1 : Int) (x2 : Int) (x3 : Int) (x4 : Int) (x5 : Int) : spec_l2Before.F n x0 x1 x2 x3 x4 x5 = exK cfg (pick (cal n)) (lam n) fin code (fun _ _ => none) (mkSt shp ((x0, x1, x2, ()), (x3, x4, x5, ()), ())) fin := by
  kernel_rfl
def pfn (n : Nat) : PFn := mkFn shp outs (fun x => spec_l2Before.F n x.1.1 x.1.2.1 x.1.2.2.1 x.2.1.1 x.2.1.2.1 x.2.1.2.2.1) out
theorem ok (n : Nat) : (pfn n).Ok Go.Proofs.Tryz.prog 77 :=
  mkFn_ok (fn := Go.Proofs.Tryz.f77) (code := code) Go.Proofs.Tryz.func77 (by kernel_rfl) (by decide) (C := cfg) (Φ := pick (cal n)) (Λ := lam n) (into := into) hT (cal_ok n) (by kernel_rfl) rfl (by decide) rfl (fun _ => rfl) (loops n)
    (fun x r h => by
      have e := F_eq n x.1.1 x.1.2.1 x.1.2.2.1 x.2.1.1 x.2.1.2.1 x.2.1.2.2.1
      exact e.symm.trans h)
end spec_l2Before
end
/-! ### loop.example/g01158/spec.l2Put -/
section
namespace spec_l2Put
noncomputable def code : Code := (Go.Proofs.Tryz.f53.body).getD .skip
abbrev shp : Shape := [(0, .one (.row (.t3) true)), (1, .one (.int .i64)), (2, .one (.int .i64)), (3, .one (.int .i64))]
abbrev outs : List KD := [.one (.row (.t3) true)]
abbrev R : Type := (List (Int × Int × Int))
def out : R → denL outs := fun r => (r, ())
def into : denL outs → R := fun y => y.1
def cfg : Cfg := ⟨ty, 58, [], fun i => match Nat.beq i 0 with | true => .loop | false => .plain, fun _ => none⟩
def cal (n : Nat) : List (Nat × PFn) := [(75, spec_l1Most.pfn n), (76, spec_l1Least.pfn n), (77, spec_l2Before.pfn n)]
theorem cal_ok (n : Nat) : ∀ g, (pick (cal n) g).Ok Go.Proofs.Tryz.prog g := pick_ok (by
  intro p hp
  simp only [cal, List.mem_cons, List.not_mem_nil, or_false] at hp
  rcases hp with rfl | rfl | rfl
  · exact spec_l1Most.ok n
  · exact spec_l1Least.ok n
  · exact spec_l2Before.ok n)
def fin : St → Option R := finOf ty [.tmp 8] outs into
abbrev sin0 : Shape := [(0, .one (.row (.t3) true)), (9, .box true [.int .i64, .int .i64, .int .i64]), (10, .one (.int .i64))]
abbrev sout0 : Shape := [(0, .one (.row (.t3) true)), (9, .box true [.int .i64, .int .i64, .int .i64]), (10, .one (.int .i64))]
def lam (n : Nat) : Nat → (St → Option R) → St → Option R := fun i => match Nat.beq i 0 with | true => (fun K st => match absSt sin0 st with | some (x, _) => spec_l2Put.l0 n (fun y0 y1 y2 y3 y4 => K (mkSt sout0 (y0, (y1, y2, y3, ()), y4, ()))) n x.1 x.2.1.1 x.2.1.2.1 x.2.1.2.2.1 x.2.2.1 | none => none) | false => fun _ _ => none
noncomputable def lps : List (Nat × Code) := loopsOf cfg.blk code
noncomputable def b0 : Code := bodyOf lps 0
theorem l0_eq (n : Nat) (K : St → Option R) : ∀ (j : Nat) (x0 : List (Int × Int × Int)) (x1 : Int) (x2 : Int) (x3 : Int) (x4 : Int), spec_l2Put.l0 n (fun y0 y1 y2 y3 y4 => K (mkSt sout0 (y0, (y1, y2, y3, ()), y4, ()))) j x0 x1 x2 x3 x4 = iter (roundK cfg (pick (cal n)) (lam n) fin 0 b0 sin0 sout0 K) j (mkSt sin0 (x0, (x1, x2, x3, ()), x4, ()))
  | 0, _, _, _, _, _ => rfl
  | j + 1, x0, x1, x2, x3, x4 => by
    have ih : spec_l2Put.l0 n (fun y0 y1 y2 y3 y4 => K (mkSt sout0 (y0, (y1, y2, y3, ()), y4, ()))) j = fun x0 x1 x2 x3 x4 => iter (roundK cfg (pick (cal n)) (lam n) fin 0 b0 sin0 sout0 K) j (mkSt sin0 (x0, (x1, x2, x3, ()), x4, ())) := funext fun x0 => funext fun x1 => funext fun x2 => funext fun x3 => funext fun x4 => l0_eq n K j x0 x1 x2 x3 x4
    rw [spec_l2Put.l0, ih]
    show _ = roundK cfg (pick (cal n)) (lam n) fin 0 b0 sin0 sout0 K (iter (roundK cfg (pick (cal n)) (lam n) fin 0 b0 sin0 sout0 K) j) (mkSt sin0 (x0, (x1, x2, x3, ()), x4, ()))
    kernel_rfl
theorem loops (n : Nat) : LoopsOk cfg (pick (cal n)) (lam n) fin (loopsOf cfg.blk code) := by
  have h : loopsOf cfg.blk code = [(0, b0)] := by kernel_rfl
  rw [h]
  intro p hp K st r hr
  simp only [List.mem_cons, List.not_mem_nil, or_false] at hp
  rcases hp with rfl
  · have hr' : (match absSt sin0 st with | some (x, _) => spec_l2Put.l0 n (fun y0 y1 y2 y3 y4 => K (mkSt sout0 (y0, (y1, y2, y3, ()), y4, ()))) n x.1 x.2.1.1 x.2.1.2.1 x.2.1.2.2.1 x.2.2.1 | none => none) = some r := hr
    split at hr'
    · rename_i x es hx
      rw [l0_eq] at hr'
      exact ⟨sin0, sout0, n, x, es, hx, hr'⟩
    · cases hr'
theorem F_eq (n : Nat) (x0 : List (Int × Int × Int)) (x1 : Int) (x2 : Int) (x3 : Int) : spec_l2Put.F n x0 x1 x2 x3 = exK cfg (pick (cal n)) (lam n) fin code (fun _ _ => none) (mkSt shp (x0, x1, x2, x3, ())) fin := by
  kernel_rfl
def pfn (n : Nat) : PFn := mkFn shp outs (fun x => spec_l2Put.F n x.1 x.2.1 x.2.2.1 x.2.2.2.1) out
theorem ok (n : Nat) : (pfn n).Ok Go.Proofs.Tryz.prog 53 :=
  mkFn_ok (fn := Go.Proofs.Tryz.f53) (code := code) Go.Proofs.Tryz.func53 (by kernel_rfl) (by decide) (C := cfg) (Φ := pick (cal n)) (Λ := lam n) (into := into) hT (cal_ok n) (by kernel_rfl) rfl (by decide) rfl (fun _ => rfl) (loops n)
    (fun x r h => by
      have e := F_eq n x.1 x.2.1 x.2.2.1 x.2.2.2.1
      exact e.symm.trans h)
end spec_l2Put
end
/-! ### (*loop.example/g01158/spec.l1Cur).someMaze -/
section
namespace spec_l1Cur_someMaze
noncomputable def code : Code := (Go.Proofs.Tryz.f74.body).getD .skip
abbrev shp : Shape := [(0, .box true [.row (.int .u8) false, .int .i64, .int .u64]), (1, .one (.int .i64))]
abbrev outs : List KD := [.agg [.int .i64, .row (.t3) true, .row (.int .i64) true]]
abbrev R : Type := (List (Int)) × Int × Int × Int × (List (Int × Int × Int)) × (List (Int))
abbrev bs : List BK := [.row (.int .u8) false, .int .i64, .int .u64]
abbrev rshp : Shape := [(1, .one (.int .i64))]
def out : R → denB bs × denL outs := fun r => ((r.1, r.2.1, r.2.2.1, ()), ((r.2.2.2.1, r.2.2.2.2.1, r.2.2.2.2.2, ()), ()))
def into : denB bs → denL outs → R := fun z y => (z.1, z.2.1, z.2.2.1, y.1.1, y.1.2.1, y.1.2.2.1)
def cfg : Cfg := ⟨ty, 173, [0], fun i => match Nat.beq i 2 with | true => .loop | false => match Nat.beq i 0 with | true => .loop | false => .plain, fun i => match Nat.beq i 6 with | true => some [(0, .box true [.row (.int .u8) false, .int .i64, .int .u64]), (1, .one (.int .i64)), (4, .box true [.int .i64, .row (.t3) true, .row (.int .i64) true]), (5, .box true [.int .i64, .row (.t3) true, .row (.int .i64) true]), (6, .one (.int .i64)), (7, .one (.int .i64)), (8, .one (.int .i64))] | false => match Nat.beq i 16 with | true => some [(0, .box true [.row (.int .u8) false, .int .i64, .int .u64]), (1, .one (.int .i64)), (4, .box true [.int .i64, .row (.t3) true, .row (.int .i64) true]), (5, .box true [.int .i64, .row (.t3) true, .row (.int .i64) true]), (6, .one (.int .i64))] | false => match Nat.beq i 22 with | true => some [(0, .box true [.row (.int .u8) false, .int .i64, .int .u64]), (4, .box true [.int .i64, .row (.t3) true, .row (.int .i64) true]), (5, .box true [.int .i64, .row (.t3) true, .row (.int .i64) true])] | false => none⟩
def cal (n : Nat) : List (Nat × PFn) := [(36, spec_l1Cur_one.pfn n), (37, spec_l1Cur_pick.pfn n), (53, spec_l2Put.pfn n), (54, spec_l1Cur_few.pfn n), (61, spec_l1Cur_among.pfn n)]
theorem cal_ok (n : Nat) : ∀ g, (pick (cal n) g).Ok Go.Proofs.Tryz.prog g := pick_ok (by
  intro p hp
  simp only [cal, List.mem_cons, List.not_mem_nil, or_false] at hp
  rcases hp with rfl | rfl | rfl | rfl | rfl
  · exact spec_l1Cur_one.ok n
  · exact spec_l1Cur_pick.ok n
  · exact spec_l2Put.ok n
  · exact spec_l1Cur_few.ok n
  · exact spec_l1Cur_among.ok n)
def fin : St → Option R := finBox ty [.cell 4 27] bs outs into
abbrev sin2 : Shape := [(0, .box true [.row (.int .u8) false, .int .i64, .int .u64]), (1, .one (.int .i64)), (4, .box true [.int .i64, .row (.t3) true, .row (.int .i64) true]), (5, .box true [.int .i64, .row (.t3) true, .row (.int .i64) true]), (6, .one (.int .i64)), (11, .one (.int .i64))]
abbrev sout2 : Shape := [(0, .box true [.row (.int .u8) false, .int .i64, .int .u64]), (4, .box true [.int .i64, .row (.t3) true, .row (.int .i64) true]), (5, .box true [.int .i64, .row (.t3) true, .row (.int .i64) true])]
abbrev sin0 : Shape := [(0, .box true [.row (.int .u8) false, .int .i64, .int .u64]), (1, .one (.int .i64)), (4, .box true [.int .i64, .row (.t3) true, .row (.int .i64) true]), (5, .box true [.int .i64, .row (.t3) true, .row (.int .i64) true]), (6, .one (.int .i64)), (7, .one (.int .i64)), (8, .one (.int .i64))]
abbrev sout0 : Shape := [(0, .box true [.row (.int .u8) false, .int .i64, .int .u64]), (1, .one (.int .i64)), (4, .box true [.int .i64, .row (.t3) true, .row (.int .i64) true]), (5, .box true [.int .i64, .row (.t3) true, .row (.int .i64) true]), (6, .one (.int .i64))]
def lam (n : Nat) : Nat → (St → Option R) → St → Option R := fun i => match Nat.beq i 2 with | true => (fun K st => match absSt sin2 st with | some (x, _) => spec_l1Cur_someMaze.l2 n (fun y0 y1 y2 y3 y4 y5 y6 y7 y8 => K (mkSt sout2 ((y0, y1, y2, ()), (y3, y4, y5, ()), (y6, y7, y8, ()), ()))) n x.1.1 x.1.2.1 x.1.2.2.1 x.2.1 x.2.2.1.1 x.2.2.1.2.1 x.2.2.1.2.2.1 x.2.2.2.1.1 x.2.2.2.1.2.1 x.2.2.2.1.2.2.1 x.2.2.2.2.1 x.2.2.2.2.2.1 | none => none) | false => match Nat.beq i 0 with | true => (fun K st => match absSt sin0 st with | some (x, _) => spec_l1Cur_someMaze.l0 n (fun y0 y1 y2 y3 y4 y5 y6 y7 y8 y9 y10 => K (mkSt sout0 ((y0, y1, y2, ()), y3, (y4, y5, y6, ()), (y7, y8, y9, ()), y10, ()))) n x.1.1 x.1.2.1 x.1.2.2.1 x.2.1 x.2.2.1.1 x.2.2.1.2.1 x.2.2.1.2.2.1 x.2.2.2.1.1 x.2.2.2.1.2.1 x.2.2.2.1.2.2.1 x.2.2.2.2.1 x.2.2.2.2.2.1 x.2.2.2.2.2.2.1 | none => none) | false => fun _ _ => none
noncomputable def lps : List (Nat × Code) := loopsOf cfg.blk code
noncomputable def b2 : Code := bodyOf lps 2
theorem l2_eq (n : Nat) (K : St → Option R) : ∀ (j : Nat) (x0 : List (Int)) (x1 : Int) (x2 : Int) (x3 : Int) (x4 : Int) (x5 : List (Int × Int × Int)) (x6 : List (Int)) (x7 : Int) (x8 : List (Int × Int × Int)) (x9 : List (Int)) (x10 : Int) (x11 : Int), spec_l1Cur_someMaze.l2 n (fun y0 y1 y2 y3 y4 y5 y6 y7 y8 => K (mkSt sout2 ((y0, y1, y2, ()), (y3, y4, y5, ()), (y6, y7, y8, ()), ()))) j x0 x1 x2 x3 x4 x5 x6 x7 x8 x9 x10 x11 = iter (roundK cfg (pick (cal n)) (lam n) fin 2 b2 sin2 sout2 K) j (mkSt sin2 ((x0, x1, x2, ()), x3, (x4, x5, x6, ()), (x7, x8, x9, ()), x10, x11, ()))
  | 0, _, _, _, _, _, _, _, _, _, _, _, _ => rfl
  | j + 1, x0, x1, x2, x3, x4, x5, x6, x7, x8, x9, x10, x11 => by
    have ih : spec_l1Cur_someMaze.l2 n (fun y0 y1 y2 y3 y4 y5 y6 y7 y8 => K (mkSt sout2 ((y0, y1, y2, ()), (y3, y4, y5, ()), (y6, y7, y8, ()), ()))) j = fun x0 x1 x2 x3 x4 x5 x6 x7 x8 x9 x10 x11 => iter (roundK cfg (pick (cal n)) (lam n) fin 2 b2 sin2 sout2 K) j (mkSt sin2 ((x0, x1, x2, ()), x3, (x4, x5, x6, ()), (x7, x8, x9, ()), x10, x11, ())) := funext fun x0 => funext fun x1 => funext fun x2 => funext fun x3 => funext fun x4 => funext fun x5 => funext fun x6 => funext fun x7 => funext fun x8 => funext fun x9 => funext fun x10 => funext fun x11 => l2_eq n K j x0 x1 x2 x3 x4 x5 x6 x7 x8 x9 x10 x11
    rw [spec_l1Cur_someMaze.l2, ih]
    show _ = roundK cfg (pick (cal n)) (lam n) fin 2 b2 sin2 sout2 K (iter (roundK cfg (pick (cal n)) (lam n) fin 2 b2 sin2 sout2 K) j) (mkSt sin2 ((x0, x1, x2, ()), x3, (x4, x5, x6, ()), (x7, x8, x9, ()), x10, x11, ()))
    kernel_rfl
noncomputable def b0 : Code := bodyOf lps 0
theorem l0_eq (n : Nat) (K : St → Option R) : ∀ (j : Nat) (x0 : List (Int)) (x1 : Int) (x2 : Int) (x3 : Int) (x4 : Int) (x5 : List (Int × Int × Int)) (x6 : List (Int)) (x7 : Int) (x8 : List (Int × Int × Int)) (x9 : List (Int)) (x10 : Int) (x11 : Int) (x12 : Int), spec_l1Cur_someMaze.l0 n (fun y0 y1 y2 y3 y4 y5 y6 y7 y8 y9 y10 => K (mkSt sout0 ((y0, y1, y2, ()), y3, (y4, y5, y6, ()), (y7, y8, y9, ()), y10, ()))) j x0 x1 x2 x3 x4 x5 x6 x7 x8 x9 x10 x11 x12 = iter (roundK cfg (pick (cal n)) (lam n) fin 0 b0 sin0 sout0 K) j (mkSt sin0 ((x0, x1, x2, ()), x3, (x4, x5, x6, ()), (x7, x8, x9, ()), x10, x11, x12, ()))
  | 0, _, _, _, _, _, _, _, _, _, _, _, _, _ => rfl
  | j + 1, x0, x1, x2, x3, x4, x5, x6, x7, x8, x9, x10, x11, x12 => by
    have ih : spec_l1Cur_someMaze.l0 n (fun y0 y1 y2 y3 y4 y5 y6 y7 y8 y9 y10 => K (mkSt sout0 ((y0, y1, y2, ()), y3, (y4, y5, y6, ()), (y7, y8, y9, ()), y10, ()))) j = fun x0 x1 x2 x3 x4 x5 x6 x7 x8 x9 x10 x11 x12 => iter (roundK cfg (pick (cal n)) (lam n) fin 0 b0 sin0 sout0 K) j (mkSt sin0 ((x0, x1, x2, ()), x3, (x4, x5, x6, ()), (x7, x8, x9, ()), x10, x11, x12, ())) := funext fun x0 => funext fun x1 => funext fun x2 => funext fun x3 => funext fun x4 => funext fun x5 => funext fun x6 => funext fun x7 => funext fun x8 => funext fun x9 => funext fun x10 => funext fun x11 => funext fun x12 => l0_eq n K j x0 x1 x2 x3 x4 x5 x6 x7 x8 x9 x10 x11 x12
    rw [spec_l1Cur_someMaze.l0, ih]
    show _ = roundK cfg (pick (cal n)) (lam n) fin 0 b0 sin0 sout0 K (iter (roundK cfg (pick (cal n)) (lam n) fin 0 b0 sin0 sout0 K) j) (mkSt sin0 ((x0, x1, x2, ()), x3, (x4, x5, x6, ()), (x7, x8, x9, ()), x10, x11, x12, ()))
    kernel_rfl
theorem loops (n : Nat) : LoopsOk cfg (pick (cal n)) (lam n) fin (loopsOf cfg.blk code) := by
  have h : loopsOf cfg.blk code = [(0, b0), (2, b2)] := by kernel_rfl
  rw [h]
  intro p hp K st r hr
  simp only [List.mem_cons, List.not_mem_nil, or_false] at hp
  rcases hp with rfl | rfl
  · have hr' : (match absSt sin0 st with | some (x, _) => spec_l1Cur_someMaze.l0 n (fun y0 y1 y2 y3 y4 y5 y6 y7 y8 y9 y10 => K (mkSt sout0 ((y0, y1, y2, ()), y3, (y4, y5, y6, ()), (y7, y8, y9, ()), y10, ()))) n x.1.1 x.1.2.1 x.1.2.2.1 x.2.1 x.2.2.1.1 x.2.2.1.2.1 x.2.2.1.2.2.1 x.2.2.2.1.1 x.2.2.2.1.2.1 x.2.2.2.1.2.2.1 x.2.2.2.2.1 x.2.2.2.2.2.1 x.2.2.2.2.2.2.1 | none => none) = some r := hr
    split at hr'
    · rename_i x es hx
      rw [l0_eq] at hr'
      exact ⟨sin0, sout0, n, x, es, hx, hr'⟩
    · cases hr'
  · have hr' : (match absSt sin2 st with | some (x, _) => spec_l1Cur_someMaze.l2 n (fun y0 y1 y2 y3 y4 y5 y6 y7 y8 => K (mkSt sout2 ((y0, y1, y2, ()), (y3, y4, y5, ()), (y6, y7, y8, ()), ()))) n x.1.1 x.1.2.1 x.1.2.2.1 x.2.1 x.2.2.1.1 x.2.2.1.2.1 x.2.2.1.2.2.1 x.2.2.2.1.1 x.2.2.2.1.2.1 x.2.2.2.1.2.2.1 x.2.2.2.2.1 x.2.2.2.2.2.1 | none => none) = some r := hr
    split at hr'
    · rename_i x es hx
      rw [l2_eq] at hr'
      exact ⟨sin2, sout2, n, x, es, hx, hr'⟩
    · cases hr'
noncomputable def code16 : Code := spineAt 4 code
abbrev cut16 : Shape := [(0, .box true [.row (.int .u8) false, .int .i64, .int .u64]), (1, .one (.int .i64)), (4, .box true [.int .i64, .row (.t3) true, .row (.int .i64) true]), (5, .box true [.int .i64, .row (.t3) true, .row (.int .i64) true]), (6, .one (.int .i64))]
noncomputable def code22 : Code := spineAt 1 code16
abbrev cut22 : Shape := [(0, .box true [.row (.int .u8) false, .int .i64, .int .u64]), (4, .box true [.int .i64, .row (.t3) true, .row (.int .i64) true]), (5, .box true [.int .i64, .row (.t3) true, .row (.int .i64) true])]
theorem c22_eq (n : Nat) (x0 : List (Int)) (x1 : Int) (x2 : Int) (x3 : Int) (x4 : List (Int × Int × Int)) (x5 : List (Int)) (x6 : Int) (x7 : List (Int × Int × Int)) (x8 : List (Int)) : spec_l1Cur_someMaze.c22 n x0 x1 x2 x3 x4 x5 x6 x7 x8 = exK cfg (pick (cal n)) (lam n) fin code22 (fun _ _ => none) (mkSt cut22 ((x0, x1, x2, ()), (x3, x4, x5, ()), (x6, x7, x8, ()), ())) fin := by
  kernel_rfl
theorem c16_seg (n : Nat) (x0 : List (Int)) (x1 : Int) (x2 : Int) (x3 : Int) (x4 : Int) (x5 : List (Int × Int × Int)) (x6 : List (Int)) (x7 : Int) (x8 : List (Int × Int × Int)) (x9 : List (Int)) (x10 : Int) : spec_l1Cur_someMaze.c16 n x0 x1 x2 x3 x4 x5 x6 x7 x8 x9 x10 = exSeg cfg (pick (cal n)) (lam n) fin (fun _ _ => none) cut22 (fun x => spec_l1Cur_someMaze.c22 n x.1.1 x.1.2.1 x.1.2.2.1 x.2.1.1 x.2.1.2.1 x.2.1.2.2.1 x.2.2.1.1 x.2.2.1.2.1 x.2.2.1.2.2.1) 0 code16 (mkSt cut16 ((x0, x1, x2, ()), x3, (x4, x5, x6, ()), (x7, x8, x9, ()), x10, ())) := by
  kernel_rfl
theorem c16_eq (n : Nat) (x0 : List (Int)) (x1 : Int) (x2 : Int) (x3 : Int) (x4 : Int) (x5 : List (Int × Int × Int)) (x6 : List (Int)) (x7 : Int) (x8 : List (Int × Int × Int)) (x9 : List (Int)) (x10 : Int) : spec_l1Cur_someMaze.c16 n x0 x1 x2 x3 x4 x5 x6 x7 x8 x9 x10 = exK cfg (pick (cal n)) (lam n) fin code16 (fun _ _ => none) (mkSt cut16 ((x0, x1, x2, ()), x3, (x4, x5, x6, ()), (x7, x8, x9, ()), x10, ())) fin := 
  (c16_seg n x0 x1 x2 x3 x4 x5 x6 x7 x8 x9 x10).trans (seg_eq 0 (by kernel_rfl) rfl (by kernel_rfl) (fun x => c22_eq n x.1.1 x.1.2.1 x.1.2.2.1 x.2.1.1 x.2.1.2.1 x.2.1.2.2.1 x.2.2.1.1 x.2.2.1.2.1 x.2.2.1.2.2.1))
theorem F_seg (n : Nat) (x0 : List (Int)) (x1 : Int) (x2 : Int) (x3 : Int) : spec_l1Cur_someMaze.F n x0 x1 x2 x3 = exSeg cfg (pick (cal n)) (lam n) fin (fun _ _ => none) cut16 (fun x => spec_l1Cur_someMaze.c16 n x.1.1 x.1.2.1 x.1.2.2.1 x.2.1 x.2.2.1.1 x.2.2.1.2.1 x.2.2.1.2.2.1 x.2.2.2.1.1 x.2.2.2.1.2.1 x.2.2.2.1.2.2.1 x.2.2.2.2.1) 3 code (mkSt shp ((x0, x1, x2, ()), x3, ())) := by
  kernel_rfl
theorem F_eq (n : Nat) (x0 : List (Int)) (x1 : Int) (x2 : Int) (x3 : Int) : spec_l1Cur_someMaze.F n x0 x1 x2 x3 = exK cfg (pick (cal n)) (lam n) fin code (fun _ _ => none) (mkSt shp ((x0, x1, x2, ()), x3, ())) fin :=
  (F_seg n x0 x1 x2 x3).trans (seg_eq 3 (by kernel_rfl) rfl (by kernel_rfl) (fun x => c16_eq n x.1.1 x.1.2.1 x.1.2.2.1 x.2.1 x.2.2.1.1 x.2.2.1.2.1 x.2.2.1.2.2.1 x.2.2.2.1.1 x.2.2.2.1.2.1 x.2.2.2.1.2.2.1 x.2.2.2.2.1))
def pfn (n : Nat) : PFn := mkBox bs rshp.ks outs (fun x xs => spec_l1Cur_someMaze.F n x.1 x.2.1 x.2.2.1 xs.1) out
theorem ok (n : Nat) : (pfn n).Ok Go.Proofs.Tryz.prog 74 :=
  mkBox_ok (rshp := rshp) (fn := Go.Proofs.Tryz.f74) (code := code) Go.Proofs.Tryz.func74 (by kernel_rfl) (by decide) (C := cfg) (Φ := pick (cal n)) (Λ := lam n) (into := into) hT (cal_ok n) (by kernel_rfl) rfl (by decide) rfl rfl rfl (by decide) (fun _ _ => rfl) (loops n)
    (fun x xs r h => by
      have e := F_eq n x.1 x.2.1 x.2.2.1 xs.1
      exact e.symm.trans h)
end spec_l1Cur_someMaze
end
/-! ### (*loop.example/g01158/spec.l1Cur).maze -/
section
namespace spec_l1Cur_maze
noncomputable def code : Code := (Go.Proofs.Tryz.f33.body).getD .skip
abbrev shp : Shape := [(0, .box true [.row (.int .u8) false, .int .i64, .int .u64])]
abbrev outs : List KD := [.agg [.int .i64, .row (.t3) true, .row (.int .i64) true]]
abbrev R : Type := (List (Int)) × Int × Int × Int × (List (Int × Int × Int)) × (List (Int))
abbrev bs : List BK := [.row (.int .u8) false, .int .i64, .int .u64]
abbrev rshp : Shape := []
def out : R → denB bs × denL outs := fun r => ((r.1, r.2.1, r.2.2.1, ()), ((r.2.2.2.1, r.2.2.2.2.1, r.2.2.2.2.2, ()), ()))
def into : denB bs → denL outs → R := fun z y => (z.1, z.2.1, z.2.2.1, y.1.1, y.1.2.1, y.1.2.2.1)
def cfg : Cfg := ⟨ty, 8, [0], fun _ => .plain, fun _ => none⟩
def cal (n : Nat) : List (Nat × PFn) := [(61, spec_l1Cur_among.pfn n), (74, spec_l1Cur_someMaze.pfn n)]
theorem cal_ok (n : Nat) : ∀ g, (pick (cal n) g).Ok Go.Proofs.Tryz.prog g := pick_ok (by
  intro p hp
  simp only [cal, List.mem_cons, List.not_mem_nil, or_false] at hp
  rcases hp with rfl | rfl
  · exact spec_l1Cur_among.ok n
  · exact spec_l1Cur_someMaze.ok n)
def fin : St → Option R := finBox ty [.cell 2 27] bs outs into
def lam (n : Nat) : Nat → (St → Option R) → St → Option R := fun _ => fun _ _ => none
theorem loops (n : Nat) : LoopsOk cfg (pick (cal n)) (lam n) fin (loopsOf cfg.blk code) := by
  have h : loopsOf cfg.blk code = [] := by kernel_rfl
  rw [h]
  intro p hp
  cases hp
theorem F_eq (n : Nat) (x0 : List (Int)) (x1 : Int) (x2 : Int) : spec_l1Cur_maze.F n x0 x1 x2 = exK cfg (pick (cal n)) (lam n) fin code (fun _ _ => none) (mkSt shp ((x0, x1, x2, ()), ())) fin := by
  kernel_rfl
def pfn (n : Nat) : PFn := mkBox bs rshp.ks outs (fun x xs => spec_l1Cur_maze.F n x.1 x.2.1 x.2.2.1) out
theorem ok (n : Nat) : (pfn n).Ok Go.Proofs.Tryz.prog 33 :=
  mkBox_ok (rshp := rshp) (fn := Go.Proofs.Tryz.f33) (code := code) Go.Proofs.Tryz.func33 (by kernel_rfl) (by decide) (C := cfg) (Φ := pick (cal n)) (Λ := lam n) (into := into) hT (cal_ok n) (by kernel_rfl) rfl (by decide) rfl rfl rfl (by decide) (fun _ _ => rfl) (loops n)
    (fun x xs r h => by
      have e := F_eq n x.1 x.2.1 x.2.2.1
      exact e.symm.trans h)
end spec_l1Cur_maze
end
/-! ### (*loop.example/g01158/spec.l1Cur).nodeOf -/
section
namespace spec_l1Cur_nodeOf
noncomputable def code : Code := (Go.Proofs.Tryz.f34.body).getD .skip
abbrev shp : Shape := [(0, .box true [.row (.int .u8) false, .int .i64, .int .u64]), (1, .agg [.int .i64, .row (.t3) false, .row (.int .i64) false])]
abbrev outs : List KD := [.one (.int .i64)]
abbrev R : Type := (List (Int)) × Int × Int × Int
abbrev bs : List BK := [.row (.int .u8) false, .int .i64, .int .u64]
abbrev rshp : Shape := [(1, .agg [.int .i64, .row (.t3) false, .row (.int .i64) false])]
def out : R → denB bs × denL outs := fun r => ((r.1, r.2.1, r.2.2.1, ()), (r.2.2.2, ()))
def into : denB bs → denL outs → R := fun z y => (z.1, z.2.1, z.2.2.1, y.1)
def cfg : Cfg := ⟨ty, 18, [0], fun _ => .plain, fun _ => none⟩
def cal (n : Nat) : List (Nat × PFn) := [(36, spec_l1Cur_one.pfn n), (37, spec_l1Cur_pick.pfn n), (61, spec_l1Cur_among.pfn n), (75, spec_l1Most.pfn n), (76, spec_l1Least.pfn n)]
theorem cal_ok (n : Nat) : ∀ g, (pick (cal n) g).Ok Go.Proofs.Tryz.prog g := pick_ok (by
  intro p hp
  simp only [cal, List.mem_cons, List.not_mem_nil, or_false] at hp
  rcases hp with rfl | rfl | rfl | rfl | rfl
  · exact spec_l1Cur_one.ok n
  · exact spec_l1Cur_pick.ok n
  · exact spec_l1Cur_among.ok n
  · exact spec_l1Most.ok n
  · exact spec_l1Least.ok n)
def fin : St → Option R := finBox ty [.tmp 4] bs outs into
def lam (n : Nat) : Nat → (St → Option R) → St → Option R := fun _ => fun _ _ => none
theorem loops (n : Nat) : LoopsOk cfg (pick (cal n)) (lam n) fin (loopsOf cfg.blk code) := by
  have h : loopsOf cfg.blk code = [] := by kernel_rfl
  rw [h]
  intro p hp
  cases hp
theorem F_eq (n : Nat) (x0 : List (Int)) (x1 : Int) (x2 : Int) (x3 : Int) (x4 : List (Int × Int × Int)) (x5 : List (Int)) : spec_l1Cur_nodeOf.F n x0 x1 x2 x3 x4 x5 = exK cfg (pick (cal n)) (lam n) fin code (fun _ _ => none) (mkSt shp ((x0, x1, x2, ()), (x3, x4, x5, ()), ())) fin := by
  kernel_rfl
def pfn (n : Nat) : PFn := mkBox bs rshp.ks outs (fun x xs => spec_l1Cur_nodeOf.F n x.1 x.2.1 x.2.2.1 xs.1.1 xs.1.2.1 xs.1.2.2.1) out
theorem ok (n : Nat) : (pfn n).Ok Go.Proofs.Tryz.prog 34 :=
  mkBox_ok (rshp := rshp) (fn := Go.Proofs.Tryz.f34) (code := code) Go.Proofs.Tryz.func34 (by kernel_rfl) (by decide) (C := cfg) (Φ := pick (cal n)) (Λ := lam n) (into := into) hT (cal_ok n) (by kernel_rfl) rfl (by decide) rfl rfl rfl (by decide) (fun _ _ => rfl) (loops n)
    (fun x xs r h => by
      have e := F_eq n x.1 x.2.1 x.2.2.1 xs.1.1 xs.1.2.1 xs.1.2.2.1
      exact e.symm.trans h)
end spec_l1Cur_nodeOf
end
/-! ### loop.example/g01158/spec.l1In -/
section
namespace spec_l1In
noncomputable def code : Code := (Go.Proofs.Tryz.f62.body).getD .skip
abbrev shp : Shape := [(0, .one (.int .i64)), (1, .one (.int .i64)), (2, .one (.int .i64))]
abbrev outs : List KD := [.one (.bool)]
abbrev R : Type := Bool
def out : R → denL outs := fun r => (r, ())
def into : denL outs → R := fun y => y.1
def cfg : Cfg := ⟨ty, 15, [], fun _ => .plain, fun _ => none⟩
def cal (n : Nat) : List (Nat × PFn) := []
theorem cal_ok (n : Nat) : ∀ g, (pick (cal n) g).Ok Go.Proofs.Tryz.prog g := pick_ok (by
  intro p hp
  cases hp)
def fin : St → Option R := finOf ty [.tmp 6] outs into
def lam (n : Nat) : Nat → (St → Option R) → St → Option R := fun _ => fun _ _ => none
theorem loops (n : Nat) : LoopsOk cfg (pick (cal n)) (lam n) fin (loopsOf cfg.blk code) := by
  have h : loopsOf cfg.blk code = [] := by kernel_rfl
  rw [h]
  intro p hp
  cases hp
theorem F_eq (n : Nat) (x0 : Int) (x1 : Int) (x2 : Int) : spec_l1In.F n x0 x1 x2 = exK cfg (pick (cal n)) (lam n) fin code (fun _ _ => none) (mkSt shp (x0, x1, x2, ())) fin := by
  kernel_rfl
def pfn (n : Nat) : PFn := mkFn shp outs (fun x => spec_l1In.F n x.1 x.2.1 x.2.2.1) out
theorem ok (n : Nat) : (pfn n).Ok Go.Proofs.Tryz.prog 62 :=
  mkFn_ok (fn := Go.Proofs.Tryz.f62) (code := code) Go.Proofs.Tryz.func62 (by kernel_rfl) (by decide) (C := cfg) (Φ := pick (cal n)) (Λ := lam n) (into := into) hT (cal_ok n) (by kernel_rfl) rfl (by decide) rfl (fun _ => rfl) (loops n)
    (fun x r h => by
      have e := F_eq n x.1 x.2.1 x.2.2.1
      exact e.symm.trans h)
end spec_l1In
end
/-! ### loop.example/g01158/spec.l2Set -/
section
namespace spec_l2Set
noncomputable def code : Code := (Go.Proofs.Tryz.f43.body).getD .skip
abbrev shp : Shape := [(0, .one (.int .i64))]
abbrev outs : List KD := [.one (.bool)]
abbrev R : Type := Bool
def out : R → denL outs := fun r => (r, ())
def into : denL outs → R := fun y => y.1
def cfg : Cfg := ⟨ty, 5, [], fun _ => .plain, fun _ => none⟩
def cal (n : Nat) : List (Nat × PFn) := [(62, spec_l1In.pfn n)]
theorem cal_ok (n : Nat) : ∀ g, (pick (cal n) g).Ok Go.Proofs.Tryz.prog g := pick_ok (by
  intro p hp
  simp only [cal, List.mem_cons, List.not_mem_nil, or_false] at hp
  rcases hp with rfl
  · exact spec_l1In.ok n)
def fin : St → Option R := finOf ty [.tmp 2] outs into
def lam (n : Nat) : Nat → (St → Option R) → St → Option R := fun _ => fun _ _ => none
theorem loops (n : Nat) : LoopsOk cfg (pick (cal n)) (lam n) fin (loopsOf cfg.blk code) := by
  have h : loopsOf cfg.blk code = [] := by kernel_rfl
  rw [h]
  intro p hp
  cases hp
theorem F_eq (n : Nat) (x0 : Int) : spec_l2Set.F n x0 = exK cfg (pick (cal n)) (lam n) fin code (fun _ _ => none) (mkSt shp (x0, ())) fin := by
  kernel_rfl
def pfn (n : Nat) : PFn := mkFn shp outs (fun x => spec_l2Set.F n x.1) out
theorem ok (n : Nat) : (pfn n).Ok Go.Proofs.Tryz.prog 43 :=
  mkFn_ok (fn := Go.Proofs.Tryz.f43) (code := code) Go.Proofs.Tryz.func43 (by kernel_rfl) (by decide) (C := cfg) (Φ := pick (cal n)) (Λ := lam n) (into := into) hT (cal_ok n) (by kernel_rfl) rfl (by decide) rfl (fun _ => rfl) (loops n)
    (fun x r h => by
      have e := F_eq n x.1
      exact e.symm.trans h)
end spec_l2Set
end
/-! ### loop.example/g01158/spec.l2Maze -/
section
namespace spec_l2Maze
noncomputable def code : Code := (Go.Proofs.Tryz.f35.body).getD .skip
abbrev shp : Shape := [(0, .agg [.int .i64, .row (.t3) false, .row (.int .i64) false])]
abbrev outs : List KD := [.one (.bool)]
abbrev R : Type := Bool
def out : R → denL outs := fun r => (r, ())
def into : denL outs → R := fun y => y.1
def cfg : Cfg := ⟨ty, 89, [], fun i => match Nat.beq i 0 with | true => .loop | false => match Nat.beq i 2 with | true => .loop | false => .plain, fun i => match Nat.beq i 3 with | true => some [(1, .box true [.int .i64, .row (.t3) false, .row (.int .i64) false])] | false => none⟩
def cal (n : Nat) : List (Nat × PFn) := [(43, spec_l2Set.pfn n), (62, spec_l1In.pfn n), (77, spec_l2Before.pfn n)]
theorem cal_ok (n : Nat) : ∀ g, (pick (cal n) g).Ok Go.Proofs.Tryz.prog g := pick_ok (by
  intro p hp
  simp only [cal, List.mem_cons, List.not_mem_nil, or_false] at hp
  rcases hp with rfl | rfl | rfl
  · exact spec_l2Set.ok n
  · exact spec_l1In.ok n
  · exact spec_l2Before.ok n)
def fin : St → Option R := finOf ty [.tmp 2] outs into
abbrev sin0 : Shape := [(1, .box true [.int .i64, .row (.t3) false, .row (.int .i64) false]), (3, .one (.int .i64))]
abbrev sout0 : Shape := [(1, .box true [.int .i64, .row (.t3) false, .row (.int .i64) false])]
abbrev sin2 : Shape := [(1, .box true [.int .i64, .row (.t3) false, .row (.int .i64) false]), (5, .one (.int .i64))]
abbrev sout2 : Shape := []
def lam (n : Nat) : Nat → (St → Option R) → St → Option R := fun i => match Nat.beq i 0 with | true => (fun K st => match absSt sin0 st with | some (x, _) => spec_l2Maze.l0 n (fun y0 y1 y2 => K (mkSt sout0 ((y0, y1, y2, ()), ()))) n x.1.1 x.1.2.1 x.1.2.2.1 x.2.1 | none => none) | false => match Nat.beq i 2 with | true => (fun K st => match absSt sin2 st with | some (x, _) => spec_l2Maze.l2 n (fun _ => K (mkSt sout2 ())) n x.1.1 x.1.2.1 x.1.2.2.1 x.2.1 | none => none) | false => fun _ _ => none
noncomputable def lps : List (Nat × Code) := loopsOf cfg.blk code
noncomputable def b0 : Code := bodyOf lps 0
theorem l0_eq (n : Nat) (K : St → Option R) : ∀ (j : Nat) (x0 : Int) (x1 : List (Int × Int × Int)) (x2 : List (Int)) (x3 : Int), spec_l2Maze.l0 n (fun y0 y1 y2 => K (mkSt sout0 ((y0, y1, y2, ()), ()))) j x0 x1 x2 x3 = iter (roundK cfg (pick (cal n)) (lam n) fin 0 b0 sin0 sout0 K) j (mkSt sin0 ((x0, x1, x2, ()), x3, ()))
  | 0, _, _, _, _ => rfl
  | j + 1, x0, x1, x2, x3 => by
    have ih : spec_l2Maze.l0 n (fun y0 y1 y2 => K (mkSt sout0 ((y0, y1, y2, ()), ()))) j = fun x0 x1 x2 x3 => iter (roundK cfg (pick (cal n)) (lam n) fin 0 b0 sin0 sout0 K) j (mkSt sin0 ((x0, x1, x2, ()), x3, ())) := funext fun x0 => funext fun x1 => funext fun x2 => funext fun x3 => l0_eq n K j x0 x1 x2 x3
    rw [spec_l2Maze.l0, ih]
    show _ = roundK cfg (pick (cal n)) (lam n) fin 0 b0 sin0 sout0 K (iter (roundK cfg (pick (cal n)) (lam n) fin 0 b0 sin0 sout0 K) j) (mkSt sin0 ((x0, x1, x2, ()), x3, ()))
    kernel_rfl
noncomputable def b2 : Code := bodyOf lps 2
theorem l2_eq (n : Nat) (K : St → Option R) : ∀ (j : Nat) (x0 : Int) (x1 : List (Int × Int × Int)) (x2 : List (Int)) (x3 : Int), spec_l2Maze.l2 n (fun _ => K (mkSt sout2 ())) j x0 x1 x2 x3 = iter (roundK cfg (pick (cal n)) (lam n) fin 2 b2 sin2 sout2 K) j (mkSt sin2 ((x0, x1, x2, ()), x3, ()))
  | 0, _, _, _, _ => rfl
  | j + 1, x0, x1, x2, x3 => by
    have ih : spec_l2Maze.l2 n (fun _ => K (mkSt sout2 ())) j = fun x0 x1 x2 x3 => iter (roundK cfg (pick (cal n)) (lam n) fin 2 b2 sin2 sout2 K) j (mkSt sin2 ((x0, x1, x2, ()), x3, ())) := funext fun x0 => funext fun x1 => funext fun x2 => funext fun x3 => l2_eq n K j x0 x1 x2 x3
    rw [spec_l2Maze.l2, ih]
    show _ = roundK cfg (pick (cal n)) (lam n) fin 2 b2 sin2 sout2 K (iter (roundK cfg (pick (cal n)) (lam n) fin 2 b2 sin2 sout2 K) j) (mkSt sin2 ((x0, x1, x2, ()), x3, ()))
    kernel_rfl
theorem loops (n : Nat) : LoopsOk cfg (pick (cal n)) (lam n) fin (loopsOf cfg.blk code) := by
  have h : loopsOf cfg.blk code = [(0, b0), (2, b2)] := by kernel_rfl
  rw [h]
  intro p hp K st r hr
  simp only [List.mem_cons, List.not_mem_nil, or_false] at hp
  rcases hp with rfl | rfl
  · have hr' : (match absSt sin0 st with | some (x, _) => spec_l2Maze.l0 n (fun y0 y1 y2 => K (mkSt sout0 ((y0, y1, y2, ()), ()))) n x.1.1 x.1.2.1 x.1.2.2.1 x.2.1 | none => none) = some r := hr
    split at hr'
    · rename_i x es hx
      rw [l0_eq] at hr'
      exact ⟨sin0, sout0, n, x, es, hx, hr'⟩
    · cases hr'
  · have hr' : (match absSt sin2 st with | some (x, _) => spec_l2Maze.l2 n (fun _ => K (mkSt sout2 ())) n x.1.1 x.1.2.1 x.1.2.2.1 x.2.1 | none => none) = some r := hr
    split at hr'
    · rename_i x es hx
      rw [l2_eq] at hr'
      exact ⟨sin2, sout2, n, x, es, hx, hr'⟩
    · cases hr'
theorem F_eq (n : Nat) (x0 : Int) (x1 : List (Int × Int × Int)) (x2 : List (Int)) : spec_l2Maze.F n x0 x1 x2 = exK cfg (pick (cal n)) (lam n) fin code (fun _ _ => none) (mkSt shp ((x0, x1, x2, ()), ())) fin := by
  kernel_rfl
def pfn (n : Nat) : PFn := mkFn shp outs (fun x => spec_l2Maze.F n x.1.1 x.1.2.1 x.1.2.2.1) out
theorem ok (n : Nat) : (pfn n).Ok Go.Proofs.Tryz.prog 35 :=
  mkFn_ok (fn := Go.Proofs.Tryz.f35) (code := code) Go.Proofs.Tryz.func35 (by kernel_rfl) (by decide) (C := cfg) (Φ := pick (cal n)) (Λ := lam n) (into := into) hT (cal_ok n) (by kernel_rfl) rfl (by decide) rfl (fun _ => rfl) (loops n)
    (fun x r h => by
      have e := F_eq n x.1.1 x.1.2.1 x.1.2.2.1
      exact e.symm.trans h)
end spec_l2Maze
end
/-! ### (*loop.example/g01158/spec.l1Cur).colours -/
section
namespace spec_l1Cur_colours
noncomputable def code : Code := (Go.Proofs.Tryz.f38.body).getD .skip
abbrev shp : Shape := [(0, .box true [.row (.int .u8) false, .int .i64, .int .u64])]
abbrev outs : List KD := [.one (.int .i64)]
abbrev R : Type := (List (Int)) × Int × Int × Int
abbrev bs : List BK := [.row (.int .u8) false, .int .i64, .int .u64]
abbrev rshp : Shape := []
def out : R → denB bs × denL outs := fun r => ((r.1, r.2.1, r.2.2.1, ()), (r.2.2.2, ()))
def into : denB bs → denL outs → R := fun z y => (z.1, z.2.1, z.2.2.1, y.1)
def cfg : Cfg := ⟨ty, 22, [0], fun i => match Nat.beq i 0 with | true => .loop | false => .plain, fun _ => none⟩
def cal (n : Nat) : List (Nat × PFn) := [(36, spec_l1Cur_one.pfn n), (37, spec_l1Cur_pick.pfn n), (61, spec_l1Cur_among.pfn n)]
theorem cal_ok (n : Nat) : ∀ g, (pick (cal n) g).Ok Go.Proofs.Tryz.prog g := pick_ok (by
  intro p hp
  simp only [cal, List.mem_cons, List.not_mem_nil, or_false] at hp
  rcases hp with rfl | rfl | rfl
  · exact spec_l1Cur_one.ok n
  · exact spec_l1Cur_pick.ok n
  · exact spec_l1Cur_among.ok n)
def fin : St → Option R := finBox ty [.tmp 2] bs outs into
abbrev sin0 : Shape := [(0, .box true [.row (.int .u8) false, .int .i64, .int .u64]), (3, .one (.int .i64)), (4, .one (.int .i64))]
abbrev sout0 : Shape := [(0, .box true [.row (.int .u8) false, .int .i64, .int .u64]), (3, .one (.int .i64))]
def lam (n : Nat) : Nat → (St → Option R) → St → Option R := fun i => match Nat.beq i 0 with | true => (fun K st => match absSt sin0 st with | some (x, _) => spec_l1Cur_colours.l0 n (fun y0 y1 y2 y3 => K (mkSt sout0 ((y0, y1, y2, ()), y3, ()))) n x.1.1 x.1.2.1 x.1.2.2.1 x.2.1 x.2.2.1 | none => none) | false => fun _ _ => none
noncomputable def lps : List (Nat × Code) := loopsOf cfg.blk code
noncomputable def b0 : Code := bodyOf lps 0
theorem l0_eq (n : Nat) (K : St → Option R) : ∀ (j : Nat) (x0 : List (Int)) (x1 : Int) (x2 : Int) (x3 : Int) (x4 : Int), spec_l1Cur_colours.l0 n (fun y0 y1 y2 y3 => K (mkSt sout0 ((y0, y1, y2, ()), y3, ()))) j x0 x1 x2 x3 x4 = iter (roundK cfg (pick (cal n)) (lam n) fin 0 b0 sin0 sout0 K) j (mkSt sin0 ((x0, x1, x2, ()), x3, x4, ()))
  | 0, _, _, _, _, _ => rfl
  | j + 1, x0, x1, x2, x3, x4 => by
    have ih : spec_l1Cur_colours.l0 n (fun y0 y1 y2 y3 => K (mkSt sout0 ((y0, y1, y2, ()), y3, ()))) j = fun x0 x1 x2 x3 x4 => iter (roundK cfg (pick (cal n)) (lam n) fin 0 b0 sin0 sout0 K) j (mkSt sin0 ((x0, x1, x2, ()), x3, x4, ())) := funext fun x0 => funext fun x1 => funext fun x2 => funext fun x3 => funext fun x4 => l0_eq n K j x0 x1 x2 x3 x4
    rw [spec_l1Cur_colours.l0, ih]
    show _ = roundK cfg (pick (cal n)) (lam n) fin 0 b0 sin0 sout0 K (iter (roundK cfg (pick (cal n)) (lam n) fin 0 b0 sin0 sout0 K) j) (mkSt sin0 ((x0, x1, x2, ()), x3, x4, ()))
    kernel_rfl
theorem loops (n : Nat) : LoopsOk cfg (pick (cal n)) (lam n) fin (loopsOf cfg.blk code) := by
  have h : loopsOf cfg.blk code = [(0, b0)] := by kernel_rfl
  rw [h]
  intro p hp K st r hr
  simp only [List.mem_cons, List.not_mem_nil, or_false] at hp
  rcases hp with rfl
  · have hr' : (match absSt sin0 st with | some (x, _) => spec_l1Cur_colours.l0 n (fun y0 y1 y2 y3 => K (mkSt sout0 ((y0, y1, y2, ()), y3, ()))) n x.1.1 x.1.2.1 x.1.2.2.1 x.2.1 x.2.2.1 | none => none) = some r := hr
    split at hr'
    · rename_i x es hx
      rw [l0_eq] at hr'
      exact ⟨sin0, sout0, n, x, es, hx, hr'⟩
    · cases hr'
theorem F_eq (n : Nat) (x0 : List (Int)) (x1 : Int) (x2 : Int) : spec_l1Cur_colours.F n x0 x1 x2 = exK cfg (pick (cal n)) (lam n) fin code (fun _ _ => none) (mkSt shp ((x0, x1, x2, ()), ())) fin := by
  kernel_rfl
def pfn (n : Nat) : PFn := mkBox bs rshp.ks outs (fun x xs => spec_l1Cur_colours.F n x.1 x.2.1 x.2.2.1) out
theorem ok (n : Nat) : (pfn n).Ok Go.Proofs.Tryz.prog 38 :=
  mkBox_ok (rshp := rshp) (fn := Go.Proofs.Tryz.f38) (code := code) Go.Proofs.Tryz.func38 (by kernel_rfl) (by decide) (C := cfg) (Φ := pick (cal n)) (Λ := lam n) (into := into) hT (cal_ok n) (by kernel_rfl) rfl (by decide) rfl rfl rfl (by decide) (fun _ _ => rfl) (loops n)
    (fun x xs r h => by
      have e := F_eq n x.1 x.2.1 x.2.2.1
      exact e.symm.trans h)
end spec_l1Cur_colours
end
/-! ### loop.example/g01158/spec.DrawIsOpenTo -/
section
namespace spec_DrawIsOpenTo
noncomputable def code : Code := (Go.Proofs.Tryz.f5.body).getD .skip
abbrev shp : Shape := [(0, .one (.row (.int .u8) false))]
abbrev outs : List KD := [.agg [.int .i64, .row (.t3) true, .row (.int .i64) true], .one (.int .i64), .one (.int .i64), .one (.int .i64)]
abbrev R : Type := Int × (List (Int × Int × Int)) × (List (Int)) × Int × Int × Int
def out : R → denL outs := fun r => ((r.1, r.2.1, r.2.2.1, ()), r.2.2.2.1, r.2.2.2.2.1, r.2.2.2.2.2, ())
def into : denL outs → R := fun y => (y.1.1, y.1.2.1, y.1.2.2.1, y.2.1, y.2.2.1, y.2.2.2.1)
def cfg : Cfg := ⟨ty, 53, [], fun _ => .plain, fun _ => none⟩
def cal (n : Nat) : List (Nat × PFn) := [(33, spec_l1Cur_maze.pfn n), (34, spec_l1Cur_nodeOf.pfn n), (35, spec_l2Maze.pfn n), (36, spec_l1Cur_one.pfn n), (37, spec_l1Cur_pick.pfn n), (38, spec_l1Cur_colours.pfn n)]
theorem cal_ok (n : Nat) : ∀ g, (pick (cal n) g).Ok Go.Proofs.Tryz.prog g := pick_ok (by
  intro p hp
  simp only [cal, List.mem_cons, List.not_mem_nil, or_false] at hp
  rcases hp with rfl | rfl | rfl | rfl | rfl | rfl
  · exact spec_l1Cur_maze.ok n
  · exact spec_l1Cur_nodeOf.ok n
  · exact spec_l2Maze.ok n
  · exact spec_l1Cur_one.ok n
  · exact spec_l1Cur_pick.ok n
  · exact spec_l1Cur_colours.ok n)
def fin : St → Option R := finOf ty [.cell 2 27, .tmp 3, .tmp 4, .tmp 5] outs into
def lam (n : Nat) : Nat → (St → Option R) → St → Option R := fun _ => fun _ _ => none
theorem loops (n : Nat) : LoopsOk cfg (pick (cal n)) (lam n) fin (loopsOf cfg.blk code) := by
  have h : loopsOf cfg.blk code = [] := by kernel_rfl
  rw [h]
  intro p hp
  cases hp
theorem F_eq (n : Nat) (x0 : List (Int)) : spec_DrawIsOpenTo.F n x0 = exK cfg (pick (cal n)) (lam n) fin code (fun _ _ => none) (mkSt shp (x0, ())) fin := by
  kernel_rfl
def pfn (n : Nat) : PFn := mkFn shp outs (fun x => spec_DrawIsOpenTo.F n x.1) out
theorem ok (n : Nat) : (pfn n).Ok Go.Proofs.Tryz.prog 5 :=
  mkFn_ok (fn := Go.Proofs.Tryz.f5) (code := code) Go.Proofs.Tryz.func5 (by kernel_rfl) (by decide) (C := cfg) (Φ := pick (cal n)) (Λ := lam n) (into := into) hT (cal_ok n) (by kernel_rfl) rfl (by decide) rfl (fun _ => rfl) (loops n)
    (fun x r h => by
      have e := F_eq n x.1
      exact e.symm.trans h)
end spec_DrawIsOpenTo
end
/-! ### loop.example/g01158/impl.within -/
section
namespace impl_within
noncomputable def code : Code := (Go.Proofs.Tryz.f58.body).getD .skip
abbrev shp : Shape := [(0, .one (.int .i64)), (1, .one (.int .i64)), (2, .one (.int .i64))]
abbrev outs : List KD := [.one (.bool)]
abbrev R : Type := Bool
def out : R → denL outs := fun r => (r, ())
def into : denL outs → R := fun y => y.1
def cfg : Cfg := ⟨ty, 15, [], fun _ => .plain, fun _ => none⟩
def cal (n : Nat) : List (Nat × PFn) := []
theorem cal_ok (n : Nat) : ∀ g, (pick (cal n) g).Ok Go.Proofs.Tryz.prog g := pick_ok (by
  intro p hp
  cases hp)
def fin : St → Option R := finOf ty [.tmp 6] outs into
def lam (n : Nat) : Nat → (St → Option R) → St → Option R := fun _ => fun _ _ => none
theorem loops (n : Nat) : LoopsOk cfg (pick (cal n)) (lam n) fin (loopsOf cfg.blk code) := by
  have h : loopsOf cfg.blk code = [] := by kernel_rfl
  rw [h]
  intro p hp
  cases hp
theorem F_eq (n : Nat) (x0 : Int) (x1 : Int) (x2 : Int) : impl_within.F n x0 x1 x2 = exK cfg (pick (cal n)) (lam n) fin code (fun _ _ => none) (mkSt shp (x0, x1, x2, ())) fin := by
  kernel_rfl
def pfn (n : Nat) : PFn := mkFn shp outs (fun x => impl_within.F n x.1 x.2.1 x.2.2.1) out
theorem ok (n : Nat) : (pfn n).Ok Go.Proofs.Tryz.prog 58 :=
  mkFn_ok (fn := Go.Proofs.Tryz.f58) (code := code) Go.Proofs.Tryz.func58 (by kernel_rfl) (by decide) (C := cfg) (Φ := pick (cal n)) (Λ := lam n) (into := into) hT (cal_ok n) (by kernel_rfl) rfl (by decide) rfl (fun _ => rfl) (loops n)
    (fun x r h => by
      have e := F_eq n x.1 x.2.1 x.2.2.1
      exact e.symm.trans h)
end impl_within
end
/-! ### loop.example/g01158/impl.isSet -/
section
namespace impl_isSet
noncomputable def code : Code := (Go.Proofs.Tryz.f40.body).getD .skip
abbrev shp : Shape := [(0, .one (.int .i64))]
abbrev outs : List KD := [.one (.bool)]
abbrev R : Type := Bool
def out : R → denL outs := fun r => (r, ())
def into : denL outs → R := fun y => y.1
def cfg : Cfg := ⟨ty, 5, [], fun _ => .plain, fun _ => none⟩
def cal (n : Nat) : List (Nat × PFn) := [(58, impl_within.pfn n)]
theorem cal_ok (n : Nat) : ∀ g, (pick (cal n) g).Ok Go.Proofs.Tryz.prog g := pick_ok (by
  intro p hp
  simp only [cal, List.mem_cons, List.not_mem_nil, or_false] at hp
  rcases hp with rfl
  · exact impl_within.ok n)
def fin : St → Option R := finOf ty [.tmp 2] outs into
def lam (n : Nat) : Nat → (St → Option R) → St → Option R := fun _ => fun _ _ => none
theorem loops (n : Nat) : LoopsOk cfg (pick (cal n)) (lam n) fin (loopsOf cfg.blk code) := by
  have h : loopsOf cfg.blk code = [] := by kernel_rfl
  rw [h]
  intro p hp
  cases hp
theorem F_eq (n : Nat) (x0 : Int) : impl_isSet.F n x0 = exK cfg (pick (cal n)) (lam n) fin code (fun _ _ => none) (mkSt shp (x0, ())) fin := by
  kernel_rfl
def pfn (n : Nat) : PFn := mkFn shp outs (fun x => impl_isSet.F n x.1) out
theorem ok (n : Nat) : (pfn n).Ok Go.Proofs.Tryz.prog 40 :=
  mkFn_ok (fn := Go.Proofs.Tryz.f40) (code := code) Go.Proofs.Tryz.func40 (by kernel_rfl) (by decide) (C := cfg) (Φ := pick (cal n)) (Λ := lam n) (into := into) hT (cal_ok n) (by kernel_rfl) rfl (by decide) rfl (fun _ => rfl) (loops n)
    (fun x r h => by
      have e := F_eq n x.1
      exact e.symm.trans h)
end impl_isSet
end
/-! ### cmp.isNaN[int] -/
section
namespace cmp_isNaN_int
noncomputable def code : Code := (Go.Proofs.Tryz.f90.body).getD .skip
abbrev shp : Shape := [(0, .one (.int .i64))]
abbrev outs : List KD := [.one (.bool)]
abbrev R : Type := Bool
def out : R → denL outs := fun r => (r, ())
def into : denL outs → R := fun y => y.1
def cfg : Cfg := ⟨ty, 6, [], fun _ => .plain, fun _ => none⟩
def cal (n : Nat) : List (Nat × PFn) := []
theorem cal_ok (n : Nat) : ∀ g, (pick (cal n) g).Ok Go.Proofs.Tryz.prog g := pick_ok (by
  intro p hp
  cases hp)
def fin : St → Option R := finOf ty [.tmp 2] outs into
def lam (n : Nat) : Nat → (St → Option R) → St → Option R := fun _ => fun _ _ => none
theorem loops (n : Nat) : LoopsOk cfg (pick (cal n)) (lam n) fin (loopsOf cfg.blk code) := by
  have h : loopsOf cfg.blk code = [] := by kernel_rfl
  rw [h]
  intro p hp
  cases hp
theorem F_eq (n : Nat) (x0 : Int) : cmp_isNaN_int.F n x0 = exK cfg (pick (cal n)) (lam n) fin code (fun _ _ => none) (mkSt shp (x0, ())) fin := by
  kernel_rfl
def pfn (n : Nat) : PFn := mkFn shp outs (fun x => cmp_isNaN_int.F n x.1) out
theorem ok (n : Nat) : (pfn n).Ok Go.Proofs.Tryz.prog 90 :=
  mkFn_ok (fn := Go.Proofs.Tryz.f90) (code := code) Go.Proofs.Tryz.func90 (by kernel_rfl) (by decide) (C := cfg) (Φ := pick (cal n)) (Λ := lam n) (into := into) hT (cal_ok n) (by kernel_rfl) rfl (by decide) rfl (fun _ => rfl) (loops n)
    (fun x r h => by
      have e := F_eq n x.1
      exact e.symm.trans h)
end cmp_isNaN_int
end
/-! ### cmp.Compare[int] -/
section
namespace cmp_Compare_int
noncomputable def code : Code := (Go.Proofs.Tryz.f84.body).getD .skip
abbrev shp : Shape := [(0, .one (.int .i64)), (1, .one (.int .i64))]
abbrev outs : List KD := [.one (.int .i64)]
abbrev R : Type := Int
def out : R → denL outs := fun r => (r, ())
def into : denL outs → R := fun y => y.1
def cfg : Cfg := ⟨ty, 20, [], fun _ => .plain, fun _ => none⟩
def cal (n : Nat) : List (Nat × PFn) := [(90, cmp_isNaN_int.pfn n)]
theorem cal_ok (n : Nat) : ∀ g, (pick (cal n) g).Ok Go.Proofs.Tryz.prog g := pick_ok (by
  intro p hp
  simp only [cal, List.mem_cons, List.not_mem_nil, or_false] at hp
  rcases hp with rfl
  · exact cmp_isNaN_int.ok n)
def fin : St → Option R := finOf ty [.tmp 4] outs into
def lam (n : Nat) : Nat → (St → Option R) → St → Option R := fun _ => fun _ _ => none
theorem loops (n : Nat) : LoopsOk cfg (pick (cal n)) (lam n) fin (loopsOf cfg.blk code) := by
  have h : loopsOf cfg.blk code = [] := by kernel_rfl
  rw [h]
  intro p hp
  cases hp
theorem F_eq (n : Nat) (x0 : Int) (x1 : Int) : cmp_Compare_int.F n x0 x1 = exK cfg (pick (cal n)) (lam n) fin code (fun _ _ => none) (mkSt shp (x0, x1, ())) fin := by
  kernel_rfl
def pfn (n : Nat) : PFn := mkFn shp outs (fun x => cmp_Compare_int.F n x.1 x.2.1) out
theorem ok (n : Nat) : (pfn n).Ok Go.Proofs.Tryz.prog 84 :=
  mkFn_ok (fn := Go.Proofs.Tryz.f84) (code := code) Go.Proofs.Tryz.func84 (by kernel_rfl) (by decide) (C := cfg) (Φ := pick (cal n)) (Λ := lam n) (into := into) hT (cal_ok n) (by kernel_rfl) rfl (by decide) rfl (fun _ => rfl) (loops n)
    (fun x r h => by
      have e := F_eq n x.1 x.2.1
      exact e.symm.trans h)
end cmp_Compare_int
end
/-! ### cmp.Or[int] -/
section
namespace cmp_Or_int
noncomputable def code : Code := (Go.Proofs.Tryz.f83.body).getD .skip
abbrev shp : Shape := [(0, .one (.row (.int .i64) false))]
abbrev outs : List KD := [.one (.int .i64)]
abbrev R : Type := Int
def out : R → denL outs := fun r => (r, ())
def into : denL outs → R := fun y => y.1
def cfg : Cfg := ⟨ty, 18, [], fun i => match Nat.beq i 0 with | true => .loop | false => .plain, fun _ => none⟩
def cal (n : Nat) : List (Nat × PFn) := []
theorem cal_ok (n : Nat) : ∀ g, (pick (cal n) g).Ok Go.Proofs.Tryz.prog g := pick_ok (by
  intro p hp
  cases hp)
def fin : St → Option R := finOf ty [.tmp 2] outs into
abbrev sin0 : Shape := [(3, .one (.int .i64)), (6, .one (.row (.int .i64) false)), (7, .one (.int .i64)), (8, .one (.int .i64))]
abbrev sout0 : Shape := [(3, .one (.int .i64))]
def lam (n : Nat) : Nat → (St → Option R) → St → Option R := fun i => match Nat.beq i 0 with | true => (fun K st => match absSt sin0 st with | some (x, _) => cmp_Or_int.l0 n (fun y0 => K (mkSt sout0 (y0, ()))) n x.1 x.2.1 x.2.2.1 x.2.2.2.1 | none => none) | false => fun _ _ => none
noncomputable def lps : List (Nat × Code) := loopsOf cfg.blk code
noncomputable def b0 : Code := bodyOf lps 0
theorem l0_eq (n : Nat) (K : St → Option R) : ∀ (j : Nat) (x0 : Int) (x1 : List (Int)) (x2 : Int) (x3 : Int), cmp_Or_int.l0 n (fun y0 => K (mkSt sout0 (y0, ()))) j x0 x1 x2 x3 = iter (roundK cfg (pick (cal n)) (lam n) fin 0 b0 sin0 sout0 K) j (mkSt sin0 (x0, x1, x2, x3, ()))
  | 0, _, _, _, _ => rfl
  | j + 1, x0, x1, x2, x3 => by
    have ih : cmp_Or_int.l0 n (fun y0 => K (mkSt sout0 (y0, ()))) j = fun x0 x1 x2 x3 => iter (roundK cfg (pick (cal n)) (lam n) fin 0 b0 sin0 sout0 K) j (mkSt sin0 (x0, x1, x2, x3, ())) := funext fun x0 => funext fun x1 => funext fun x2 => funext fun x3 => l0_eq n K j x0 x1 x2 x3
    rw [cmp_Or_int.l0, ih]
    show _ = roundK cfg (pick (cal n)) (lam n) fin 0 b0 sin0 sout0 K (iter (roundK cfg (pick (cal n)) (lam n) fin 0 b0 sin0 sout0 K) j) (mkSt sin0 (x0, x1, x2, x3, ()))
    kernel_rfl
theorem loops (n : Nat) : LoopsOk cfg (pick (cal n)) (lam n) fin (loopsOf cfg.blk code) := by
  have h : loopsOf cfg.blk code = [(0, b0)] := by kernel_rfl
  rw [h]
  intro p hp K st r hr
  simp only [List.mem_cons, List.not_mem_nil, or_false] at hp
  rcases hp with rfl
  · have hr' : (match absSt sin0 st with | some (x, _) => cmp_Or_int.l0 n (fun y0 => K (mkSt sout0 (y0, ()))) n x.1 x.2.1 x.2.2.1 x.2.2.2.1 | none => none) = some r := hr
    split at hr'
    · rename_i x es hx
      rw [l0_eq] at hr'
      exact ⟨sin0, sout0, n, x, es, hx, hr'⟩
    · cases hr'
theorem F_eq (n : Nat) (x0 : List (Int)) : cmp_Or_int.F n x0 = exK cfg (pick (cal n)) (lam n) fin code (fun _ _ => none) (mkSt shp (x0, ())) fin := by
  kernel_rfl
def pfn (n : Nat) : PFn := mkFn shp outs (fun x => cmp_Or_int.F n x.1) out
theorem ok (n : Nat) : (pfn n).Ok Go.Proofs.Tryz.prog 83 :=
  mkFn_ok (fn := Go.Proofs.Tryz.f83) (code := code) Go.Proofs.Tryz.func83 (by kernel_rfl) (by decide) (C := cfg) (Φ := pick (cal n)) (Λ := lam n) (into := into) hT (cal_ok n) (by kernel_rfl) rfl (by decide) rfl (fun _ => rfl) (loops n)
    (fun x r h => by
      have e := F_eq n x.1
      exact e.symm.trans h)
end cmp_Or_int
end
/-! ### loop.example/g01158/impl.compareDoors -/
section
namespace impl_compareDoors
noncomputable def code : Code := (Go.Proofs.Tryz.f59.body).getD .skip
abbrev shp : Shape := [(0, .agg [.int .i64, .int .i64, .int .i64]), (1, .agg [.int .i64, .int .i64, .int .i64])]
abbrev outs : List KD := [.one (.int .i64)]
abbrev R : Type := Int
def out : R → denL outs := fun r => (r, ())
def into : denL outs → R := fun y => y.1
def cfg : Cfg := ⟨ty, 22, [], fun _ => .plain, fun _ => none⟩
def cal (n : Nat) : List (Nat × PFn) := [(83, cmp_Or_int.pfn n), (84, cmp_Compare_int.pfn n)]
theorem cal_ok (n : Nat) : ∀ g, (pick (cal n) g).Ok Go.Proofs.Tryz.prog g := pick_ok (by
  intro p hp
  simp only [cal, List.mem_cons, List.not_mem_nil, or_false] at hp
  rcases hp with rfl | rfl
  · exact cmp_Or_int.ok n
  · exact cmp_Compare_int.ok n)
def fin : St → Option R := finOf ty [.tmp 4] outs into
def lam (n : Nat) : Nat → (St → Option R) → St → Option R := fun _ => fun _ _ => none
theorem loops (n : Nat) : LoopsOk cfg (pick (cal n)) (lam n) fin (loopsOf cfg.blk code) := by
  have h : loopsOf cfg.blk code = [] := by kernel_rfl
  rw [h]
  intro p hp
  cases hp
theorem F_eq (n : Nat) (x0 : Int) (x1 : Int) (x2 : Int) (x3 : Int) (x4 : Int) (x5 : Int) : impl_compareDoors.F n x0 x1 x2 x3 x4 x5 = exK cfg (pick (cal n)) (lam n) fin code (fun _ _ => none) (mkSt shp ((x0, x1, x2, ()), (x3, x4, x5, ()), ())) fin := by
  kernel_rfl
def pfn (n : Nat) : PFn := mkFn shp outs (fun x => impl_compareDoors.F n x.1.1 x.1.2.1 x.1.2.2.1 x.2.1.1 x.2.1.2.1 x.2.1.2.2.1) out
theorem ok (n : Nat) : (pfn n).Ok Go.Proofs.Tryz.prog 59 :=
  mkFn_ok (fn := Go.Proofs.Tryz.f59) (code := code) Go.Proofs.Tryz.func59 (by kernel_rfl) (by decide) (C := cfg) (Φ := pick (cal n)) (Λ := lam n) (into := into) hT (cal_ok n) (by kernel_rfl) rfl (by decide) rfl (fun _ => rfl) (loops n)
    (fun x r h => by
      have e := F_eq n x.1.1 x.1.2.1 x.1.2.2.1 x.2.1.1 x.2.1.2.1 x.2.1.2.2.1
      exact e.symm.trans h)
end impl_compareDoors
end
/-! ### loop.example/g01158/impl.IsMaze$1 -/
section
namespace impl_IsMaze_1
noncomputable def code : Code := (Go.Proofs.Tryz.f60.body).getD .skip
abbrev shp : Shape := [(0, .one (.int .i64))]
abbrev outs : List KD := [.one (.bool)]
abbrev R : Type := Bool
def out : R → denL outs := fun r => (r, ())
def into : denL outs → R := fun y => y.1
def cfg : Cfg := ⟨ty, 6, [], fun _ => .plain, fun _ => none⟩
def cal (n : Nat) : List (Nat × PFn) := [(40, impl_isSet.pfn n)]
theorem cal_ok (n : Nat) : ∀ g, (pick (cal n) g).Ok Go.Proofs.Tryz.prog g := pick_ok (by
  intro p hp
  simp only [cal, List.mem_cons, List.not_mem_nil, or_false] at hp
  rcases hp with rfl
  · exact impl_isSet.ok n)
def fin : St → Option R := finOf ty [.tmp 2] outs into
def lam (n : Nat) : Nat → (St → Option R) → St → Option R := fun _ => fun _ _ => none
theorem loops (n : Nat) : LoopsOk cfg (pick (cal n)) (lam n) fin (loopsOf cfg.blk code) := by
  have h : loopsOf cfg.blk code = [] := by kernel_rfl
  rw [h]
  intro p hp
  cases hp
theorem F_eq (n : Nat) (x0 : Int) : impl_IsMaze_1.F n x0 = exK cfg (pick (cal n)) (lam n) fin code (fun _ _ => none) (mkSt shp (x0, ())) fin := by
  kernel_rfl
def pfn (n : Nat) : PFn := mkFn shp outs (fun x => impl_IsMaze_1.F n x.1) out
theorem ok (n : Nat) : (pfn n).Ok Go.Proofs.Tryz.prog 60 :=
  mkFn_ok (fn := Go.Proofs.Tryz.f60) (code := code) Go.Proofs.Tryz.func60 (by kernel_rfl) (by decide) (C := cfg) (Φ := pick (cal n)) (Λ := lam n) (into := into) hT (cal_ok n) (by kernel_rfl) rfl (by decide) rfl (fun _ => rfl) (loops n)
    (fun x r h => by
      have e := F_eq n x.1
      exact e.symm.trans h)
end impl_IsMaze_1
end
/-! ### slices.IndexFunc[[]int,int] -/
section
namespace slices_IndexFunc_int_int_cIsMaze_1
noncomputable def code : Code := (Go.Proofs.Tryz.f80.body).getD .skip
abbrev shp : Shape := [(0, .one (.row (.int .i64) false)), (1, .fn 60 [])]
abbrev outs : List KD := [.one (.int .i64)]
abbrev R : Type := Int
def out : R → denL outs := fun r => (r, ())
def into : denL outs → R := fun y => y.1
def cfg : Cfg := ⟨ty, 19, [], fun i => match Nat.beq i 0 with | true => .loop | false => .plain, fun _ => none⟩
def cal (n : Nat) : List (Nat × PFn) := [(60, impl_IsMaze_1.pfn n)]
theorem cal_ok (n : Nat) : ∀ g, (pick (cal n) g).Ok Go.Proofs.Tryz.prog g := pick_ok (by
  intro p hp
  simp only [cal, List.mem_cons, List.not_mem_nil, or_false] at hp
  rcases hp with rfl
  · exact impl_IsMaze_1.ok n)
def fin : St → Option R := finOf ty [.tmp 4] outs into
abbrev sin0 : Shape := [(0, .one (.row (.int .i64) false)), (1, .fn 60 []), (7, .one (.int .i64)), (8, .one (.int .i64))]
abbrev sout0 : Shape := []
def lam (n : Nat) : Nat → (St → Option R) → St → Option R := fun i => match Nat.beq i 0 with | true => (fun K st => match absSt sin0 st with | some (x, _) => slices_IndexFunc_int_int_cIsMaze_1.l0 n (fun _ => K (mkSt sout0 ())) n x.1 x.2.2.1 x.2.2.2.1 | none => none) | false => fun _ _ => none
noncomputable def lps : List (Nat × Code) := loopsOf cfg.blk code
noncomputable def b0 : Code := bodyOf lps 0
theorem l0_eq (n : Nat) (K : St → Option R) : ∀ (j : Nat) (x0 : List (Int)) (x1 : Int) (x2 : Int), slices_IndexFunc_int_int_cIsMaze_1.l0 n (fun _ => K (mkSt sout0 ())) j x0 x1 x2 = iter (roundK cfg (pick (cal n)) (lam n) fin 0 b0 sin0 sout0 K) j (mkSt sin0 (x0, (), x1, x2, ()))
  | 0, _, _, _ => rfl
  | j + 1, x0, x1, x2 => by
    have ih : slices_IndexFunc_int_int_cIsMaze_1.l0 n (fun _ => K (mkSt sout0 ())) j = fun x0 x1 x2 => iter (roundK cfg (pick (cal n)) (lam n) fin 0 b0 sin0 sout0 K) j (mkSt sin0 (x0, (), x1, x2, ())) := funext fun x0 => funext fun x1 => funext fun x2 => l0_eq n K j x0 x1 x2
    rw [slices_IndexFunc_int_int_cIsMaze_1.l0, ih]
    show _ = roundK cfg (pick (cal n)) (lam n) fin 0 b0 sin0 sout0 K (iter (roundK cfg (pick (cal n)) (lam n) fin 0 b0 sin0 sout0 K) j) (mkSt sin0 (x0, (), x1, x2, ()))
    kernel_rfl
theorem loops (n : Nat) : LoopsOk cfg (pick (cal n)) (lam n) fin (loopsOf cfg.blk code) := by
  have h : loopsOf cfg.blk code = [(0, b0)] := by kernel_rfl
  rw [h]
  intro p hp K st r hr
  simp only [List.mem_cons, List.not_mem_nil, or_false] at hp
  rcases hp with rfl
  · have hr' : (match absSt sin0 st with | some (x, _) => slices_IndexFunc_int_int_cIsMaze_1.l0 n (fun _ => K (mkSt sout0 ())) n x.1 x.2.2.1 x.2.2.2.1 | none => none) = some r := hr
    split at hr'
    · rename_i x es hx
      rw [l0_eq] at hr'
      exact ⟨sin0, sout0, n, x, es, hx, hr'⟩
    · cases hr'
theorem F_eq (n : Nat) (x0 : List (Int)) : slices_IndexFunc_int_int_cIsMaze_1.F n x0 = exK cfg (pick (cal n)) (lam n) fin code (fun _ _ => none) (mkSt shp (x0, (), ())) fin := by
  kernel_rfl
def pfn (n : Nat) : PFn := mkFn shp outs (fun x => slices_IndexFunc_int_int_cIsMaze_1.F n x.1) out
theorem ok (n : Nat) : (pfn n).Ok Go.Proofs.Tryz.prog 80 :=
  mkFn_ok (fn := Go.Proofs.Tryz.f80) (code := code) Go.Proofs.Tryz.func80 (by kernel_rfl) (by decide) (C := cfg) (Φ := pick (cal n)) (Λ := lam n) (into := into) hT (cal_ok n) (by kernel_rfl) rfl (by decide) rfl (fun _ => rfl) (loops n)
    (fun x r h => by
      have e := F_eq n x.1
      exact e.symm.trans h)
end slices_IndexFunc_int_int_cIsMaze_1
end
/-! ### slices.ContainsFunc[[]int,int] -/
section
namespace slices_ContainsFunc_int_int_cIsMaze_1
noncomputable def code : Code := (Go.Proofs.Tryz.f48.body).getD .skip
abbrev shp : Shape := [(0, .one (.row (.int .i64) false)), (1, .fn 60 [])]
abbrev outs : List KD := [.one (.bool)]
abbrev R : Type := Bool
def out : R → denL outs := fun r => (r, ())
def into : denL outs → R := fun y => y.1
def cfg : Cfg := ⟨ty, 9, [], fun _ => .plain, fun _ => none⟩
def cal (n : Nat) : List (Nat × PFn) := [(80, slices_IndexFunc_int_int_cIsMaze_1.pfn n)]
theorem cal_ok (n : Nat) : ∀ g, (pick (cal n) g).Ok Go.Proofs.Tryz.prog g := pick_ok (by
  intro p hp
  simp only [cal, List.mem_cons, List.not_mem_nil, or_false] at hp
  rcases hp with rfl
  · exact slices_IndexFunc_int_int_cIsMaze_1.ok n)
def fin : St → Option R := finOf ty [.tmp 4] outs into
def lam (n : Nat) : Nat → (St → Option R) → St → Option R := fun _ => fun _ _ => none
theorem loops (n : Nat) : LoopsOk cfg (pick (cal n)) (lam n) fin (loopsOf cfg.blk code) := by
  have h : loopsOf cfg.blk code = [] := by kernel_rfl
  rw [h]
  intro p hp
  cases hp
theorem F_eq (n : Nat) (x0 : List (Int)) : slices_ContainsFunc_int_int_cIsMaze_1.F n x0 = exK cfg (pick (cal n)) (lam n) fin code (fun _ _ => none) (mkSt shp (x0, (), ())) fin := by
  kernel_rfl
def pfn (n : Nat) : PFn := mkFn shp outs (fun x => slices_ContainsFunc_int_int_cIsMaze_1.F n x.1) out
theorem ok (n : Nat) : (pfn n).Ok Go.Proofs.Tryz.prog 48 :=
  mkFn_ok (fn := Go.Proofs.Tryz.f48) (code := code) Go.Proofs.Tryz.func48 (by kernel_rfl) (by decide) (C := cfg) (Φ := pick (cal n)) (Λ := lam n) (into := into) hT (cal_ok n) (by kernel_rfl) rfl (by decide) rfl (fun _ => rfl) (loops n)
    (fun x r h => by
      have e := F_eq n x.1
      exact e.symm.trans h)
end slices_ContainsFunc_int_int_cIsMaze_1
end
/-! ### loop.example/g01158/impl.IsMaze -/
section
namespace impl_IsMaze
noncomputable def code : Code := (Go.Proofs.Tryz.f18.body).getD .skip
abbrev shp : Shape := [(0, .agg [.int .i64, .row (.t3) false, .row (.int .i64) false])]
abbrev outs : List KD := [.one (.bool)]
abbrev R : Type := Bool
def out : R → denL outs := fun r => (r, ())
def into : denL outs → R := fun y => y.1
def cfg : Cfg := ⟨ty, 74, [], fun i => match Nat.beq i 0 with | true => .loop | false => .plain, fun i => match Nat.beq i 3 with | true => some [(1, .box true [.int .i64, .row (.t3) false, .row (.int .i64) false])] | false => none⟩
def cal (n : Nat) : List (Nat × PFn) := [(40, impl_isSet.pfn n), (48, slices_ContainsFunc_int_int_cIsMaze_1.pfn n), (58, impl_within.pfn n), (59, impl_compareDoors.pfn n)]
theorem cal_ok (n : Nat) : ∀ g, (pick (cal n) g).Ok Go.Proofs.Tryz.prog g := pick_ok (by
  intro p hp
  simp only [cal, List.mem_cons, List.not_mem_nil, or_false] at hp
  rcases hp with rfl | rfl | rfl | rfl
  · exact impl_isSet.ok n
  · exact slices_ContainsFunc_int_int_cIsMaze_1.ok n
  · exact impl_within.ok n
  · exact impl_compareDoors.ok n)
def fin : St → Option R := finOf ty [.tmp 2] outs into
abbrev sin0 : Shape := [(1, .box true [.int .i64, .row (.t3) false, .row (.int .i64) false]), (24, .one (.ref 1)), (25, .one (.int .i64)), (26, .one (.int .i64))]
abbrev sout0 : Shape := [(1, .box true [.int .i64, .row (.t3) false, .row (.int .i64) false])]
def lam (n : Nat) : Nat → (St → Option R) → St → Option R := fun i => match Nat.beq i 0 with | true => (fun K st => match absSt sin0 st with | some (x, _) => impl_IsMaze.l0 n (fun y0 y1 y2 => K (mkSt sout0 ((y0, y1, y2, ()), ()))) n x.1.1 x.1.2.1 x.1.2.2.1 x.2.2.1 x.2.2.2.1 | none => none) | false => fun _ _ => none
noncomputable def lps : List (Nat × Code) := loopsOf cfg.blk code
noncomputable def b0 : Code := bodyOf lps 0
theorem l0_eq (n : Nat) (K : St → Option R) : ∀ (j : Nat) (x0 : Int) (x1 : List (Int × Int × Int)) (x2 : List (Int)) (x3 : Int) (x4 : Int), impl_IsMaze.l0 n (fun y0 y1 y2 => K (mkSt sout0 ((y0, y1, y2, ()), ()))) j x0 x1 x2 x3 x4 = iter (roundK cfg (pick (cal n)) (lam n) fin 0 b0 sin0 sout0 K) j (mkSt sin0 ((x0, x1, x2, ()), (), x3, x4, ()))
  | 0, _, _, _, _, _ => rfl
  | j + 1, x0, x1, x2, x3, x4 => by
    have ih : impl_IsMaze.l0 n (fun y0 y1 y2 => K (mkSt sout0 ((y0, y1, y2, ()), ()))) j = fun x0 x1 x2 x3 x4 => iter (roundK cfg (pick (cal n)) (lam n) fin 0 b0 sin0 sout0 K) j (mkSt sin0 ((x0, x1, x2, ()), (), x3, x4, ())) := funext fun x0 => funext fun x1 => funext fun x2 => funext fun x3 => funext fun x4 => l0_eq n K j x0 x1 x2 x3 x4
    rw [impl_IsMaze.l0, ih]
    show _ = roundK cfg (pick (cal n)) (lam n) fin 0 b0 sin0 sout0 K (iter (roundK cfg (pick (cal n)) (lam n) fin 0 b0 sin0 sout0 K) j) (mkSt sin0 ((x0, x1, x2, ()), (), x3, x4, ()))
    kernel_rfl
theorem loops (n : Nat) : LoopsOk cfg (pick (cal n)) (lam n) fin (loopsOf cfg.blk code) := by
  have h : loopsOf cfg.blk code = [(0, b0)] := by kernel_rfl
  rw [h]
  intro p hp K st r hr
  simp only [List.mem_cons, List.not_mem_nil, or_false] at hp
  rcases hp with rfl
  · have hr' : (match absSt sin0 st with | some (x, _) => impl_IsMaze.l0 n (fun y0 y1 y2 => K (mkSt sout0 ((y0, y1, y2, ()), ()))) n x.1.1 x.1.2.1 x.1.2.2.1 x.2.2.1 x.2.2.2.1 | none => none) = some r := hr
    split at hr'
    · rename_i x es hx
      rw [l0_eq] at hr'
      exact ⟨sin0, sout0, n, x, es, hx, hr'⟩
    · cases hr'
theorem F_eq (n : Nat) (x0 : Int) (x1 : List (Int × Int × Int)) (x2 : List (Int)) : impl_IsMaze.F n x0 x1 x2 = exK cfg (pick (cal n)) (lam n) fin code (fun _ _ => none) (mkSt shp ((x0, x1, x2, ()), ())) fin := by
  kernel_rfl
def pfn (n : Nat) : PFn := mkFn shp outs (fun x => impl_IsMaze.F n x.1.1 x.1.2.1 x.1.2.2.1) out
theorem ok (n : Nat) : (pfn n).Ok Go.Proofs.Tryz.prog 18 :=
  mkFn_ok (fn := Go.Proofs.Tryz.f18) (code := code) Go.Proofs.Tryz.func18 (by kernel_rfl) (by decide) (C := cfg) (Φ := pick (cal n)) (Λ := lam n) (into := into) hT (cal_ok n) (by kernel_rfl) rfl (by decide) rfl (fun _ => rfl) (loops n)
    (fun x r h => by
      have e := F_eq n x.1.1 x.1.2.1 x.1.2.2.1
      exact e.symm.trans h)
end impl_IsMaze
end
/-! ### loop.example/g01158/impl.isNode$1 -/
section
namespace impl_isNode_1_c0
noncomputable def code : Code := (Go.Proofs.Tryz.f79.body).getD .skip
abbrev shp : Shape := [(0, .one (.int .i64)), (1, .box false [.int .i64, .row (.t3) false, .row (.int .i64) false])]
abbrev outs : List KD := [.one (.bool)]
abbrev R : Type := Bool
def out : R → denL outs := fun r => (r, ())
def into : denL outs → R := fun y => y.1
def cfg : Cfg := ⟨ty, 10, [], fun _ => .plain, fun _ => none⟩
def cal (n : Nat) : List (Nat × PFn) := [(58, impl_within.pfn n)]
theorem cal_ok (n : Nat) : ∀ g, (pick (cal n) g).Ok Go.Proofs.Tryz.prog g := pick_ok (by
  intro p hp
  simp only [cal, List.mem_cons, List.not_mem_nil, or_false] at hp
  rcases hp with rfl
  · exact impl_within.ok n)
def fin : St → Option R := finOf ty [.tmp 3] outs into
def lam (n : Nat) : Nat → (St → Option R) → St → Option R := fun _ => fun _ _ => none
theorem loops (n : Nat) : LoopsOk cfg (pick (cal n)) (lam n) fin (loopsOf cfg.blk code) := by
  have h : loopsOf cfg.blk code = [] := by kernel_rfl
  rw [h]
  intro p hp
  cases hp
theorem F_eq (n : Nat) (x0 : Int) (x1 : Int) (x2 : List (Int × Int × Int)) (x3 : List (Int)) : impl_isNode_1_c0.F n x0 x1 x2 x3 = exK cfg (pick (cal n)) (lam n) fin code (fun _ _ => none) (mkSt shp (x0, (x1, x2, x3, ()), ())) fin := by
  kernel_rfl
def pfn (n : Nat) : PFn := mkFn shp outs (fun x => impl_isNode_1_c0.F n x.1 x.2.1.1 x.2.1.2.1 x.2.1.2.2.1) out
theorem ok (n : Nat) : (pfn n).Ok Go.Proofs.Tryz.prog 79 :=
  mkFn_ok (fn := Go.Proofs.Tryz.f79) (code := code) Go.Proofs.Tryz.func79 (by kernel_rfl) (by decide) (C := cfg) (Φ := pick (cal n)) (Λ := lam n) (into := into) hT (cal_ok n) (by kernel_rfl) rfl (by decide) rfl (fun _ => rfl) (loops n)
    (fun x r h => by
      have e := F_eq n x.1 x.2.1.1 x.2.1.2.1 x.2.1.2.2.1
      exact e.symm.trans h)
end impl_isNode_1_c0
end
/-! ### slices.IndexFunc[[]int,int] -/
section
namespace slices_IndexFunc_int_int_cisNode_1
noncomputable def code : Code := (Go.Proofs.Tryz.f80.body).getD .skip
abbrev shp : Shape := [(0, .one (.row (.int .i64) false)), (1, .cap (.box false [.int .i64, .row (.t3) false, .row (.int .i64) false]) (.fn 79 []))]
abbrev outs : List KD := [.one (.int .i64)]
abbrev R : Type := Int
def out : R → denL outs := fun r => (r, ())
def into : denL outs → R := fun y => y.1
def cfg : Cfg := ⟨ty, 19, [], fun i => match Nat.beq i 0 with | true => .loop | false => .plain, fun _ => none⟩
def cal (n : Nat) : List (Nat × PFn) := [(79, impl_isNode_1_c0.pfn n)]
theorem cal_ok (n : Nat) : ∀ g, (pick (cal n) g).Ok Go.Proofs.Tryz.prog g := pick_ok (by
  intro p hp
  simp only [cal, List.mem_cons, List.not_mem_nil, or_false] at hp
  rcases hp with rfl
  · exact impl_isNode_1_c0.ok n)
def fin : St → Option R := finOf ty [.tmp 4] outs into
abbrev sin0 : Shape := [(0, .one (.row (.int .i64) false)), (1, .cap (.box false [.int .i64, .row (.t3) false, .row (.int .i64) false]) (.fn 79 [])), (7, .one (.int .i64)), (8, .one (.int .i64))]
abbrev sout0 : Shape := []
def lam (n : Nat) : Nat → (St → Option R) → St → Option R := fun i => match Nat.beq i 0 with | true => (fun K st => match absSt sin0 st with | some (x, _) => slices_IndexFunc_int_int_cisNode_1.l0 n (fun _ => K (mkSt sout0 ())) n x.1 x.2.1.1.1 x.2.1.1.2.1 x.2.1.1.2.2.1 x.2.2.1 x.2.2.2.1 | none => none) | false => fun _ _ => none
noncomputable def lps : List (Nat × Code) := loopsOf cfg.blk code
noncomputable def b0 : Code := bodyOf lps 0
theorem l0_eq (n : Nat) (K : St → Option R) : ∀ (j : Nat) (x0 : List (Int)) (x1 : Int) (x2 : List (Int × Int × Int)) (x3 : List (Int)) (x4 : Int) (x5 : Int), slices_IndexFunc_int_int_cisNode_1.l0 n (fun _ => K (mkSt sout0 ())) j x0 x1 x2 x3 x4 x5 = iter (roundK cfg (pick (cal n)) (lam n) fin 0 b0 sin0 sout0 K) j (mkSt sin0 (x0, ((x1, x2, x3, ()), ()), x4, x5, ()))
  | 0, _, _, _, _, _, _ => rfl
  | j + 1, x0, x1, x2, x3, x4, x5 => by
    have ih : slices_IndexFunc_int_int_cisNode_1.l0 n (fun _ => K (mkSt sout0 ())) j = fun x0 x1 x2 x3 x4 x5 => iter (roundK cfg (pick (cal n)) (lam n) fin 0 b0 sin0 sout0 K) j (mkSt sin0 (x0, ((x1, x2, x3, ()), ()), x4, x5, ())) := funext fun x0 => funext fun x1 => funext fun x2 => funext fun x3 => funext fun x4 => funext fun x5 => l0_eq n K j x0 x1 x2 x3 x4 x5
    rw [slices_IndexFunc_int_int_cisNode_1.l0, ih]
    show _ = roundK cfg (pick (cal n)) (lam n) fin 0 b0 sin0 sout0 K (iter (roundK cfg (pick (cal n)) (lam n) fin 0 b0 sin0 sout0 K) j) (mkSt sin0 (x0, ((x1, x2, x3, ()), ()), x4, x5, ()))
    kernel_rfl
theorem loops (n : Nat) : LoopsOk cfg (pick (cal n)) (lam n) fin (loopsOf cfg.blk code) := by
  have h : loopsOf cfg.blk code = [(0, b0)] := by kernel_rfl
  rw [h]
  intro p hp K st r hr
  simp only [List.mem_cons, List.not_mem_nil, or_false] at hp
  rcases hp with rfl
  · have hr' : (match absSt sin0 st with | some (x, _) => slices_IndexFunc_int_int_cisNode_1.l0 n (fun _ => K (mkSt sout0 ())) n x.1 x.2.1.1.1 x.2.1.1.2.1 x.2.1.1.2.2.1 x.2.2.1 x.2.2.2.1 | none => none) = some r := hr
    split at hr'
    · rename_i x es hx
      rw [l0_eq] at hr'
      exact ⟨sin0, sout0, n, x, es, hx, hr'⟩
    · cases hr'
theorem F_eq (n : Nat) (x0 : List (Int)) (x1 : Int) (x2 : List (Int × Int × Int)) (x3 : List (Int)) : slices_IndexFunc_int_int_cisNode_1.F n x0 x1 x2 x3 = exK cfg (pick (cal n)) (lam n) fin code (fun _ _ => none) (mkSt shp (x0, ((x1, x2, x3, ()), ()), ())) fin := by
  kernel_rfl
def pfn (n : Nat) : PFn := mkFn shp outs (fun x => slices_IndexFunc_int_int_cisNode_1.F n x.1 x.2.1.1.1 x.2.1.1.2.1 x.2.1.1.2.2.1) out
theorem ok (n : Nat) : (pfn n).Ok Go.Proofs.Tryz.prog 80 :=
  mkFn_ok (fn := Go.Proofs.Tryz.f80) (code := code) Go.Proofs.Tryz.func80 (by kernel_rfl) (by decide) (C := cfg) (Φ := pick (cal n)) (Λ := lam n) (into := into) hT (cal_ok n) (by kernel_rfl) rfl (by decide) rfl (fun _ => rfl) (loops n)
    (fun x r h => by
      have e := F_eq n x.1 x.2.1.1.1 x.2.1.1.2.1 x.2.1.1.2.2.1
      exact e.symm.trans h)
end slices_IndexFunc_int_int_cisNode_1
end
/-! ### slices.ContainsFunc[[]int,int] -/
section
namespace slices_ContainsFunc_int_int_cisNode_1
noncomputable def code : Code := (Go.Proofs.Tryz.f48.body).getD .skip
abbrev shp : Shape := [(0, .one (.row (.int .i64) false)), (1, .cap (.box false [.int .i64, .row (.t3) false, .row (.int .i64) false]) (.fn 79 []))]
abbrev outs : List KD := [.one (.bool)]
abbrev R : Type := Bool
def out : R → denL outs := fun r => (r, ())
def into : denL outs → R := fun y => y.1
def cfg : Cfg := ⟨ty, 9, [], fun _ => .plain, fun _ => none⟩
def cal (n : Nat) : List (Nat × PFn) := [(80, slices_IndexFunc_int_int_cisNode_1.pfn n)]
theorem cal_ok (n : Nat) : ∀ g, (pick (cal n) g).Ok Go.Proofs.Tryz.prog g := pick_ok (by
  intro p hp
  simp only [cal, List.mem_cons, List.not_mem_nil, or_false] at hp
  rcases hp with rfl
  · exact slices_IndexFunc_int_int_cisNode_1.ok n)
def fin : St → Option R := finOf ty [.tmp 4] outs into
def lam (n : Nat) : Nat → (St → Option R) → St → Option R := fun _ => fun _ _ => none
theorem loops (n : Nat) : LoopsOk cfg (pick (cal n)) (lam n) fin (loopsOf cfg.blk code) := by
  have h : loopsOf cfg.blk code = [] := by kernel_rfl
  rw [h]
  intro p hp
  cases hp
theorem F_eq (n : Nat) (x0 : List (Int)) (x1 : Int) (x2 : List (Int × Int × Int)) (x3 : List (Int)) : slices_ContainsFunc_int_int_cisNode_1.F n x0 x1 x2 x3 = exK cfg (pick (cal n)) (lam n) fin code (fun _ _ => none) (mkSt shp (x0, ((x1, x2, x3, ()), ()), ())) fin := by
  kernel_rfl
def pfn (n : Nat) : PFn := mkFn shp outs (fun x => slices_ContainsFunc_int_int_cisNode_1.F n x.1 x.2.1.1.1 x.2.1.1.2.1 x.2.1.1.2.2.1) out
theorem ok (n : Nat) : (pfn n).Ok Go.Proofs.Tryz.prog 48 :=
  mkFn_ok (fn := Go.Proofs.Tryz.f48) (code := code) Go.Proofs.Tryz.func48 (by kernel_rfl) (by decide) (C := cfg) (Φ := pick (cal n)) (Λ := lam n) (into := into) hT (cal_ok n) (by kernel_rfl) rfl (by decide) rfl (fun _ => rfl) (loops n)
    (fun x r h => by
      have e := F_eq n x.1 x.2.1.1.1 x.2.1.1.2.1 x.2.1.1.2.2.1
      exact e.symm.trans h)
end slices_ContainsFunc_int_int_cisNode_1
end
/-! ### loop.example/g01158/impl.isNode -/
section
namespace impl_isNode
noncomputable def code : Code := (Go.Proofs.Tryz.f39.body).getD .skip
abbrev shp : Shape := [(0, .agg [.int .i64, .row (.t3) false, .row (.int .i64) false]), (1, .one (.row (.int .i64) false))]
abbrev outs : List KD := [.one (.bool)]
abbrev R : Type := Bool
def out : R → denL outs := fun r => (r, ())
def into : denL outs → R := fun y => y.1
def cfg : Cfg := ⟨ty, 13, [], fun _ => .plain, fun _ => none⟩
def cal (n : Nat) : List (Nat × PFn) := [(18, impl_IsMaze.pfn n), (48, slices_ContainsFunc_int_int_cisNode_1.pfn n)]
theorem cal_ok (n : Nat) : ∀ g, (pick (cal n) g).Ok Go.Proofs.Tryz.prog g := pick_ok (by
  intro p hp
  simp only [cal, List.mem_cons, List.not_mem_nil, or_false] at hp
  rcases hp with rfl | rfl
  · exact impl_IsMaze.ok n
  · exact slices_ContainsFunc_int_int_cisNode_1.ok n)
def fin : St → Option R := finOf ty [.tmp 4] outs into
def lam (n : Nat) : Nat → (St → Option R) → St → Option R := fun _ => fun _ _ => none
theorem loops (n : Nat) : LoopsOk cfg (pick (cal n)) (lam n) fin (loopsOf cfg.blk code) := by
  have h : loopsOf cfg.blk code = [] := by kernel_rfl
  rw [h]
  intro p hp
  cases hp
theorem F_eq (n : Nat) (x0 : Int) (x1 : List (Int × Int × Int)) (x2 : List (Int)) (x3 : List (Int)) : impl_isNode.F n x0 x1 x2 x3 = exK cfg (pick (cal n)) (lam n) fin code (fun _ _ => none) (mkSt shp ((x0, x1, x2, ()), x3, ())) fin := by
  kernel_rfl
def pfn (n : Nat) : PFn := mkFn shp outs (fun x => impl_isNode.F n x.1.1 x.1.2.1 x.1.2.2.1 x.2.1) out
theorem ok (n : Nat) : (pfn n).Ok Go.Proofs.Tryz.prog 39 :=
  mkFn_ok (fn := Go.Proofs.Tryz.f39) (code := code) Go.Proofs.Tryz.func39 (by kernel_rfl) (by decide) (C := cfg) (Φ := pick (cal n)) (Λ := lam n) (into := into) hT (cal_ok n) (by kernel_rfl) rfl (by decide) rfl (fun _ => rfl) (loops n)
    (fun x r h => by
      have e := F_eq n x.1.1 x.1.2.1 x.1.2.2.1 x.2.1
      exact e.symm.trans h)
end impl_isNode
end
/-! ### loop.example/g01158/impl.has -/
section
namespace impl_has
noncomputable def code : Code := (Go.Proofs.Tryz.f50.body).getD .skip
abbrev shp : Shape := [(0, .one (.int .i64)), (1, .one (.int .i64))]
abbrev outs : List KD := [.one (.bool)]
abbrev R : Type := Bool
def out : R → denL outs := fun r => (r, ())
def into : denL outs → R := fun y => y.1
def cfg : Cfg := ⟨ty, 9, [], fun _ => .plain, fun _ => none⟩
def cal (n : Nat) : List (Nat × PFn) := []
theorem cal_ok (n : Nat) : ∀ g, (pick (cal n) g).Ok Go.Proofs.Tryz.prog g := pick_ok (by
  intro p hp
  cases hp)
def fin : St → Option R := finOf ty [.tmp 4] outs into
def lam (n : Nat) : Nat → (St → Option R) → St → Option R := fun _ => fun _ _ => none
theorem loops (n : Nat) : LoopsOk cfg (pick (cal n)) (lam n) fin (loopsOf cfg.blk code) := by
  have h : loopsOf cfg.blk code = [] := by kernel_rfl
  rw [h]
  intro p hp
  cases hp
theorem F_eq (n : Nat) (x0 : Int) (x1 : Int) : impl_has.F n x0 x1 = exK cfg (pick (cal n)) (lam n) fin code (fun _ _ => none) (mkSt shp (x0, x1, ())) fin := by
  kernel_rfl
def pfn (n : Nat) : PFn := mkFn shp outs (fun x => impl_has.F n x.1 x.2.1) out
theorem ok (n : Nat) : (pfn n).Ok Go.Proofs.Tryz.prog 50 :=
  mkFn_ok (fn := Go.Proofs.Tryz.f50) (code := code) Go.Proofs.Tryz.func50 (by kernel_rfl) (by decide) (C := cfg) (Φ := pick (cal n)) (Λ := lam n) (into := into) hT (cal_ok n) (by kernel_rfl) rfl (by decide) rfl (fun _ => rfl) (loops n)
    (fun x r h => by
      have e := F_eq n x.1 x.2.1
      exact e.symm.trans h)
end impl_has
end
/-! ### loop.example/g01158/impl.steps -/
section
namespace impl_steps
noncomputable def code : Code := (Go.Proofs.Tryz.f41.body).getD .skip
abbrev shp : Shape := [(0, .agg [.int .i64, .row (.t3) false, .row (.int .i64) false]), (1, .one (.int .i64)), (2, .one (.int .i64))]
abbrev outs : List KD := [.one (.int .i64)]
abbrev R : Type := Int
def out : R → denL outs := fun r => (r, ())
def into : denL outs → R := fun y => y.1
def cfg : Cfg := ⟨ty, 42, [], fun i => match Nat.beq i 0 with | true => .loop | false => .plain, fun _ => none⟩
def cal (n : Nat) : List (Nat × PFn) := [(50, impl_has.pfn n)]
theorem cal_ok (n : Nat) : ∀ g, (pick (cal n) g).Ok Go.Proofs.Tryz.prog g := pick_ok (by
  intro p hp
  simp only [cal, List.mem_cons, List.not_mem_nil, or_false] at hp
  rcases hp with rfl
  · exact impl_has.ok n)
def fin : St → Option R := finOf ty [.tmp 6] outs into
abbrev sin0 : Shape := [(1, .one (.int .i64)), (2, .one (.int .i64)), (7, .one (.int .i64)), (11, .one (.row (.t3) false)), (12, .one (.int .i64)), (13, .one (.int .i64))]
abbrev sout0 : Shape := [(7, .one (.int .i64))]
def lam (n : Nat) : Nat → (St → Option R) → St → Option R := fun i => match Nat.beq i 0 with | true => (fun K st => match absSt sin0 st with | some (x, _) => impl_steps.l0 n (fun y0 => K (mkSt sout0 (y0, ()))) n x.1 x.2.1 x.2.2.1 x.2.2.2.1 x.2.2.2.2.1 x.2.2.2.2.2.1 | none => none) | false => fun _ _ => none
noncomputable def lps : List (Nat × Code) := loopsOf cfg.blk code
noncomputable def b0 : Code := bodyOf lps 0
theorem l0_eq (n : Nat) (K : St → Option R) : ∀ (j : Nat) (x0 : Int) (x1 : Int) (x2 : Int) (x3 : List (Int × Int × Int)) (x4 : Int) (x5 : Int), impl_steps.l0 n (fun y0 => K (mkSt sout0 (y0, ()))) j x0 x1 x2 x3 x4 x5 = iter (roundK cfg (pick (cal n)) (lam n) fin 0 b0 sin0 sout0 K) j (mkSt sin0 (x0, x1, x2, x3, x4, x5, ()))
  | 0, _, _, _, _, _, _ => rfl
  | j + 1, x0, x1, x2, x3, x4, x5 => by
    have ih : impl_steps.l0 n (fun y0 => K (mkSt sout0 (y0, ()))) j = fun x0 x1 x2 x3 x4 x5 => iter (roundK cfg (pick (cal n)) (lam n) fin 0 b0 sin0 sout0 K) j (mkSt sin0 (x0, x1, x2, x3, x4, x5, ())) := funext fun x0 => funext fun x1 => funext fun x2 => funext fun x3 => funext fun x4 => funext fun x5 => l0_eq n K j x0 x1 x2 x3 x4 x5
    rw [impl_steps.l0, ih]
    show _ = roundK cfg (pick (cal n)) (lam n) fin 0 b0 sin0 sout0 K (iter (roundK cfg (pick (cal n)) (lam n) fin 0 b0 sin0 sout0 K) j) (mkSt sin0 (x0, x1, x2, x3, x4, x5, ()))
    kernel_rfl
theorem loops (n : Nat) : LoopsOk cfg (pick (cal n)) (lam n) fin (loopsOf cfg.blk code) := by
  have h : loopsOf cfg.blk code = [(0, b0)] := by kernel_rfl
  rw [h]
  intro p hp K st r hr
  simp only [List.mem_cons, List.not_mem_nil, or_false] at hp
  rcases hp with rfl
  · have hr' : (match absSt sin0 st with | some (x, _) => impl_steps.l0 n (fun y0 => K (mkSt sout0 (y0, ()))) n x.1 x.2.1 x.2.2.1 x.2.2.2.1 x.2.2.2.2.1 x.2.2.2.2.2.1 | none => none) = some r := hr
    split at hr'
    · rename_i x es hx
      rw [l0_eq] at hr'
      exact ⟨sin0, sout0, n, x, es, hx, hr'⟩
    · cases hr'
theorem F_eq (n : Nat) (x0 : Int) (x1 : List (Int × Int × Int)) (x2 : List (Int)) (x3 : Int) (x4 : Int) : impl_steps.F n x0 x1 x2 x3 x4 = exK cfg (pick (cal n)) (lam n) fin code (fun _ _ => none) (mkSt shp ((x0, x1, x2, ()), x3, x4, ())) fin := by
  kernel_rfl
def pfn (n : Nat) : PFn := mkFn shp outs (fun x => impl_steps.F n x.1.1 x.1.2.1 x.1.2.2.1 x.2.1 x.2.2.1) out
theorem ok (n : Nat) : (pfn n).Ok Go.Proofs.Tryz.prog 41 :=
  mkFn_ok (fn := Go.Proofs.Tryz.f41) (code := code) Go.Proofs.Tryz.func41 (by kernel_rfl) (by decide) (C := cfg) (Φ := pick (cal n)) (Λ := lam n) (into := into) hT (cal_ok n) (by kernel_rfl) rfl (by decide) rfl (fun _ => rfl) (loops n)
    (fun x r h => by
      have e := F_eq n x.1.1 x.1.2.1 x.1.2.2.1 x.2.1 x.2.2.1
      exact e.symm.trans h)
end impl_steps
end
/-! ### loop.example/g01158/impl.IsOpenTo -/
section
namespace impl_IsOpenTo
noncomputable def code : Code := (Go.Proofs.Tryz.f6.body).getD .skip
abbrev shp : Shape := [(0, .agg [.int .i64, .row (.t3) false, .row (.int .i64) false]), (1, .one (.int .i64)), (2, .one (.int .i64)), (3, .one (.int .i64))]
abbrev outs : List KD := [.one (.bool), .one (.bool)]
abbrev R : Type := Bool × Bool
def out : R → denL outs := fun r => (r.1, r.2, ())
def into : denL outs → R := fun y => (y.1, y.2.1)
def cfg : Cfg := ⟨ty, 29, [], fun _ => .plain, fun _ => none⟩
def cal (n : Nat) : List (Nat × PFn) := [(39, impl_isNode.pfn n), (40, impl_isSet.pfn n), (41, impl_steps.pfn n)]
theorem cal_ok (n : Nat) : ∀ g, (pick (cal n) g).Ok Go.Proofs.Tryz.prog g := pick_ok (by
  intro p hp
  simp only [cal, List.mem_cons, List.not_mem_nil, or_false] at hp
  rcases hp with rfl | rfl | rfl
  · exact impl_isNode.ok n
  · exact impl_isSet.ok n
  · exact impl_steps.ok n)
def fin : St → Option R := finOf ty [.tmp 8, .tmp 9] outs into
def lam (n : Nat) : Nat → (St → Option R) → St → Option R := fun _ => fun _ _ => none
theorem loops (n : Nat) : LoopsOk cfg (pick (cal n)) (lam n) fin (loopsOf cfg.blk code) := by
  have h : loopsOf cfg.blk code = [] := by kernel_rfl
  rw [h]
  intro p hp
  cases hp
theorem F_eq (n : Nat) (x0 : Int) (x1 : List (Int × Int × Int)) (x2 : List (Int)) (x3 : Int) (x4 : Int) (x5 : Int) : impl_IsOpenTo.F n x0 x1 x2 x3 x4 x5 = exK cfg (pick (cal n)) (lam n) fin code (fun _ _ => none) (mkSt shp ((x0, x1, x2, ()), x3, x4, x5, ())) fin := by
  kernel_rfl
def pfn (n : Nat) : PFn := mkFn shp outs (fun x => impl_IsOpenTo.F n x.1.1 x.1.2.1 x.1.2.2.1 x.2.1 x.2.2.1 x.2.2.2.1) out
theorem ok (n : Nat) : (pfn n).Ok Go.Proofs.Tryz.prog 6 :=
  mkFn_ok (fn := Go.Proofs.Tryz.f6) (code := code) Go.Proofs.Tryz.func6 (by kernel_rfl) (by decide) (C := cfg) (Φ := pick (cal n)) (Λ := lam n) (into := into) hT (cal_ok n) (by kernel_rfl) rfl (by decide) rfl (fun _ => rfl) (loops n)
    (fun x r h => by
      have e := F_eq n x.1.1 x.1.2.1 x.1.2.2.1 x.2.1 x.2.2.1 x.2.2.2.1
      exact e.symm.trans h)
end impl_IsOpenTo
end
/-! ### loop.example/g01158/spec.l2Node -/
section
namespace spec_l2Node
noncomputable def code : Code := (Go.Proofs.Tryz.f42.body).getD .skip
abbrev shp : Shape := [(0, .agg [.int .i64, .row (.t3) false, .row (.int .i64) false]), (1, .one (.int .i64))]
abbrev outs : List KD := [.one (.bool)]
abbrev R : Type := Bool
def out : R → denL outs := fun r => (r, ())
def into : denL outs → R := fun y => y.1
def cfg : Cfg := ⟨ty, 14, [], fun _ => .plain, fun _ => none⟩
def cal (n : Nat) : List (Nat × PFn) := [(35, spec_l2Maze.pfn n), (62, spec_l1In.pfn n)]
theorem cal_ok (n : Nat) : ∀ g, (pick (cal n) g).Ok Go.Proofs.Tryz.prog g := pick_ok (by
  intro p hp
  simp only [cal, List.mem_cons, List.not_mem_nil, or_false] at hp
  rcases hp with rfl | rfl
  · exact spec_l2Maze.ok n
  · exact spec_l1In.ok n)
def fin : St → Option R := finOf ty [.tmp 4] outs into
def lam (n : Nat) : Nat → (St → Option R) → St → Option R := fun _ => fun _ _ => none
theorem loops (n : Nat) : LoopsOk cfg (pick (cal n)) (lam n) fin (loopsOf cfg.blk code) := by
  have h : loopsOf cfg.blk code = [] := by kernel_rfl
  rw [h]
  intro p hp
  cases hp
theorem F_eq (n : Nat) (x0 : Int) (x1 : List (Int × Int × Int)) (x2 : List (Int)) (x3 : Int) : spec_l2Node.F n x0 x1 x2 x3 = exK cfg (pick (cal n)) (lam n) fin code (fun _ _ => none) (mkSt shp ((x0, x1, x2, ()), x3, ())) fin := by
  kernel_rfl
def pfn (n : Nat) : PFn := mkFn shp outs (fun x => spec_l2Node.F n x.1.1 x.1.2.1 x.1.2.2.1 x.2.1) out
theorem ok (n : Nat) : (pfn n).Ok Go.Proofs.Tryz.prog 42 :=
  mkFn_ok (fn := Go.Proofs.Tryz.f42) (code := code) Go.Proofs.Tryz.func42 (by kernel_rfl) (by decide) (C := cfg) (Φ := pick (cal n)) (Λ := lam n) (into := into) hT (cal_ok n) (by kernel_rfl) rfl (by decide) rfl (fun _ => rfl) (loops n)
    (fun x r h => by
      have e := F_eq n x.1.1 x.1.2.1 x.1.2.2.1 x.2.1
      exact e.symm.trans h)
end spec_l2Node
end
/-! ### loop.example/g01158/spec.l2Joins -/
section
namespace spec_l2Joins
noncomputable def code : Code := (Go.Proofs.Tryz.f51.body).getD .skip
abbrev shp : Shape := [(0, .agg [.int .i64, .int .i64, .int .i64]), (1, .one (.int .i64)), (2, .one (.int .i64))]
abbrev outs : List KD := [.one (.bool)]
abbrev R : Type := Bool
def out : R → denL outs := fun r => (r, ())
def into : denL outs → R := fun y => y.1
def cfg : Cfg := ⟨ty, 29, [], fun _ => .plain, fun _ => none⟩
def cal (n : Nat) : List (Nat × PFn) := []
theorem cal_ok (n : Nat) : ∀ g, (pick (cal n) g).Ok Go.Proofs.Tryz.prog g := pick_ok (by
  intro p hp
  cases hp)
def fin : St → Option R := finOf ty [.tmp 6] outs into
def lam (n : Nat) : Nat → (St → Option R) → St → Option R := fun _ => fun _ _ => none
theorem loops (n : Nat) : LoopsOk cfg (pick (cal n)) (lam n) fin (loopsOf cfg.blk code) := by
  have h : loopsOf cfg.blk code = [] := by kernel_rfl
  rw [h]
  intro p hp
  cases hp
theorem F_eq (n : Nat) (x0 : Int) (x1 : Int) (x2 : Int) (x3 : Int) (x4 : Int) : spec_l2Joins.F n x0 x1 x2 x3 x4 = exK cfg (pick (cal n)) (lam n) fin code (fun _ _ => none) (mkSt shp ((x0, x1, x2, ()), x3, x4, ())) fin := by
  kernel_rfl
def pfn (n : Nat) : PFn := mkFn shp outs (fun x => spec_l2Joins.F n x.1.1 x.1.2.1 x.1.2.2.1 x.2.1 x.2.2.1) out
theorem ok (n : Nat) : (pfn n).Ok Go.Proofs.Tryz.prog 51 :=
  mkFn_ok (fn := Go.Proofs.Tryz.f51) (code := code) Go.Proofs.Tryz.func51 (by kernel_rfl) (by decide) (C := cfg) (Φ := pick (cal n)) (Λ := lam n) (into := into) hT (cal_ok n) (by kernel_rfl) rfl (by decide) rfl (fun _ => rfl) (loops n)
    (fun x r h => by
      have e := F_eq n x.1.1 x.1.2.1 x.1.2.2.1 x.2.1 x.2.2.1
      exact e.symm.trans h)
end spec_l2Joins
end
/-! ### loop.example/g01158/spec.l2Has -/
section
namespace spec_l2Has
noncomputable def code : Code := (Go.Proofs.Tryz.f52.body).getD .skip
abbrev shp : Shape := [(0, .one (.int .i64)), (1, .one (.int .i64))]
abbrev outs : List KD := [.one (.bool)]
abbrev R : Type := Bool
def out : R → denL outs := fun r => (r, ())
def into : denL outs → R := fun y => y.1
def cfg : Cfg := ⟨ty, 10, [], fun _ => .plain, fun _ => none⟩
def cal (n : Nat) : List (Nat × PFn) := []
theorem cal_ok (n : Nat) : ∀ g, (pick (cal n) g).Ok Go.Proofs.Tryz.prog g := pick_ok (by
  intro p hp
  cases hp)
def fin : St → Option R := finOf ty [.tmp 4] outs into
def lam (n : Nat) : Nat → (St → Option R) → St → Option R := fun _ => fun _ _ => none
theorem loops (n : Nat) : LoopsOk cfg (pick (cal n)) (lam n) fin (loopsOf cfg.blk code) := by
  have h : loopsOf cfg.blk code = [] := by kernel_rfl
  rw [h]
  intro p hp
  cases hp
theorem F_eq (n : Nat) (x0 : Int) (x1 : Int) : spec_l2Has.F n x0 x1 = exK cfg (pick (cal n)) (lam n) fin code (fun _ _ => none) (mkSt shp (x0, x1, ())) fin := by
  kernel_rfl
def pfn (n : Nat) : PFn := mkFn shp outs (fun x => spec_l2Has.F n x.1 x.2.1) out
theorem ok (n : Nat) : (pfn n).Ok Go.Proofs.Tryz.prog 52 :=
  mkFn_ok (fn := Go.Proofs.Tryz.f52) (code := code) Go.Proofs.Tryz.func52 (by kernel_rfl) (by decide) (C := cfg) (Φ := pick (cal n)) (Λ := lam n) (into := into) hT (cal_ok n) (by kernel_rfl) rfl (by decide) rfl (fun _ => rfl) (loops n)
    (fun x r h => by
      have e := F_eq n x.1 x.2.1
      exact e.symm.trans h)
end spec_l2Has
end
/-! ### loop.example/g01158/spec.l2Open -/
section
namespace spec_l2Open
noncomputable def code : Code := (Go.Proofs.Tryz.f44.body).getD .skip
abbrev shp : Shape := [(0, .agg [.int .i64, .row (.t3) false, .row (.int .i64) false]), (1, .one (.int .i64)), (2, .one (.int .i64)), (3, .one (.int .i64))]
abbrev outs : List KD := [.one (.bool)]
abbrev R : Type := Bool
def out : R → denL outs := fun r => (r, ())
def into : denL outs → R := fun y => y.1
def cfg : Cfg := ⟨ty, 35, [], fun i => match Nat.beq i 0 with | true => .loop | false => .plain, fun _ => none⟩
def cal (n : Nat) : List (Nat × PFn) := [(51, spec_l2Joins.pfn n), (52, spec_l2Has.pfn n)]
theorem cal_ok (n : Nat) : ∀ g, (pick (cal n) g).Ok Go.Proofs.Tryz.prog g := pick_ok (by
  intro p hp
  simp only [cal, List.mem_cons, List.not_mem_nil, or_false] at hp
  rcases hp with rfl | rfl
  · exact spec_l2Joins.ok n
  · exact spec_l2Has.ok n)
def fin : St → Option R := finOf ty [.tmp 8] outs into
abbrev sin0 : Shape := [(1, .one (.int .i64)), (2, .one (.int .i64)), (3, .one (.int .i64)), (4, .box true [.int .i64, .row (.t3) false, .row (.int .i64) false]), (9, .one (.int .i64))]
abbrev sout0 : Shape := []
def lam (n : Nat) : Nat → (St → Option R) → St → Option R := fun i => match Nat.beq i 0 with | true => (fun K st => match absSt sin0 st with | some (x, _) => spec_l2Open.l0 n (fun _ => K (mkSt sout0 ())) n x.1 x.2.1 x.2.2.1 x.2.2.2.1.1 x.2.2.2.1.2.1 x.2.2.2.1.2.2.1 x.2.2.2.2.1 | none => none) | false => fun _ _ => none
noncomputable def lps : List (Nat × Code) := loopsOf cfg.blk code
noncomputable def b0 : Code := bodyOf lps 0
theorem l0_eq (n : Nat) (K : St → Option R) : ∀ (j : Nat) (x0 : Int) (x1 : Int) (x2 : Int) (x3 : Int) (x4 : List (Int × Int × Int)) (x5 : List (Int)) (x6 : Int), spec_l2Open.l0 n (fun _ => K (mkSt sout0 ())) j x0 x1 x2 x3 x4 x5 x6 = iter (roundK cfg (pick (cal n)) (lam n) fin 0 b0 sin0 sout0 K) j (mkSt sin0 (x0, x1, x2, (x3, x4, x5, ()), x6, ()))
  | 0, _, _, _, _, _, _, _ => rfl
  | j + 1, x0, x1, x2, x3, x4, x5, x6 => by
    have ih : spec_l2Open.l0 n (fun _ => K (mkSt sout0 ())) j = fun x0 x1 x2 x3 x4 x5 x6 => iter (roundK cfg (pick (cal n)) (lam n) fin 0 b0 sin0 sout0 K) j (mkSt sin0 (x0, x1, x2, (x3, x4, x5, ()), x6, ())) := funext fun x0 => funext fun x1 => funext fun x2 => funext fun x3 => funext fun x4 => funext fun x5 => funext fun x6 => l0_eq n K j x0 x1 x2 x3 x4 x5 x6
    rw [spec_l2Open.l0, ih]
    show _ = roundK cfg (pick (cal n)) (lam n) fin 0 b0 sin0 sout0 K (iter (roundK cfg (pick (cal n)) (lam n) fin 0 b0 sin0 sout0 K) j) (mkSt sin0 (x0, x1, x2, (x3, x4, x5, ()), x6, ()))
    kernel_rfl
theorem loops (n : Nat) : LoopsOk cfg (pick (cal n)) (lam n) fin (loopsOf cfg.blk code) := by
  have h : loopsOf cfg.blk code = [(0, b0)] := by kernel_rfl
  rw [h]
  intro p hp K st r hr
  simp only [List.mem_cons, List.not_mem_nil, or_false] at hp
  rcases hp with rfl
  · have hr' : (match absSt sin0 st with | some (x, _) => spec_l2Open.l0 n (fun _ => K (mkSt sout0 ())) n x.1 x.2.1 x.2.2.1 x.2.2.2.1.1 x.2.2.2.1.2.1 x.2.2.2.1.2.2.1 x.2.2.2.2.1 | none => none) = some r := hr
    split at hr'
    · rename_i x es hx
      rw [l0_eq] at hr'
      exact ⟨sin0, sout0, n, x, es, hx, hr'⟩
    · cases hr'
theorem F_eq (n : Nat) (x0 : Int) (x1 : List (Int × Int × Int)) (x2 : List (Int)) (x3 : Int) (x4 : Int) (x5 : Int) : spec_l2Open.F n x0 x1 x2 x3 x4 x5 = exK cfg (pick (cal n)) (lam n) fin code (fun _ _ => none) (mkSt shp ((x0, x1, x2, ()), x3, x4, x5, ())) fin := by
  kernel_rfl
def pfn (n : Nat) : PFn := mkFn shp outs (fun x => spec_l2Open.F n x.1.1 x.1.2.1 x.1.2.2.1 x.2.1 x.2.2.1 x.2.2.2.1) out
theorem ok (n : Nat) : (pfn n).Ok Go.Proofs.Tryz.prog 44 :=
  mkFn_ok (fn := Go.Proofs.Tryz.f44) (code := code) Go.Proofs.Tryz.func44 (by kernel_rfl) (by decide) (C := cfg) (Φ := pick (cal n)) (Λ := lam n) (into := into) hT (cal_ok n) (by kernel_rfl) rfl (by decide) rfl (fun _ => rfl) (loops n)
    (fun x r h => by
      have e := F_eq n x.1.1 x.1.2.1 x.1.2.2.1 x.2.1 x.2.2.1 x.2.2.2.1
      exact e.symm.trans h)
end spec_l2Open
end
/-! ### loop.example/g01158/spec.IsOpenTo -/
section
namespace spec_IsOpenTo
noncomputable def code : Code := (Go.Proofs.Tryz.f7.body).getD .skip
abbrev shp : Shape := [(0, .agg [.int .i64, .row (.t3) false, .row (.int .i64) false]), (1, .one (.int .i64)), (2, .one (.int .i64)), (3, .one (.int .i64))]
abbrev outs : List KD := [.one (.bool), .one (.bool)]
abbrev R : Type := Bool × Bool
def out : R → denL outs := fun r => (r.1, r.2, ())
def into : denL outs → R := fun y => (y.1, y.2.1)
def cfg : Cfg := ⟨ty, 30, [], fun _ => .plain, fun _ => none⟩
def cal (n : Nat) : List (Nat × PFn) := [(42, spec_l2Node.pfn n), (43, spec_l2Set.pfn n), (44, spec_l2Open.pfn n)]
theorem cal_ok (n : Nat) : ∀ g, (pick (cal n) g).Ok Go.Proofs.Tryz.prog g := pick_ok (by
  intro p hp
  simp only [cal, List.mem_cons, List.not_mem_nil, or_false] at hp
  rcases hp with rfl | rfl | rfl
  · exact spec_l2Node.ok n
  · exact spec_l2Set.ok n
  · exact spec_l2Open.ok n)
def fin : St → Option R := finOf ty [.tmp 8, .tmp 9] outs into
def lam (n : Nat) : Nat → (St → Option R) → St → Option R := fun _ => fun _ _ => none
theorem loops (n : Nat) : LoopsOk cfg (pick (cal n)) (lam n) fin (loopsOf cfg.blk code) := by
  have h : loopsOf cfg.blk code = [] := by kernel_rfl
  rw [h]
  intro p hp
  cases hp
theorem F_eq (n : Nat) (x0 : Int) (x1 : List (Int × Int × Int)) (x2 : List (Int)) (x3 : Int) (x4 : Int) (x5 : Int) : spec_IsOpenTo.F n x0 x1 x2 x3 x4 x5 = exK cfg (pick (cal n)) (lam n) fin code (fun _ _ => none) (mkSt shp ((x0, x1, x2, ()), x3, x4, x5, ())) fin := by
  kernel_rfl
def pfn (n : Nat) : PFn := mkFn shp outs (fun x => spec_IsOpenTo.F n x.1.1 x.1.2.1 x.1.2.2.1 x.2.1 x.2.2.1 x.2.2.2.1) out
theorem ok (n : Nat) : (pfn n).Ok Go.Proofs.Tryz.prog 7 :=
  mkFn_ok (fn := Go.Proofs.Tryz.f7) (code := code) Go.Proofs.Tryz.func7 (by kernel_rfl) (by decide) (C := cfg) (Φ := pick (cal n)) (Λ := lam n) (into := into) hT (cal_ok n) (by kernel_rfl) rfl (by decide) rfl (fun _ => rfl) (loops n)
    (fun x r h => by
      have e := F_eq n x.1.1 x.1.2.1 x.1.2.2.1 x.2.1 x.2.2.1 x.2.2.2.1
      exact e.symm.trans h)
end spec_IsOpenTo
end
/-! ### slices.Clone[[]int,int] -/
section
namespace slices_Clone_int_int
noncomputable def code : Code := (Go.Proofs.Tryz.f46.body).getD .skip
abbrev shp : Shape := [(0, .one (.row (.int .i64) false))]
abbrev outs : List KD := [.one (.row (.int .i64) true)]
abbrev R : Type := (List (Int))
def out : R → denL outs := fun r => (r, ())
def into : denL outs → R := fun y => y.1
def cfg : Cfg := ⟨ty, 8, [0], fun _ => .plain, fun _ => none⟩
def cal (n : Nat) : List (Nat × PFn) := []
theorem cal_ok (n : Nat) : ∀ g, (pick (cal n) g).Ok Go.Proofs.Tryz.prog g := pick_ok (by
  intro p hp
  cases hp)
def fin : St → Option R := finOf ty [.tmp 2] outs into
def lam (n : Nat) : Nat → (St → Option R) → St → Option R := fun _ => fun _ _ => none
theorem loops (n : Nat) : LoopsOk cfg (pick (cal n)) (lam n) fin (loopsOf cfg.blk code) := by
  have h : loopsOf cfg.blk code = [] := by kernel_rfl
  rw [h]
  intro p hp
  cases hp
noncomputable def parts : NilParts := nilParts code
theorem F_eqf (n : Nat) (x0 : List (Int)) : slices_Clone_int_int.F n x0 = exK cfg (pick (cal n)) (lam n) fin parts.r0 (fun _ _ => none) (mkSt shp (x0, ())) (fun st1 =>
    exK cfg (pick (cal n)) (lam n) fin parts.cnd (fun _ _ => none) (nilSt 3 4 false st1) fun st2 =>
    exK cfg (pick (cal n)) (lam n) fin parts.rest (fun _ _ => none) st2 fin) := by
  kernel_rfl
theorem F_eqt (n : Nat) : slices_Clone_int_int.F n [] = exK cfg (pick (cal n)) (lam n) fin parts.r0 (fun _ _ => none) (mkSt shp ([], ())) (fun st1 =>
    exK cfg (pick (cal n)) (lam n) fin parts.cnd (fun _ _ => none) (nilSt 3 4 true st1) fun st2 =>
    exK cfg (pick (cal n)) (lam n) fin parts.rest (fun _ _ => none) st2 fin) := by
  kernel_rfl
def pfn (n : Nat) : PFn := mkFn shp outs (fun x => slices_Clone_int_int.F n x.1) out
theorem ok (n : Nat) : (pfn n).Ok Go.Proofs.Tryz.prog 46 :=
  mkFn_ok_nil (p := parts) (t := 25) (d3 := 3) (d4 := 4) (u := 3) (q := 25) rfl (fn := Go.Proofs.Tryz.f46) (code := code) Go.Proofs.Tryz.func46 (by kernel_rfl) (by decide) (by kernel_rfl) ⟨by kernel_rfl, by kernel_rfl, by kernel_rfl⟩ ⟨by kernel_rfl, by kernel_rfl, by kernel_rfl⟩ (C := cfg) (Φ := pick (cal n)) (Λ := lam n) (into := into) hT (cal_ok n) (by kernel_rfl) rfl (by decide) rfl (by kernel_rfl) ⟨by decide, by decide⟩ ⟨by decide, by decide⟩ (fun _ => rfl) (by kernel_rfl) (by kernel_rfl) (by kernel_rfl)
    (fun l r h b hb => by
      cases b with
      | false => exact (F_eqf n l).symm.trans h
      | true =>
        have hl := hb rfl
        subst hl
        exact (F_eqt n).symm.trans h)
end slices_Clone_int_int
end
/-! ### loop.example/g01158/impl.LeastNeeds$1$1 -/
section
namespace impl_LeastNeeds_1_1_c0
noncomputable def code : Code := (Go.Proofs.Tryz.f49.body).getD .skip
abbrev shp : Shape := [(0, .one (.int .i64)), (1, .box false [.int .i64])]
abbrev outs : List KD := [.one (.bool)]
abbrev R : Type := Bool
def out : R → denL outs := fun r => (r, ())
def into : denL outs → R := fun y => y.1
def cfg : Cfg := ⟨ty, 12, [], fun _ => .plain, fun _ => none⟩
def cal (n : Nat) : List (Nat × PFn) := [(50, impl_has.pfn n)]
theorem cal_ok (n : Nat) : ∀ g, (pick (cal n) g).Ok Go.Proofs.Tryz.prog g := pick_ok (by
  intro p hp
  simp only [cal, List.mem_cons, List.not_mem_nil, or_false] at hp
  rcases hp with rfl
  · exact impl_has.ok n)
def fin : St → Option R := finOf ty [.tmp 3] outs into
def lam (n : Nat) : Nat → (St → Option R) → St → Option R := fun _ => fun _ _ => none
theorem loops (n : Nat) : LoopsOk cfg (pick (cal n)) (lam n) fin (loopsOf cfg.blk code) := by
  have h : loopsOf cfg.blk code = [] := by kernel_rfl
  rw [h]
  intro p hp
  cases hp
theorem F_eq (n : Nat) (x0 : Int) (x1 : Int) : impl_LeastNeeds_1_1_c0.F n x0 x1 = exK cfg (pick (cal n)) (lam n) fin code (fun _ _ => none) (mkSt shp (x0, (x1, ()), ())) fin := by
  kernel_rfl
def pfn (n : Nat) : PFn := mkFn shp outs (fun x => impl_LeastNeeds_1_1_c0.F n x.1 x.2.1.1) out
theorem ok (n : Nat) : (pfn n).Ok Go.Proofs.Tryz.prog 49 :=
  mkFn_ok (fn := Go.Proofs.Tryz.f49) (code := code) Go.Proofs.Tryz.func49 (by kernel_rfl) (by decide) (C := cfg) (Φ := pick (cal n)) (Λ := lam n) (into := into) hT (cal_ok n) (by kernel_rfl) rfl (by decide) rfl (fun _ => rfl) (loops n)
    (fun x r h => by
      have e := F_eq n x.1 x.2.1.1
      exact e.symm.trans h)
end impl_LeastNeeds_1_1_c0
end
/-! ### slices.IndexFunc[[]int,int] -/
section
namespace slices_IndexFunc_int_int_cLeastNeeds_1_1
noncomputable def code : Code := (Go.Proofs.Tryz.f80.body).getD .skip
abbrev shp : Shape := [(0, .one (.row (.int .i64) false)), (1, .cap (.box false [.int .i64]) (.fn 49 []))]
abbrev outs : List KD := [.one (.int .i64)]
abbrev R : Type := Int
def out : R → denL outs := fun r => (r, ())
def into : denL outs → R := fun y => y.1
def cfg : Cfg := ⟨ty, 19, [], fun i => match Nat.beq i 0 with | true => .loop | false => .plain, fun _ => none⟩
def cal (n : Nat) : List (Nat × PFn) := [(49, impl_LeastNeeds_1_1_c0.pfn n)]
theorem cal_ok (n : Nat) : ∀ g, (pick (cal n) g).Ok Go.Proofs.Tryz.prog g := pick_ok (by
  intro p hp
  simp only [cal, List.mem_cons, List.not_mem_nil, or_false] at hp
  rcases hp with rfl
  · exact impl_LeastNeeds_1_1_c0.ok n)
def fin : St → Option R := finOf ty [.tmp 4] outs into
abbrev sin0 : Shape := [(0, .one (.row (.int .i64) false)), (1, .cap (.box false [.int .i64]) (.fn 49 [])), (7, .one (.int .i64)), (8, .one (.int .i64))]
abbrev sout0 : Shape := []
def lam (n : Nat) : Nat → (St → Option R) → St → Option R := fun i => match Nat.beq i 0 with | true => (fun K st => match absSt sin0 st with | some (x, _) => slices_IndexFunc_int_int_cLeastNeeds_1_1.l0 n (fun _ => K (mkSt sout0 ())) n x.1 x.2.1.1.1 x.2.2.1 x.2.2.2.1 | none => none) | false => fun _ _ => none
noncomputable def lps : List (Nat × Code) := loopsOf cfg.blk code
noncomputable def b0 : Code := bodyOf lps 0
theorem l0_eq (n : Nat) (K : St → Option R) : ∀ (j : Nat) (x0 : List (Int)) (x1 : Int) (x2 : Int) (x3 : Int), slices_IndexFunc_int_int_cLeastNeeds_1_1.l0 n (fun _ => K (mkSt sout0 ())) j x0 x1 x2 x3 = iter (roundK cfg (pick (cal n)) (lam n) fin 0 b0 sin0 sout0 K) j (mkSt sin0 (x0, ((x1, ()), ()), x2, x3, ()))
  | 0, _, _, _, _ => rfl
  | j + 1, x0, x1, x2, x3 => by
    have ih : slices_IndexFunc_int_int_cLeastNeeds_1_1.l0 n (fun _ => K (mkSt sout0 ())) j = fun x0 x1 x2 x3 => iter (roundK cfg (pick (cal n)) (lam n) fin 0 b0 sin0 sout0 K) j (mkSt sin0 (x0, ((x1, ()), ()), x2, x3, ())) := funext fun x0 => funext fun x1 => funext fun x2 => funext fun x3 => l0_eq n K j x0 x1 x2 x3
    rw [slices_IndexFunc_int_int_cLeastNeeds_1_1.l0, ih]
    show _ = roundK cfg (pick (cal n)) (lam n) fin 0 b0 sin0 sout0 K (iter (roundK cfg (pick (cal n)) (lam n) fin 0 b0 sin0 sout0 K) j) (mkSt sin0 (x0, ((x1, ()), ()), x2, x3, ()))
    kernel_rfl
theorem loops (n : Nat) : LoopsOk cfg (pick (cal n)) (lam n) fin (loopsOf cfg.blk code) := by
  have h : loopsOf cfg.blk code = [(0, b0)] := by kernel_rfl
  rw [h]
  intro p hp K st r hr
  simp only [List.mem_cons, List.not_mem_nil, or_false] at hp
  rcases hp with rfl
  · have hr' : (match absSt sin0 st with | some (x, _) => slices_IndexFunc_int_int_cLeastNeeds_1_1.l0 n (fun _ => K (mkSt sout0 ())) n x.1 x.2.1.1.1 x.2.2.1 x.2.2.2.1 | none => none) = some r := hr
    split at hr'
    · rename_i x es hx
      rw [l0_eq] at hr'
      exact ⟨sin0, sout0, n, x, es, hx, hr'⟩
    · cases hr'
theorem F_eq (n : Nat) (x0 : List (Int)) (x1 : Int) : slices_IndexFunc_int_int_cLeastNeeds_1_1.F n x0 x1 = exK cfg (pick (cal n)) (lam n) fin code (fun _ _ => none) (mkSt shp (x0, ((x1, ()), ()), ())) fin := by
  kernel_rfl
def pfn (n : Nat) : PFn := mkFn shp outs (fun x => slices_IndexFunc_int_int_cLeastNeeds_1_1.F n x.1 x.2.1.1.1) out
theorem ok (n : Nat) : (pfn n).Ok Go.Proofs.Tryz.prog 80 :=
  mkFn_ok (fn := Go.Proofs.Tryz.f80) (code := code) Go.Proofs.Tryz.func80 (by kernel_rfl) (by decide) (C := cfg) (Φ := pick (cal n)) (Λ := lam n) (into := into) hT (cal_ok n) (by kernel_rfl) rfl (by decide) rfl (fun _ => rfl) (loops n)
    (fun x r h => by
      have e := F_eq n x.1 x.2.1.1.1
      exact e.symm.trans h)
end slices_IndexFunc_int_int_cLeastNeeds_1_1
end
/-! ### slices.ContainsFunc[[]int,int] -/
section
namespace slices_ContainsFunc_int_int_cLeastNeeds_1_1
noncomputable def code : Code := (Go.Proofs.Tryz.f48.body).getD .skip
abbrev shp : Shape := [(0, .one (.row (.int .i64) false)), (1, .cap (.box false [.int .i64]) (.fn 49 []))]
abbrev outs : List KD := [.one (.bool)]
abbrev R : Type := Bool
def out : R → denL outs := fun r => (r, ())
def into : denL outs → R := fun y => y.1
def cfg : Cfg := ⟨ty, 9, [], fun _ => .plain, fun _ => none⟩
def cal (n : Nat) : List (Nat × PFn) := [(80, slices_IndexFunc_int_int_cLeastNeeds_1_1.pfn n)]
theorem cal_ok (n : Nat) : ∀ g, (pick (cal n) g).Ok Go.Proofs.Tryz.prog g := pick_ok (by
  intro p hp
  simp only [cal, List.mem_cons, List.not_mem_nil, or_false] at hp
  rcases hp with rfl
  · exact slices_IndexFunc_int_int_cLeastNeeds_1_1.ok n)
def fin : St → Option R := finOf ty [.tmp 4] outs into
def lam (n : Nat) : Nat → (St → Option R) → St → Option R := fun _ => fun _ _ => none
theorem loops (n : Nat) : LoopsOk cfg (pick (cal n)) (lam n) fin (loopsOf cfg.blk code) := by
  have h : loopsOf cfg.blk code = [] := by kernel_rfl
  rw [h]
  intro p hp
  cases hp
theorem F_eq (n : Nat) (x0 : List (Int)) (x1 : Int) : slices_ContainsFunc_int_int_cLeastNeeds_1_1.F n x0 x1 = exK cfg (pick (cal n)) (lam n) fin code (fun _ _ => none) (mkSt shp (x0, ((x1, ()), ()), ())) fin := by
  kernel_rfl
def pfn (n : Nat) : PFn := mkFn shp outs (fun x => slices_ContainsFunc_int_int_cLeastNeeds_1_1.F n x.1 x.2.1.1.1) out
theorem ok (n : Nat) : (pfn n).Ok Go.Proofs.Tryz.prog 48 :=
  mkFn_ok (fn := Go.Proofs.Tryz.f48) (code := code) Go.Proofs.Tryz.func48 (by kernel_rfl) (by decide) (C := cfg) (Φ := pick (cal n)) (Λ := lam n) (into := into) hT (cal_ok n) (by kernel_rfl) rfl (by decide) rfl (fun _ => rfl) (loops n)
    (fun x r h => by
      have e := F_eq n x.1 x.2.1.1.1
      exact e.symm.trans h)
end slices_ContainsFunc_int_int_cLeastNeeds_1_1
end
/-! ### loop.example/g01158/impl.LeastNeeds$1 -/
section
namespace impl_LeastNeeds_1_c0
noncomputable def code : Code := (Go.Proofs.Tryz.f47.body).getD .skip
abbrev shp : Shape := [(0, .one (.int .i64)), (1, .box false [.row (.int .i64) false])]
abbrev outs : List KD := [.one (.bool)]
abbrev R : Type := Bool
def out : R → denL outs := fun r => (r, ())
def into : denL outs → R := fun y => y.1
def cfg : Cfg := ⟨ty, 7, [], fun _ => .plain, fun _ => none⟩
def cal (n : Nat) : List (Nat × PFn) := [(48, slices_ContainsFunc_int_int_cLeastNeeds_1_1.pfn n)]
theorem cal_ok (n : Nat) : ∀ g, (pick (cal n) g).Ok Go.Proofs.Tryz.prog g := pick_ok (by
  intro p hp
  simp only [cal, List.mem_cons, List.not_mem_nil, or_false] at hp
  rcases hp with rfl
  · exact slices_ContainsFunc_int_int_cLeastNeeds_1_1.ok n)
def fin : St → Option R := finOf ty [.tmp 3] outs into
def lam (n : Nat) : Nat → (St → Option R) → St → Option R := fun _ => fun _ _ => none
theorem loops (n : Nat) : LoopsOk cfg (pick (cal n)) (lam n) fin (loopsOf cfg.blk code) := by
  have h : loopsOf cfg.blk code = [] := by kernel_rfl
  rw [h]
  intro p hp
  cases hp
theorem F_eq (n : Nat) (x0 : Int) (x1 : List (Int)) : impl_LeastNeeds_1_c0.F n x0 x1 = exK cfg (pick (cal n)) (lam n) fin code (fun _ _ => none) (mkSt shp (x0, (x1, ()), ())) fin := by
  kernel_rfl
def pfn (n : Nat) : PFn := mkFn shp outs (fun x => impl_LeastNeeds_1_c0.F n x.1 x.2.1.1) out
theorem ok (n : Nat) : (pfn n).Ok Go.Proofs.Tryz.prog 47 :=
  mkFn_ok (fn := Go.Proofs.Tryz.f47) (code := code) Go.Proofs.Tryz.func47 (by kernel_rfl) (by decide) (C := cfg) (Φ := pick (cal n)) (Λ := lam n) (into := into) hT (cal_ok n) (by kernel_rfl) rfl (by decide) rfl (fun _ => rfl) (loops n)
    (fun x r h => by
      have e := F_eq n x.1 x.2.1.1
      exact e.symm.trans h)
end impl_LeastNeeds_1_c0
end
/-! ### slices.IndexFunc[[]int,int] -/
section
namespace slices_IndexFunc_int_int_cLeastNeeds_1
noncomputable def code : Code := (Go.Proofs.Tryz.f80.body).getD .skip
abbrev shp : Shape := [(0, .one (.row (.int .i64) false)), (1, .cap (.box false [.row (.int .i64) false]) (.fn 47 []))]
abbrev outs : List KD := [.one (.int .i64)]
abbrev R : Type := Int
def out : R → denL outs := fun r => (r, ())
def into : denL outs → R := fun y => y.1
def cfg : Cfg := ⟨ty, 19, [], fun i => match Nat.beq i 0 with | true => .loop | false => .plain, fun _ => none⟩
def cal (n : Nat) : List (Nat × PFn) := [(47, impl_LeastNeeds_1_c0.pfn n)]
theorem cal_ok (n : Nat) : ∀ g, (pick (cal n) g).Ok Go.Proofs.Tryz.prog g := pick_ok (by
  intro p hp
  simp only [cal, List.mem_cons, List.not_mem_nil, or_false] at hp
  rcases hp with rfl
  · exact impl_LeastNeeds_1_c0.ok n)
def fin : St → Option R := finOf ty [.tmp 4] outs into
abbrev sin0 : Shape := [(0, .one (.row (.int .i64) false)), (1, .cap (.box false [.row (.int .i64) false]) (.fn 47 [])), (7, .one (.int .i64)), (8, .one (.int .i64))]
abbrev sout0 : Shape := []
def lam (n : Nat) : Nat → (St → Option R) → St → Option R := fun i => match Nat.beq i 0 with | true => (fun K st => match absSt sin0 st with | some (x, _) => slices_IndexFunc_int_int_cLeastNeeds_1.l0 n (fun _ => K (mkSt sout0 ())) n x.1 x.2.1.1.1 x.2.2.1 x.2.2.2.1 | none => none) | false => fun _ _ => none
noncomputable def lps : List (Nat × Code) := loopsOf cfg.blk code
noncomputable def b0 : Code := bodyOf lps 0
theorem l0_eq (n : Nat) (K : St → Option R) : ∀ (j : Nat) (x0 : List (Int)) (x1 : List (Int)) (x2 : Int) (x3 : Int), slices_IndexFunc_int_int_cLeastNeeds_1.l0 n (fun _ => K (mkSt sout0 ())) j x0 x1 x2 x3 = iter (roundK cfg (pick (cal n)) (lam n) fin 0 b0 sin0 sout0 K) j (mkSt sin0 (x0, ((x1, ()), ()), x2, x3, ()))
  | 0, _, _, _, _ => rfl
  | j + 1, x0, x1, x2, x3 => by
    have ih : slices_IndexFunc_int_int_cLeastNeeds_1.l0 n (fun _ => K (mkSt sout0 ())) j = fun x0 x1 x2 x3 => iter (roundK cfg (pick (cal n)) (lam n) fin 0 b0 sin0 sout0 K) j (mkSt sin0 (x0, ((x1, ()), ()), x2, x3, ())) := funext fun x0 => funext fun x1 => funext fun x2 => funext fun x3 => l0_eq n K j x0 x1 x2 x3
    rw [slices_IndexFunc_int_int_cLeastNeeds_1.l0, ih]
    show _ = roundK cfg (pick (cal n)) (lam n) fin 0 b0 sin0 sout0 K (iter (roundK cfg (pick (cal n)) (lam n) fin 0 b0 sin0 sout0 K) j) (mkSt sin0 (x0, ((x1, ()), ()), x2, x3, ()))
    kernel_rfl
theorem loops (n : Nat) : LoopsOk cfg (pick (cal n)) (lam n) fin (loopsOf cfg.blk code) := by
  have h : loopsOf cfg.blk code = [(0, b0)] := by kernel_rfl
  rw [h]
  intro p hp K st r hr
  simp only [List.mem_cons, List.not_mem_nil, or_false] at hp
  rcases hp with rfl
  · have hr' : (match absSt sin0 st with | some (x, _) => slices_IndexFunc_int_int_cLeastNeeds_1.l0 n (fun _ => K (mkSt sout0 ())) n x.1 x.2.1.1.1 x.2.2.1 x.2.2.2.1 | none => none) = some r := hr
    split at hr'
    · rename_i x es hx
      rw [l0_eq] at hr'
      exact ⟨sin0, sout0, n, x, es, hx, hr'⟩
    · cases hr'
theorem F_eq (n : Nat) (x0 : List (Int)) (x1 : List (Int)) : slices_IndexFunc_int_int_cLeastNeeds_1.F n x0 x1 = exK cfg (pick (cal n)) (lam n) fin code (fun _ _ => none) (mkSt shp (x0, ((x1, ()), ()), ())) fin := by
  kernel_rfl
def pfn (n : Nat) : PFn := mkFn shp outs (fun x => slices_IndexFunc_int_int_cLeastNeeds_1.F n x.1 x.2.1.1.1) out
theorem ok (n : Nat) : (pfn n).Ok Go.Proofs.Tryz.prog 80 :=
  mkFn_ok (fn := Go.Proofs.Tryz.f80) (code := code) Go.Proofs.Tryz.func80 (by kernel_rfl) (by decide) (C := cfg) (Φ := pick (cal n)) (Λ := lam n) (into := into) hT (cal_ok n) (by kernel_rfl) rfl (by decide) rfl (fun _ => rfl) (loops n)
    (fun x r h => by
      have e := F_eq n x.1 x.2.1.1.1
      exact e.symm.trans h)
end slices_IndexFunc_int_int_cLeastNeeds_1
end
/-! ### slices.DeleteFunc[[]int,int] -/
section
namespace slices_DeleteFunc_int_int_cLeastNeeds_1
noncomputable def code : Code := (Go.Proofs.Tryz.f45.body).getD .skip
abbrev shp : Shape := [(0, .one (.row (.int .i64) true)), (1, .cap (.box false [.row (.int .i64) false]) (.fn 47 []))]
abbrev outs : List KD := [.one (.row (.int .i64) true)]
abbrev R : Type := (List (Int))
def out : R → denL outs := fun r => (r, ())
def into : denL outs → R := fun y => y.1
def cfg : Cfg := ⟨ty, 42, [], fun i => match Nat.beq i 0 with | true => .loop | false => .plain, fun _ => none⟩
def cal (n : Nat) : List (Nat × PFn) := [(47, impl_LeastNeeds_1_c0.pfn n), (80, slices_IndexFunc_int_int_cLeastNeeds_1.pfn n)]
theorem cal_ok (n : Nat) : ∀ g, (pick (cal n) g).Ok Go.Proofs.Tryz.prog g := pick_ok (by
  intro p hp
  simp only [cal, List.mem_cons, List.not_mem_nil, or_false] at hp
  rcases hp with rfl | rfl
  · exact impl_LeastNeeds_1_c0.ok n
  · exact slices_IndexFunc_int_int_cLeastNeeds_1.ok n)
def fin : St → Option R := finOf ty [.tmp 4] outs into
abbrev sin0 : Shape := [(0, .one (.row (.int .i64) true)), (1, .cap (.box false [.row (.int .i64) false]) (.fn 47 [])), (5, .one (.int .i64)), (6, .one (.int .i64))]
abbrev sout0 : Shape := [(0, .one (.row (.int .i64) true)), (5, .one (.int .i64))]
def lam (n : Nat) : Nat → (St → Option R) → St → Option R := fun i => match Nat.beq i 0 with | true => (fun K st => match absSt sin0 st with | some (x, _) => slices_DeleteFunc_int_int_cLeastNeeds_1.l0 n (fun y0 y1 => K (mkSt sout0 (y0, y1, ()))) n x.1 x.2.1.1.1 x.2.2.1 x.2.2.2.1 | none => none) | false => fun _ _ => none
noncomputable def lps : List (Nat × Code) := loopsOf cfg.blk code
noncomputable def b0 : Code := bodyOf lps 0
theorem l0_eq (n : Nat) (K : St → Option R) : ∀ (j : Nat) (x0 : List (Int)) (x1 : List (Int)) (x2 : Int) (x3 : Int), slices_DeleteFunc_int_int_cLeastNeeds_1.l0 n (fun y0 y1 => K (mkSt sout0 (y0, y1, ()))) j x0 x1 x2 x3 = iter (roundK cfg (pick (cal n)) (lam n) fin 0 b0 sin0 sout0 K) j (mkSt sin0 (x0, ((x1, ()), ()), x2, x3, ()))
  | 0, _, _, _, _ => rfl
  | j + 1, x0, x1, x2, x3 => by
    have ih : slices_DeleteFunc_int_int_cLeastNeeds_1.l0 n (fun y0 y1 => K (mkSt sout0 (y0, y1, ()))) j = fun x0 x1 x2 x3 => iter (roundK cfg (pick (cal n)) (lam n) fin 0 b0 sin0 sout0 K) j (mkSt sin0 (x0, ((x1, ()), ()), x2, x3, ())) := funext fun x0 => funext fun x1 => funext fun x2 => funext fun x3 => l0_eq n K j x0 x1 x2 x3
    rw [slices_DeleteFunc_int_int_cLeastNeeds_1.l0, ih]
    show _ = roundK cfg (pick (cal n)) (lam n) fin 0 b0 sin0 sout0 K (iter (roundK cfg (pick (cal n)) (lam n) fin 0 b0 sin0 sout0 K) j) (mkSt sin0 (x0, ((x1, ()), ()), x2, x3, ()))
    kernel_rfl
theorem loops (n : Nat) : LoopsOk cfg (pick (cal n)) (lam n) fin (loopsOf cfg.blk code) := by
  have h : loopsOf cfg.blk code = [(0, b0)] := by kernel_rfl
  rw [h]
  intro p hp K st r hr
  simp only [List.mem_cons, List.not_mem_nil, or_false] at hp
  rcases hp with rfl
  · have hr' : (match absSt sin0 st with | some (x, _) => slices_DeleteFunc_int_int_cLeastNeeds_1.l0 n (fun y0 y1 => K (mkSt sout0 (y0, y1, ()))) n x.1 x.2.1.1.1 x.2.2.1 x.2.2.2.1 | none => none) = some r := hr
    split at hr'
    · rename_i x es hx
      rw [l0_eq] at hr'
      exact ⟨sin0, sout0, n, x, es, hx, hr'⟩
    · cases hr'
theorem F_eq (n : Nat) (x0 : List (Int)) (x1 : List (Int)) : slices_DeleteFunc_int_int_cLeastNeeds_1.F n x0 x1 = exK cfg (pick (cal n)) (lam n) fin code (fun _ _ => none) (mkSt shp (x0, ((x1, ()), ()), ())) fin := by
  kernel_rfl
def pfn (n : Nat) : PFn := mkFn shp outs (fun x => slices_DeleteFunc_int_int_cLeastNeeds_1.F n x.1 x.2.1.1.1) out
theorem ok (n : Nat) : (pfn n).Ok Go.Proofs.Tryz.prog 45 :=
  mkFn_ok (fn := Go.Proofs.Tryz.f45) (code := code) Go.Proofs.Tryz.func45 (by kernel_rfl) (by decide) (C := cfg) (Φ := pick (cal n)) (Λ := lam n) (into := into) hT (cal_ok n) (by kernel_rfl) rfl (by decide) rfl (fun _ => rfl) (loops n)
    (fun x r h => by
      have e := F_eq n x.1 x.2.1.1.1
      exact e.symm.trans h)
end slices_DeleteFunc_int_int_cLeastNeeds_1
end
/-! ### loop.example/g01158/impl.LeastNeeds -/
section
namespace impl_LeastNeeds
noncomputable def code : Code := (Go.Proofs.Tryz.f8.body).getD .skip
abbrev shp : Shape := [(0, .agg [.int .i64, .row (.t3) false, .row (.int .i64) false]), (1, .one (.int .i64)), (2, .one (.int .i64))]
abbrev outs : List KD := [.one (.row (.int .i64) true), .one (.bool)]
abbrev R : Type := (List (Int)) × Bool
def out : R → denL outs := fun r => (r.1, r.2, ())
def into : denL outs → R := fun y => (y.1, y.2.1)
def cfg : Cfg := ⟨ty, 49, [], fun i => match Nat.beq i 0 with | true => .loop | false => .plain, fun _ => none⟩
def cal (n : Nat) : List (Nat × PFn) := [(39, impl_isNode.pfn n), (45, slices_DeleteFunc_int_int_cLeastNeeds_1.pfn n), (46, slices_Clone_int_int.pfn n)]
theorem cal_ok (n : Nat) : ∀ g, (pick (cal n) g).Ok Go.Proofs.Tryz.prog g := pick_ok (by
  intro p hp
  simp only [cal, List.mem_cons, List.not_mem_nil, or_false] at hp
  rcases hp with rfl | rfl | rfl
  · exact impl_isNode.ok n
  · exact slices_DeleteFunc_int_int_cLeastNeeds_1.ok n
  · exact slices_Clone_int_int.ok n)
def fin : St → Option R := finOf ty [.tmp 6, .tmp 7] outs into
abbrev sin0 : Shape := [(1, .one (.int .i64)), (2, .one (.int .i64)), (8, .box true [.row (.int .i64) true]), (19, .one (.row (.t3) false)), (20, .one (.int .i64)), (21, .one (.int .i64))]
abbrev sout0 : Shape := [(8, .box true [.row (.int .i64) true])]
def lam (n : Nat) : Nat → (St → Option R) → St → Option R := fun i => match Nat.beq i 0 with | true => (fun K st => match absSt sin0 st with | some (x, _) => impl_LeastNeeds.l0 n (fun y0 => K (mkSt sout0 ((y0, ()), ()))) n x.1 x.2.1 x.2.2.1.1 x.2.2.2.1 x.2.2.2.2.1 x.2.2.2.2.2.1 | none => none) | false => fun _ _ => none
noncomputable def lps : List (Nat × Code) := loopsOf cfg.blk code
noncomputable def b0 : Code := bodyOf lps 0
theorem l0_eq (n : Nat) (K : St → Option R) : ∀ (j : Nat) (x0 : Int) (x1 : Int) (x2 : List (Int)) (x3 : List (Int × Int × Int)) (x4 : Int) (x5 : Int), impl_LeastNeeds.l0 n (fun y0 => K (mkSt sout0 ((y0, ()), ()))) j x0 x1 x2 x3 x4 x5 = iter (roundK cfg (pick (cal n)) (lam n) fin 0 b0 sin0 sout0 K) j (mkSt sin0 (x0, x1, (x2, ()), x3, x4, x5, ()))
  | 0, _, _, _, _, _, _ => rfl
  | j + 1, x0, x1, x2, x3, x4, x5 => by
    have ih : impl_LeastNeeds.l0 n (fun y0 => K (mkSt sout0 ((y0, ()), ()))) j = fun x0 x1 x2 x3 x4 x5 => iter (roundK cfg (pick (cal n)) (lam n) fin 0 b0 sin0 sout0 K) j (mkSt sin0 (x0, x1, (x2, ()), x3, x4, x5, ())) := funext fun x0 => funext fun x1 => funext fun x2 => funext fun x3 => funext fun x4 => funext fun x5 => l0_eq n K j x0 x1 x2 x3 x4 x5
    rw [impl_LeastNeeds.l0, ih]
    show _ = roundK cfg (pick (cal n)) (lam n) fin 0 b0 sin0 sout0 K (iter (roundK cfg (pick (cal n)) (lam n) fin 0 b0 sin0 sout0 K) j) (mkSt sin0 (x0, x1, (x2, ()), x3, x4, x5, ()))
    kernel_rfl
theorem loops (n : Nat) : LoopsOk cfg (pick (cal n)) (lam n) fin (loopsOf cfg.blk code) := by
  have h : loopsOf cfg.blk code = [(0, b0)] := by kernel_rfl
  rw [h]
  intro p hp K st r hr
  simp only [List.mem_cons, List.not_mem_nil, or_false] at hp
  rcases hp with rfl
  · have hr' : (match absSt sin0 st with | some (x, _) => impl_LeastNeeds.l0 n (fun y0 => K (mkSt sout0 ((y0, ()), ()))) n x.1 x.2.1 x.2.2.1.1 x.2.2.2.1 x.2.2.2.2.1 x.2.2.2.2.2.1 | none => none) = some r := hr
    split at hr'
    · rename_i x es hx
      rw [l0_eq] at hr'
      exact ⟨sin0, sout0, n, x, es, hx, hr'⟩
    · cases hr'
theorem F_eq (n : Nat) (x0 : Int) (x1 : List (Int × Int × Int)) (x2 : List (Int)) (x3 : Int) (x4 : Int) : impl_LeastNeeds.F n x0 x1 x2 x3 x4 = exK cfg (pick (cal n)) (lam n) fin code (fun _ _ => none) (mkSt shp ((x0, x1, x2, ()), x3, x4, ())) fin := by
  kernel_rfl
def pfn (n : Nat) : PFn := mkFn shp outs (fun x => impl_LeastNeeds.F n x.1.1 x.1.2.1 x.1.2.2.1 x.2.1 x.2.2.1) out
theorem ok (n : Nat) : (pfn n).Ok Go.Proofs.Tryz.prog 8 :=
  mkFn_ok (fn := Go.Proofs.Tryz.f8) (code := code) Go.Proofs.Tryz.func8 (by kernel_rfl) (by decide) (C := cfg) (Φ := pick (cal n)) (Λ := lam n) (into := into) hT (cal_ok n) (by kernel_rfl) rfl (by decide) rfl (fun _ => rfl) (loops n)
    (fun x r h => by
      have e := F_eq n x.1.1 x.1.2.1 x.1.2.2.1 x.2.1 x.2.2.1
      exact e.symm.trans h)
end impl_LeastNeeds
end
/-! ### loop.example/g01158/spec.LeastNeeds -/
section
namespace spec_LeastNeeds
noncomputable def code : Code := (Go.Proofs.Tryz.f9.body).getD .skip
abbrev shp : Shape := [(0, .agg [.int .i64, .row (.t3) false, .row (.int .i64) false]), (1, .one (.int .i64)), (2, .one (.int .i64))]
abbrev outs : List KD := [.one (.row (.int .i64) true), .one (.bool)]
abbrev R : Type := (List (Int)) × Bool
def out : R → denL outs := fun r => (r.1, r.2, ())
def into : denL outs → R := fun y => (y.1, y.2.1)
def cfg : Cfg := ⟨ty, 88, [], fun i => match Nat.beq i 2 with | true => .loop | false => match Nat.beq i 0 with | true => .loop | false => .plain, fun i => match Nat.beq i 4 with | true => some [(1, .one (.int .i64)), (2, .one (.int .i64)), (3, .box true [.int .i64, .row (.t3) false, .row (.int .i64) false]), (8, .one (.row (.int .i64) true))] | false => none⟩
def cal (n : Nat) : List (Nat × PFn) := [(42, spec_l2Node.pfn n), (51, spec_l2Joins.pfn n), (52, spec_l2Has.pfn n)]
theorem cal_ok (n : Nat) : ∀ g, (pick (cal n) g).Ok Go.Proofs.Tryz.prog g := pick_ok (by
  intro p hp
  simp only [cal, List.mem_cons, List.not_mem_nil, or_false] at hp
  rcases hp with rfl | rfl | rfl
  · exact spec_l2Node.ok n
  · exact spec_l2Joins.ok n
  · exact spec_l2Has.ok n)
def fin : St → Option R := finOf ty [.tmp 6, .tmp 7] outs into
abbrev sin2 : Shape := [(1, .one (.int .i64)), (2, .one (.int .i64)), (3, .box true [.int .i64, .row (.t3) false, .row (.int .i64) false]), (8, .one (.row (.int .i64) true)), (9, .one (.int .i64)), (10, .one (.bool)), (11, .one (.int .i64))]
abbrev sout2 : Shape := [(1, .one (.int .i64)), (2, .one (.int .i64)), (3, .box true [.int .i64, .row (.t3) false, .row (.int .i64) false]), (8, .one (.row (.int .i64) true)), (9, .one (.int .i64)), (10, .one (.bool))]
abbrev sin0 : Shape := [(1, .one (.int .i64)), (2, .one (.int .i64)), (3, .box true [.int .i64, .row (.t3) false, .row (.int .i64) false]), (8, .one (.row (.int .i64) true)), (9, .one (.int .i64))]
abbrev sout0 : Shape := [(8, .one (.row (.int .i64) true))]
def lam (n : Nat) : Nat → (St → Option R) → St → Option R := fun i => match Nat.beq i 2 with | true => (fun K st => match absSt sin2 st with | some (x, _) => spec_LeastNeeds.l2 n (fun y0 y1 y2 y3 y4 y5 y6 y7 => K (mkSt sout2 (y0, y1, (y2, y3, y4, ()), y5, y6, y7, ()))) n x.1 x.2.1 x.2.2.1.1 x.2.2.1.2.1 x.2.2.1.2.2.1 x.2.2.2.1 x.2.2.2.2.1 x.2.2.2.2.2.1 x.2.2.2.2.2.2.1 | none => none) | false => match Nat.beq i 0 with | true => (fun K st => match absSt sin0 st with | some (x, _) => spec_LeastNeeds.l0 n (fun y0 => K (mkSt sout0 (y0, ()))) n x.1 x.2.1 x.2.2.1.1 x.2.2.1.2.1 x.2.2.1.2.2.1 x.2.2.2.1 x.2.2.2.2.1 | none => none) | false => fun _ _ => none
noncomputable def lps : List (Nat × Code) := loopsOf cfg.blk code
noncomputable def b2 : Code := bodyOf lps 2
theorem l2_eq (n : Nat) (K : St → Option R) : ∀ (j : Nat) (x0 : Int) (x1 : Int) (x2 : Int) (x3 : List (Int × Int × Int)) (x4 : List (Int)) (x5 : List (Int)) (x6 : Int) (x7 : Bool) (x8 : Int), spec_LeastNeeds.l2 n (fun y0 y1 y2 y3 y4 y5 y6 y7 => K (mkSt sout2 (y0, y1, (y2, y3, y4, ()), y5, y6, y7, ()))) j x0 x1 x2 x3 x4 x5 x6 x7 x8 = iter (roundK cfg (pick (cal n)) (lam n) fin 2 b2 sin2 sout2 K) j (mkSt sin2 (x0, x1, (x2, x3, x4, ()), x5, x6, x7, x8, ()))
  | 0, _, _, _, _, _, _, _, _, _ => rfl
  | j + 1, x0, x1, x2, x3, x4, x5, x6, x7, x8 => by
    have ih : spec_LeastNeeds.l2 n (fun y0 y1 y2 y3 y4 y5 y6 y7 => K (mkSt sout2 (y0, y1, (y2, y3, y4, ()), y5, y6, y7, ()))) j = fun x0 x1 x2 x3 x4 x5 x6 x7 x8 => iter (roundK cfg (pick (cal n)) (lam n) fin 2 b2 sin2 sout2 K) j (mkSt sin2 (x0, x1, (x2, x3, x4, ()), x5, x6, x7, x8, ())) := funext fun x0 => funext fun x1 => funext fun x2 => funext fun x3 => funext fun x4 => funext fun x5 => funext fun x6 => funext fun x7 => funext fun x8 => l2_eq n K j x0 x1 x2 x3 x4 x5 x6 x7 x8
    rw [spec_LeastNeeds.l2, ih]
    show _ = roundK cfg (pick (cal n)) (lam n) fin 2 b2 sin2 sout2 K (iter (roundK cfg (pick (cal n)) (lam n) fin 2 b2 sin2 sout2 K) j) (mkSt sin2 (x0, x1, (x2, x3, x4, ()), x5, x6, x7, x8, ()))
    kernel_rfl
noncomputable def b0 : Code := bodyOf lps 0
theorem l0_eq (n : Nat) (K : St → Option R) : ∀ (j : Nat) (x0 : Int) (x1 : Int) (x2 : Int) (x3 : List (Int × Int × Int)) (x4 : List (Int)) (x5 : List (Int)) (x6 : Int), spec_LeastNeeds.l0 n (fun y0 => K (mkSt sout0 (y0, ()))) j x0 x1 x2 x3 x4 x5 x6 = iter (roundK cfg (pick (cal n)) (lam n) fin 0 b0 sin0 sout0 K) j (mkSt sin0 (x0, x1, (x2, x3, x4, ()), x5, x6, ()))
  | 0, _, _, _, _, _, _, _ => rfl
  | j + 1, x0, x1, x2, x3, x4, x5, x6 => by
    have ih : spec_LeastNeeds.l0 n (fun y0 => K (mkSt sout0 (y0, ()))) j = fun x0 x1 x2 x3 x4 x5 x6 => iter (roundK cfg (pick (cal n)) (lam n) fin 0 b0 sin0 sout0 K) j (mkSt sin0 (x0, x1, (x2, x3, x4, ()), x5, x6, ())) := funext fun x0 => funext fun x1 => funext fun x2 => funext fun x3 => funext fun x4 => funext fun x5 => funext fun x6 => l0_eq n K j x0 x1 x2 x3 x4 x5 x6
    rw [spec_LeastNeeds.l0, ih]
    show _ = roundK cfg (pick (cal n)) (lam n) fin 0 b0 sin0 sout0 K (iter (roundK cfg (pick (cal n)) (lam n) fin 0 b0 sin0 sout0 K) j) (mkSt sin0 (x0, x1, (x2, x3, x4, ()), x5, x6, ()))
    kernel_rfl
theorem loops (n : Nat) : LoopsOk cfg (pick (cal n)) (lam n) fin (loopsOf cfg.blk code) := by
  have h : loopsOf cfg.blk code = [(0, b0), (2, b2)] := by kernel_rfl
  rw [h]
  intro p hp K st r hr
  simp only [List.mem_cons, List.not_mem_nil, or_false] at hp
  rcases hp with rfl | rfl
  · have hr' : (match absSt sin0 st with | some (x, _) => spec_LeastNeeds.l0 n (fun y0 => K (mkSt sout0 (y0, ()))) n x.1 x.2.1 x.2.2.1.1 x.2.2.1.2.1 x.2.2.1.2.2.1 x.2.2.2.1 x.2.2.2.2.1 | none => none) = some r := hr
    split at hr'
    · rename_i x es hx
      rw [l0_eq] at hr'
      exact ⟨sin0, sout0, n, x, es, hx, hr'⟩
    · cases hr'
  · have hr' : (match absSt sin2 st with | some (x, _) => spec_LeastNeeds.l2 n (fun y0 y1 y2 y3 y4 y5 y6 y7 => K (mkSt sout2 (y0, y1, (y2, y3, y4, ()), y5, y6, y7, ()))) n x.1 x.2.1 x.2.2.1.1 x.2.2.1.2.1 x.2.2.1.2.2.1 x.2.2.2.1 x.2.2.2.2.1 x.2.2.2.2.2.1 x.2.2.2.2.2.2.1 | none => none) = some r := hr
    split at hr'
    · rename_i x es hx
      rw [l2_eq] at hr'
      exact ⟨sin2, sout2, n, x, es, hx, hr'⟩
    · cases hr'
theorem F_eq (n : Nat) (x0 : Int) (x1 : List (Int × Int × Int)) (x2 : List (Int)) (x3 : Int) (x4 : Int) : spec_LeastNeeds.F n x0 x1 x2 x3 x4 = exK cfg (pick (cal n)) (lam n) fin code (fun _ _ => none) (mkSt shp ((x0, x1, x2, ()), x3, x4, ())) fin := by
  kernel_rfl
def pfn (n : Nat) : PFn := mkFn shp outs (fun x => spec_LeastNeeds.F n x.1.1 x.1.2.1 x.1.2.2.1 x.2.1 x.2.2.1) out
theorem ok (n : Nat) : (pfn n).Ok Go.Proofs.Tryz.prog 9 :=
  mkFn_ok (fn := Go.Proofs.Tryz.f9) (code := code) Go.Proofs.Tryz.func9 (by kernel_rfl) (by decide) (C := cfg) (Φ := pick (cal n)) (Λ := lam n) (into := into) hT (cal_ok n) (by kernel_rfl) rfl (by decide) rfl (fun _ => rfl) (loops n)
    (fun x r h => by
      have e := F_eq n x.1.1 x.1.2.1 x.1.2.2.1 x.2.1 x.2.2.1
      exact e.symm.trans h)
end spec_LeastNeeds
end
/-! ### loop.example/g01158/laws.rInts -/
section
namespace laws_rInts
noncomputable def code : Code := (Go.Proofs.Tryz.f10.body).getD .skip
abbrev shp : Shape := [(0, .one (.row (.int .i64) false)), (1, .one (.row (.int .i64) false))]
abbrev outs : List KD := [.one (.bool)]
abbrev R : Type := Bool
def out : R → denL outs := fun r => (r, ())
def into : denL outs → R := fun y => y.1
def cfg : Cfg := ⟨ty, 26, [], fun i => match Nat.beq i 0 with | true => .loop | false => .plain, fun _ => none⟩
def cal (n : Nat) : List (Nat × PFn) := []
theorem cal_ok (n : Nat) : ∀ g, (pick (cal n) g).Ok Go.Proofs.Tryz.prog g := pick_ok (by
  intro p hp
  cases hp)
def fin : St → Option R := finOf ty [.tmp 4] outs into
abbrev sin0 : Shape := [(0, .one (.row (.int .i64) false)), (1, .one (.row (.int .i64) false)), (5, .one (.int .i64))]
abbrev sout0 : Shape := []
def lam (n : Nat) : Nat → (St → Option R) → St → Option R := fun i => match Nat.beq i 0 with | true => (fun K st => match absSt sin0 st with | some (x, _) => laws_rInts.l0 n (fun _ => K (mkSt sout0 ())) n x.1 x.2.1 x.2.2.1 | none => none) | false => fun _ _ => none
noncomputable def lps : List (Nat × Code) := loopsOf cfg.blk code
noncomputable def b0 : Code := bodyOf lps 0
theorem l0_eq (n : Nat) (K : St → Option R) : ∀ (j : Nat) (x0 : List (Int)) (x1 : List (Int)) (x2 : Int), laws_rInts.l0 n (fun _ => K (mkSt sout0 ())) j x0 x1 x2 = iter (roundK cfg (pick (cal n)) (lam n) fin 0 b0 sin0 sout0 K) j (mkSt sin0 (x0, x1, x2, ()))
  | 0, _, _, _ => rfl
  | j + 1, x0, x1, x2 => by
    have ih : laws_rInts.l0 n (fun _ => K (mkSt sout0 ())) j = fun x0 x1 x2 => iter (roundK cfg (pick (cal n)) (lam n) fin 0 b0 sin0 sout0 K) j (mkSt sin0 (x0, x1, x2, ())) := funext fun x0 => funext fun x1 => funext fun x2 => l0_eq n K j x0 x1 x2
    rw [laws_rInts.l0, ih]
    show _ = roundK cfg (pick (cal n)) (lam n) fin 0 b0 sin0 sout0 K (iter (roundK cfg (pick (cal n)) (lam n) fin 0 b0 sin0 sout0 K) j) (mkSt sin0 (x0, x1, x2, ()))
    kernel_rfl
theorem loops (n : Nat) : LoopsOk cfg (pick (cal n)) (lam n) fin (loopsOf cfg.blk code) := by
  have h : loopsOf cfg.blk code = [(0, b0)] := by kernel_rfl
  rw [h]
  intro p hp K st r hr
  simp only [List.mem_cons, List.not_mem_nil, or_false] at hp
  rcases hp with rfl
  · have hr' : (match absSt sin0 st with | some (x, _) => laws_rInts.l0 n (fun _ => K (mkSt sout0 ())) n x.1 x.2.1 x.2.2.1 | none => none) = some r := hr
    split at hr'
    · rename_i x es hx
      rw [l0_eq] at hr'
      exact ⟨sin0, sout0, n, x, es, hx, hr'⟩
    · cases hr'
theorem F_eq (n : Nat) (x0 : List (Int)) (x1 : List (Int)) : laws_rInts.F n x0 x1 = exK cfg (pick (cal n)) (lam n) fin code (fun _ _ => none) (mkSt shp (x0, x1, ())) fin := by
  kernel_rfl
def pfn (n : Nat) : PFn := mkFn shp outs (fun x => laws_rInts.F n x.1 x.2.1) out
theorem ok (n : Nat) : (pfn n).Ok Go.Proofs.Tryz.prog 10 :=
  mkFn_ok (fn := Go.Proofs.Tryz.f10) (code := code) Go.Proofs.Tryz.func10 (by kernel_rfl) (by decide) (C := cfg) (Φ := pick (cal n)) (Λ := lam n) (into := into) hT (cal_ok n) (by kernel_rfl) rfl (by decide) rfl (fun _ => rfl) (loops n)
    (fun x r h => by
      have e := F_eq n x.1 x.2.1
      exact e.symm.trans h)
end laws_rInts
end
/-! ### loop.example/g01158/spec.DrawLeastNeeds -/
section
namespace spec_DrawLeastNeeds
noncomputable def code : Code := (Go.Proofs.Tryz.f11.body).getD .skip
abbrev shp : Shape := [(0, .one (.row (.int .u8) false))]
abbrev outs : List KD := [.agg [.int .i64, .row (.t3) true, .row (.int .i64) true], .one (.int .i64), .one (.int .i64)]
abbrev R : Type := Int × (List (Int × Int × Int)) × (List (Int)) × Int × Int
def out : R → denL outs := fun r => ((r.1, r.2.1, r.2.2.1, ()), r.2.2.2.1, r.2.2.2.2, ())
def into : denL outs → R := fun y => (y.1.1, y.1.2.1, y.1.2.2.1, y.2.1, y.2.2.1)
def cfg : Cfg := ⟨ty, 65, [], fun i => match Nat.beq i 0 with | true => .loop | false => .plain, fun _ => none⟩
def cal (n : Nat) : List (Nat × PFn) := [(33, spec_l1Cur_maze.pfn n), (34, spec_l1Cur_nodeOf.pfn n), (35, spec_l2Maze.pfn n), (36, spec_l1Cur_one.pfn n), (37, spec_l1Cur_pick.pfn n), (53, spec_l2Put.pfn n), (54, spec_l1Cur_few.pfn n)]
theorem cal_ok (n : Nat) : ∀ g, (pick (cal n) g).Ok Go.Proofs.Tryz.prog g := pick_ok (by
  intro p hp
  simp only [cal, List.mem_cons, List.not_mem_nil, or_false] at hp
  rcases hp with rfl | rfl | rfl | rfl | rfl | rfl | rfl
  · exact spec_l1Cur_maze.ok n
  · exact spec_l1Cur_nodeOf.ok n
  · exact spec_l2Maze.ok n
  · exact spec_l1Cur_one.ok n
  · exact spec_l1Cur_pick.ok n
  · exact spec_l2Put.ok n
  · exact spec_l1Cur_few.ok n)
def fin : St → Option R := finOf ty [.cell 2 27, .tmp 3, .tmp 4] outs into
abbrev sin0 : Shape := [(2, .box true [.int .i64, .row (.t3) true, .row (.int .i64) true]), (5, .box true [.row (.int .u8) false, .int .i64, .int .u64]), (6, .box true [.int .i64, .row (.t3) true, .row (.int .i64) true]), (7, .one (.int .i64)), (8, .one (.int .i64)), (10, .one (.int .i64))]
abbrev sout0 : Shape := [(2, .box true [.int .i64, .row (.t3) true, .row (.int .i64) true]), (6, .box true [.int .i64, .row (.t3) true, .row (.int .i64) true]), (7, .one (.int .i64)), (8, .one (.int .i64))]
def lam (n : Nat) : Nat → (St → Option R) → St → Option R := fun i => match Nat.beq i 0 with | true => (fun K st => match absSt sin0 st with | some (x, _) => spec_DrawLeastNeeds.l0 n (fun y0 y1 y2 y3 y4 y5 y6 y7 => K (mkSt sout0 ((y0, y1, y2, ()), (y3, y4, y5, ()), y6, y7, ()))) n x.1.1 x.1.2.1 x.1.2.2.1 x.2.1.1 x.2.1.2.1 x.2.1.2.2.1 x.2.2.1.1 x.2.2.1.2.1 x.2.2.1.2.2.1 x.2.2.2.1 x.2.2.2.2.1 x.2.2.2.2.2.1 | none => none) | false => fun _ _ => none
noncomputable def lps : List (Nat × Code) := loopsOf cfg.blk code
noncomputable def b0 : Code := bodyOf lps 0
theorem l0_eq (n : Nat) (K : St → Option R) : ∀ (j : Nat) (x0 : Int) (x1 : List (Int × Int × Int)) (x2 : List (Int)) (x3 : List (Int)) (x4 : Int) (x5 : Int) (x6 : Int) (x7 : List (Int × Int × Int)) (x8 : List (Int)) (x9 : Int) (x10 : Int) (x11 : Int), spec_DrawLeastNeeds.l0 n (fun y0 y1 y2 y3 y4 y5 y6 y7 => K (mkSt sout0 ((y0, y1, y2, ()), (y3, y4, y5, ()), y6, y7, ()))) j x0 x1 x2 x3 x4 x5 x6 x7 x8 x9 x10 x11 = iter (roundK cfg (pick (cal n)) (lam n) fin 0 b0 sin0 sout0 K) j (mkSt sin0 ((x0, x1, x2, ()), (x3, x4, x5, ()), (x6, x7, x8, ()), x9, x10, x11, ()))
  | 0, _, _, _, _, _, _, _, _, _, _, _, _ => rfl
  | j + 1, x0, x1, x2, x3, x4, x5, x6, x7, x8, x9, x10, x11 => by
    have ih : spec_DrawLeastNeeds.l0 n (fun y0 y1 y2 y3 y4 y5 y6 y7 => K (mkSt sout0 ((y0, y1, y2, ()), (y3, y4, y5, ()), y6, y7, ()))) j = fun x0 x1 x2 x3 x4 x5 x6 x7 x8 x9 x10 x11 => iter (roundK cfg (pick (cal n)) (lam n) fin 0 b0 sin0 sout0 K) j (mkSt sin0 ((x0, x1, x2, ()), (x3, x4, x5, ()), (x6, x7, x8, ()), x9, x10, x11, ())) := funext fun x0 => funext fun x1 => funext fun x2 => funext fun x3 => funext fun x4 => funext fun x5 => funext fun x6 => funext fun x7 => funext fun x8 => funext fun x9 => funext fun x10 => funext fun x11 => l0_eq n K j x0 x1 x2 x3 x4 x5 x6 x7 x8 x9 x10 x11
    rw [spec_DrawLeastNeeds.l0, ih]
    show _ = roundK cfg (pick (cal n)) (lam n) fin 0 b0 sin0 sout0 K (iter (roundK cfg (pick (cal n)) (lam n) fin 0 b0 sin0 sout0 K) j) (mkSt sin0 ((x0, x1, x2, ()), (x3, x4, x5, ()), (x6, x7, x8, ()), x9, x10, x11, ()))
    kernel_rfl
theorem loops (n : Nat) : LoopsOk cfg (pick (cal n)) (lam n) fin (loopsOf cfg.blk code) := by
  have h : loopsOf cfg.blk code = [(0, b0)] := by kernel_rfl
  rw [h]
  intro p hp K st r hr
  simp only [List.mem_cons, List.not_mem_nil, or_false] at hp
  rcases hp with rfl
  · have hr' : (match absSt sin0 st with | some (x, _) => spec_DrawLeastNeeds.l0 n (fun y0 y1 y2 y3 y4 y5 y6 y7 => K (mkSt sout0 ((y0, y1, y2, ()), (y3, y4, y5, ()), y6, y7, ()))) n x.1.1 x.1.2.1 x.1.2.2.1 x.2.1.1 x.2.1.2.1 x.2.1.2.2.1 x.2.2.1.1 x.2.2.1.2.1 x.2.2.1.2.2.1 x.2.2.2.1 x.2.2.2.2.1 x.2.2.2.2.2.1 | none => none) = some r := hr
    split at hr'
    · rename_i x es hx
      rw [l0_eq] at hr'
      exact ⟨sin0, sout0, n, x, es, hx, hr'⟩
    · cases hr'
theorem F_eq (n : Nat) (x0 : List (Int)) : spec_DrawLeastNeeds.F n x0 = exK cfg (pick (cal n)) (lam n) fin code (fun _ _ => none) (mkSt shp (x0, ())) fin := by
  kernel_rfl
def pfn (n : Nat) : PFn := mkFn shp outs (fun x => spec_DrawLeastNeeds.F n x.1) out
theorem ok (n : Nat) : (pfn n).Ok Go.Proofs.Tryz.prog 11 :=
  mkFn_ok (fn := Go.Proofs.Tryz.f11) (code := code) Go.Proofs.Tryz.func11 (by kernel_rfl) (by decide) (C := cfg) (Φ := pick (cal n)) (Λ := lam n) (into := into) hT (cal_ok n) (by kernel_rfl) rfl (by decide) rfl (fun _ => rfl) (loops n)
    (fun x r h => by
      have e := F_eq n x.1
      exact e.symm.trans h)
end spec_DrawLeastNeeds
end
/-! ### loop.example/g01158/spec.DrawReachWith -/
section
namespace spec_DrawReachWith
noncomputable def code : Code := (Go.Proofs.Tryz.f12.body).getD .skip
abbrev shp : Shape := [(0, .one (.row (.int .u8) false))]
abbrev outs : List KD := [.agg [.int .i64, .row (.t3) true, .row (.int .i64) true], .one (.int .i64), .one (.int .i64)]
abbrev R : Type := Int × (List (Int × Int × Int)) × (List (Int)) × Int × Int
def out : R → denL outs := fun r => ((r.1, r.2.1, r.2.2.1, ()), r.2.2.2.1, r.2.2.2.2, ())
def into : denL outs → R := fun y => (y.1.1, y.1.2.1, y.1.2.2.1, y.2.1, y.2.2.1)
def cfg : Cfg := ⟨ty, 18, [], fun _ => .plain, fun _ => none⟩
def cal (n : Nat) : List (Nat × PFn) := [(33, spec_l1Cur_maze.pfn n), (34, spec_l1Cur_nodeOf.pfn n), (38, spec_l1Cur_colours.pfn n)]
theorem cal_ok (n : Nat) : ∀ g, (pick (cal n) g).Ok Go.Proofs.Tryz.prog g := pick_ok (by
  intro p hp
  simp only [cal, List.mem_cons, List.not_mem_nil, or_false] at hp
  rcases hp with rfl | rfl | rfl
  · exact spec_l1Cur_maze.ok n
  · exact spec_l1Cur_nodeOf.ok n
  · exact spec_l1Cur_colours.ok n)
def fin : St → Option R := finOf ty [.cell 2 27, .tmp 3, .tmp 4] outs into
def lam (n : Nat) : Nat → (St → Option R) → St → Option R := fun _ => fun _ _ => none
theorem loops (n : Nat) : LoopsOk cfg (pick (cal n)) (lam n) fin (loopsOf cfg.blk code) := by
  have h : loopsOf cfg.blk code = [] := by kernel_rfl
  rw [h]
  intro p hp
  cases hp
theorem F_eq (n : Nat) (x0 : List (Int)) : spec_DrawReachWith.F n x0 = exK cfg (pick (cal n)) (lam n) fin code (fun _ _ => none) (mkSt shp (x0, ())) fin := by
  kernel_rfl
def pfn (n : Nat) : PFn := mkFn shp outs (fun x => spec_DrawReachWith.F n x.1) out
theorem ok (n : Nat) : (pfn n).Ok Go.Proofs.Tryz.prog 12 :=
  mkFn_ok (fn := Go.Proofs.Tryz.f12) (code := code) Go.Proofs.Tryz.func12 (by kernel_rfl) (by decide) (C := cfg) (Φ := pick (cal n)) (Λ := lam n) (into := into) hT (cal_ok n) (by kernel_rfl) rfl (by decide) rfl (fun _ => rfl) (loops n)
    (fun x r h => by
      have e := F_eq n x.1
      exact e.symm.trans h)
end spec_DrawReachWith
end
/-! ### loop.example/g01158/impl.members -/
section
namespace impl_members
noncomputable def code : Code := (Go.Proofs.Tryz.f55.body).getD .skip
abbrev shp : Shape := [(0, .one (.int .i64))]
abbrev outs : List KD := [.one (.row (.int .i64) true)]
abbrev R : Type := (List (Int))
def out : R → denL outs := fun r => (r, ())
def into : denL outs → R := fun y => y.1
def cfg : Cfg := ⟨ty, 22, [], fun i => match Nat.beq i 0 with | true => .loop | false => .plain, fun _ => none⟩
def cal (n : Nat) : List (Nat × PFn) := []
theorem cal_ok (n : Nat) : ∀ g, (pick (cal n) g).Ok Go.Proofs.Tryz.prog g := pick_ok (by
  intro p hp
  cases hp)
def fin : St → Option R := finOf ty [.tmp 2] outs into
abbrev sin0 : Shape := [(0, .one (.int .i64)), (3, .one (.row (.int .i64) true)), (4, .one (.int .i64))]
abbrev sout0 : Shape := [(3, .one (.row (.int .i64) true))]
def lam (n : Nat) : Nat → (St → Option R) → St → Option R := fun i => match Nat.beq i 0 with | true => (fun K st => match absSt sin0 st with | some (x, _) => impl_members.l0 n (fun y0 => K (mkSt sout0 (y0, ()))) n x.1 x.2.1 x.2.2.1 | none => none) | false => fun _ _ => none
noncomputable def lps : List (Nat × Code) := loopsOf cfg.blk code
noncomputable def b0 : Code := bodyOf lps 0
theorem l0_eq (n : Nat) (K : St → Option R) : ∀ (j : Nat) (x0 : Int) (x1 : List (Int)) (x2 : Int), impl_members.l0 n (fun y0 => K (mkSt sout0 (y0, ()))) j x0 x1 x2 = iter (roundK cfg (pick (cal n)) (lam n) fin 0 b0 sin0 sout0 K) j (mkSt sin0 (x0, x1, x2, ()))
  | 0, _, _, _ => rfl
  | j + 1, x0, x1, x2 => by
    have ih : impl_members.l0 n (fun y0 => K (mkSt sout0 (y0, ()))) j = fun x0 x1 x2 => iter (roundK cfg (pick (cal n)) (lam n) fin 0 b0 sin0 sout0 K) j (mkSt sin0 (x0, x1, x2, ())) := funext fun x0 => funext fun x1 => funext fun x2 => l0_eq n K j x0 x1 x2
    rw [impl_members.l0, ih]
    show _ = roundK cfg (pick (cal n)) (lam n) fin 0 b0 sin0 sout0 K (iter (roundK cfg (pick (cal n)) (lam n) fin 0 b0 sin0 sout0 K) j) (mkSt sin0 (x0, x1, x2, ()))
    kernel_rfl
theorem loops (n : Nat) : LoopsOk cfg (pick (cal n)) (lam n) fin (loopsOf cfg.blk code) := by
  have h : loopsOf cfg.blk code = [(0, b0)] := by kernel_rfl
  rw [h]
  intro p hp K st r hr
  simp only [List.mem_cons, List.not_mem_nil, or_false] at hp
  rcases hp with rfl
  · have hr' : (match absSt sin0 st with | some (x, _) => impl_members.l0 n (fun y0 => K (mkSt sout0 (y0, ()))) n x.1 x.2.1 x.2.2.1 | none => none) = some r := hr
    split at hr'
    · rename_i x es hx
      rw [l0_eq] at hr'
      exact ⟨sin0, sout0, n, x, es, hx, hr'⟩
    · cases hr'
theorem F_eq (n : Nat) (x0 : Int) : impl_members.F n x0 = exK cfg (pick (cal n)) (lam n) fin code (fun _ _ => none) (mkSt shp (x0, ())) fin := by
  kernel_rfl
def pfn (n : Nat) : PFn := mkFn shp outs (fun x => impl_members.F n x.1) out
theorem ok (n : Nat) : (pfn n).Ok Go.Proofs.Tryz.prog 55 :=
  mkFn_ok (fn := Go.Proofs.Tryz.f55) (code := code) Go.Proofs.Tryz.func55 (by kernel_rfl) (by decide) (C := cfg) (Φ := pick (cal n)) (Λ := lam n) (into := into) hT (cal_ok n) (by kernel_rfl) rfl (by decide) rfl (fun _ => rfl) (loops n)
    (fun x r h => by
      have e := F_eq n x.1
      exact e.symm.trans h)
end impl_members
end
/-! ### loop.example/g01158/impl.reach -/
section
namespace impl_reach
noncomputable def code : Code := (Go.Proofs.Tryz.f56.body).getD .skip
abbrev shp : Shape := [(0, .agg [.int .i64, .row (.t3) false, .row (.int .i64) false]), (1, .one (.int .i64)), (2, .one (.int .i64))]
abbrev outs : List KD := [.one (.int .i64)]
abbrev R : Type := Int
def out : R → denL outs := fun r => (r, ())
def into : denL outs → R := fun y => y.1
def cfg : Cfg := ⟨ty, 34, [], fun i => match Nat.beq i 0 with | true => .loop | false => .plain, fun _ => none⟩
def cal (n : Nat) : List (Nat × PFn) := [(41, impl_steps.pfn n), (55, impl_members.pfn n)]
theorem cal_ok (n : Nat) : ∀ g, (pick (cal n) g).Ok Go.Proofs.Tryz.prog g := pick_ok (by
  intro p hp
  simp only [cal, List.mem_cons, List.not_mem_nil, or_false] at hp
  rcases hp with rfl | rfl
  · exact impl_steps.ok n
  · exact impl_members.ok n)
def fin : St → Option R := finOf ty [.tmp 6] outs into
abbrev sin0 : Shape := [(2, .one (.int .i64)), (3, .box true [.int .i64, .row (.t3) false, .row (.int .i64) false]), (7, .one (.int .i64)), (8, .one (.row (.int .i64) true))]
abbrev sout0 : Shape := [(7, .one (.int .i64))]
def lam (n : Nat) : Nat → (St → Option R) → St → Option R := fun i => match Nat.beq i 0 with | true => (fun K st => match absSt sin0 st with | some (x, _) => impl_reach.l0 n (fun y0 => K (mkSt sout0 (y0, ()))) n x.1 x.2.1.1 x.2.1.2.1 x.2.1.2.2.1 x.2.2.1 x.2.2.2.1 | none => none) | false => fun _ _ => none
noncomputable def lps : List (Nat × Code) := loopsOf cfg.blk code
noncomputable def b0 : Code := bodyOf lps 0
theorem l0_eq (n : Nat) (K : St → Option R) : ∀ (j : Nat) (x0 : Int) (x1 : Int) (x2 : List (Int × Int × Int)) (x3 : List (Int)) (x4 : Int) (x5 : List (Int)), impl_reach.l0 n (fun y0 => K (mkSt sout0 (y0, ()))) j x0 x1 x2 x3 x4 x5 = iter (roundK cfg (pick (cal n)) (lam n) fin 0 b0 sin0 sout0 K) j (mkSt sin0 (x0, (x1, x2, x3, ()), x4, x5, ()))
  | 0, _, _, _, _, _, _ => rfl
  | j + 1, x0, x1, x2, x3, x4, x5 => by
    have ih : impl_reach.l0 n (fun y0 => K (mkSt sout0 (y0, ()))) j = fun x0 x1 x2 x3 x4 x5 => iter (roundK cfg (pick (cal n)) (lam n) fin 0 b0 sin0 sout0 K) j (mkSt sin0 (x0, (x1, x2, x3, ()), x4, x5, ())) := funext fun x0 => funext fun x1 => funext fun x2 => funext fun x3 => funext fun x4 => funext fun x5 => l0_eq n K j x0 x1 x2 x3 x4 x5
    rw [impl_reach.l0, ih]
    show _ = roundK cfg (pick (cal n)) (lam n) fin 0 b0 sin0 sout0 K (iter (roundK cfg (pick (cal n)) (lam n) fin 0 b0 sin0 sout0 K) j) (mkSt sin0 (x0, (x1, x2, x3, ()), x4, x5, ()))
    kernel_rfl
theorem loops (n : Nat) : LoopsOk cfg (pick (cal n)) (lam n) fin (loopsOf cfg.blk code) := by
  have h : loopsOf cfg.blk code = [(0, b0)] := by kernel_rfl
  rw [h]
  intro p hp K st r hr
  simp only [List.mem_cons, List.not_mem_nil, or_false] at hp
  rcases hp with rfl
  · have hr' : (match absSt sin0 st with | some (x, _) => impl_reach.l0 n (fun y0 => K (mkSt sout0 (y0, ()))) n x.1 x.2.1.1 x.2.1.2.1 x.2.1.2.2.1 x.2.2.1 x.2.2.2.1 | none => none) = some r := hr
    split at hr'
    · rename_i x es hx
      rw [l0_eq] at hr'
      exact ⟨sin0, sout0, n, x, es, hx, hr'⟩
    · cases hr'
theorem F_eq (n : Nat) (x0 : Int) (x1 : List (Int × Int × Int)) (x2 : List (Int)) (x3 : Int) (x4 : Int) : impl_reach.F n x0 x1 x2 x3 x4 = exK cfg (pick (cal n)) (lam n) fin code (fun _ _ => none) (mkSt shp ((x0, x1, x2, ()), x3, x4, ())) fin := by
  kernel_rfl
def pfn (n : Nat) : PFn := mkFn shp outs (fun x => impl_reach.F n x.1.1 x.1.2.1 x.1.2.2.1 x.2.1 x.2.2.1) out
theorem ok (n : Nat) : (pfn n).Ok Go.Proofs.Tryz.prog 56 :=
  mkFn_ok (fn := Go.Proofs.Tryz.f56) (code := code) Go.Proofs.Tryz.func56 (by kernel_rfl) (by decide) (C := cfg) (Φ := pick (cal n)) (Λ := lam n) (into := into) hT (cal_ok n) (by kernel_rfl) rfl (by decide) rfl (fun _ => rfl) (loops n)
    (fun x r h => by
      have e := F_eq n x.1.1 x.1.2.1 x.1.2.2.1 x.2.1 x.2.2.1
      exact e.symm.trans h)
end impl_reach
end
/-! ### loop.example/g01158/impl.ReachWith -/
section
namespace impl_ReachWith
noncomputable def code : Code := (Go.Proofs.Tryz.f13.body).getD .skip
abbrev shp : Shape := [(0, .agg [.int .i64, .row (.t3) false, .row (.int .i64) false]), (1, .one (.int .i64)), (2, .one (.int .i64))]
abbrev outs : List KD := [.one (.row (.int .i64) true), .one (.bool)]
abbrev R : Type := (List (Int)) × Bool
def out : R → denL outs := fun r => (r.1, r.2, ())
def into : denL outs → R := fun y => (y.1, y.2.1)
def cfg : Cfg := ⟨ty, 23, [], fun _ => .plain, fun _ => none⟩
def cal (n : Nat) : List (Nat × PFn) := [(39, impl_isNode.pfn n), (40, impl_isSet.pfn n), (55, impl_members.pfn n), (56, impl_reach.pfn n)]
theorem cal_ok (n : Nat) : ∀ g, (pick (cal n) g).Ok Go.Proofs.Tryz.prog g := pick_ok (by
  intro p hp
  simp only [cal, List.mem_cons, List.not_mem_nil, or_false] at hp
  rcases hp with rfl | rfl | rfl | rfl
  · exact impl_isNode.ok n
  · exact impl_isSet.ok n
  · exact impl_members.ok n
  · exact impl_reach.ok n)
def fin : St → Option R := finOf ty [.tmp 6, .tmp 7] outs into
def lam (n : Nat) : Nat → (St → Option R) → St → Option R := fun _ => fun _ _ => none
theorem loops (n : Nat) : LoopsOk cfg (pick (cal n)) (lam n) fin (loopsOf cfg.blk code) := by
  have h : loopsOf cfg.blk code = [] := by kernel_rfl
  rw [h]
  intro p hp
  cases hp
theorem F_eq (n : Nat) (x0 : Int) (x1 : List (Int × Int × Int)) (x2 : List (Int)) (x3 : Int) (x4 : Int) : impl_ReachWith.F n x0 x1 x2 x3 x4 = exK cfg (pick (cal n)) (lam n) fin code (fun _ _ => none) (mkSt shp ((x0, x1, x2, ()), x3, x4, ())) fin := by
  kernel_rfl
def pfn (n : Nat) : PFn := mkFn shp outs (fun x => impl_ReachWith.F n x.1.1 x.1.2.1 x.1.2.2.1 x.2.1 x.2.2.1) out
theorem ok (n : Nat) : (pfn n).Ok Go.Proofs.Tryz.prog 13 :=
  mkFn_ok (fn := Go.Proofs.Tryz.f13) (code := code) Go.Proofs.Tryz.func13 (by kernel_rfl) (by decide) (C := cfg) (Φ := pick (cal n)) (Λ := lam n) (into := into) hT (cal_ok n) (by kernel_rfl) rfl (by decide) rfl (fun _ => rfl) (loops n)
    (fun x r h => by
      have e := F_eq n x.1.1 x.1.2.1 x.1.2.2.1 x.2.1 x.2.2.1
      exact e.symm.trans h)
end impl_ReachWith
end
/-! ### loop.example/g01158/spec.l1Has -/
section
namespace spec_l1Has
noncomputable def code : Code := (Go.Proofs.Tryz.f81.body).getD .skip
abbrev shp : Shape := [(0, .one (.row (.int .i64) false)), (1, .one (.int .i64))]
abbrev outs : List KD := [.one (.bool)]
abbrev R : Type := Bool
def out : R → denL outs := fun r => (r, ())
def into : denL outs → R := fun y => y.1
def cfg : Cfg := ⟨ty, 18, [], fun i => match Nat.beq i 0 with | true => .loop | false => .plain, fun _ => none⟩
def cal (n : Nat) : List (Nat × PFn) := []
theorem cal_ok (n : Nat) : ∀ g, (pick (cal n) g).Ok Go.Proofs.Tryz.prog g := pick_ok (by
  intro p hp
  cases hp)
def fin : St → Option R := finOf ty [.tmp 4] outs into
abbrev sin0 : Shape := [(0, .one (.row (.int .i64) false)), (1, .one (.int .i64)), (5, .one (.int .i64))]
abbrev sout0 : Shape := []
def lam (n : Nat) : Nat → (St → Option R) → St → Option R := fun i => match Nat.beq i 0 with | true => (fun K st => match absSt sin0 st with | some (x, _) => spec_l1Has.l0 n (fun _ => K (mkSt sout0 ())) n x.1 x.2.1 x.2.2.1 | none => none) | false => fun _ _ => none
noncomputable def lps : List (Nat × Code) := loopsOf cfg.blk code
noncomputable def b0 : Code := bodyOf lps 0
theorem l0_eq (n : Nat) (K : St → Option R) : ∀ (j : Nat) (x0 : List (Int)) (x1 : Int) (x2 : Int), spec_l1Has.l0 n (fun _ => K (mkSt sout0 ())) j x0 x1 x2 = iter (roundK cfg (pick (cal n)) (lam n) fin 0 b0 sin0 sout0 K) j (mkSt sin0 (x0, x1, x2, ()))
  | 0, _, _, _ => rfl
  | j + 1, x0, x1, x2 => by
    have ih : spec_l1Has.l0 n (fun _ => K (mkSt sout0 ())) j = fun x0 x1 x2 => iter (roundK cfg (pick (cal n)) (lam n) fin 0 b0 sin0 sout0 K) j (mkSt sin0 (x0, x1, x2, ())) := funext fun x0 => funext fun x1 => funext fun x2 => l0_eq n K j x0 x1 x2
    rw [spec_l1Has.l0, ih]
    show _ = roundK cfg (pick (cal n)) (lam n) fin 0 b0 sin0 sout0 K (iter (roundK cfg (pick (cal n)) (lam n) fin 0 b0 sin0 sout0 K) j) (mkSt sin0 (x0, x1, x2, ()))
    kernel_rfl
theorem loops (n : Nat) : LoopsOk cfg (pick (cal n)) (lam n) fin (loopsOf cfg.blk code) := by
  have h : loopsOf cfg.blk code = [(0, b0)] := by kernel_rfl
  rw [h]
  intro p hp K st r hr
  simp only [List.mem_cons, List.not_mem_nil, or_false] at hp
  rcases hp with rfl
  · have hr' : (match absSt sin0 st with | some (x, _) => spec_l1Has.l0 n (fun _ => K (mkSt sout0 ())) n x.1 x.2.1 x.2.2.1 | none => none) = some r := hr
    split at hr'
    · rename_i x es hx
      rw [l0_eq] at hr'
      exact ⟨sin0, sout0, n, x, es, hx, hr'⟩
    · cases hr'
theorem F_eq (n : Nat) (x0 : List (Int)) (x1 : Int) : spec_l1Has.F n x0 x1 = exK cfg (pick (cal n)) (lam n) fin code (fun _ _ => none) (mkSt shp (x0, x1, ())) fin := by
  kernel_rfl
def pfn (n : Nat) : PFn := mkFn shp outs (fun x => spec_l1Has.F n x.1 x.2.1) out
theorem ok (n : Nat) : (pfn n).Ok Go.Proofs.Tryz.prog 81 :=
  mkFn_ok (fn := Go.Proofs.Tryz.f81) (code := code) Go.Proofs.Tryz.func81 (by kernel_rfl) (by decide) (C := cfg) (Φ := pick (cal n)) (Λ := lam n) (into := into) hT (cal_ok n) (by kernel_rfl) rfl (by decide) rfl (fun _ => rfl) (loops n)
    (fun x r h => by
      have e := F_eq n x.1 x.2.1
      exact e.symm.trans h)
end spec_l1Has
end
/-! ### loop.example/g01158/spec.l1Put -/
section
namespace spec_l1Put
noncomputable def code : Code := (Go.Proofs.Tryz.f82.body).getD .skip
abbrev shp : Shape := [(0, .one (.row (.int .i64) true)), (1, .one (.int .i64))]
abbrev outs : List KD := [.one (.row (.int .i64) true)]
abbrev R : Type := (List (Int))
def out : R → denL outs := fun r => (r, ())
def into : denL outs → R := fun y => y.1
def cfg : Cfg := ⟨ty, 45, [], fun i => match Nat.beq i 0 with | true => .loop | false => .plain, fun _ => none⟩
def cal (n : Nat) : List (Nat × PFn) := []
theorem cal_ok (n : Nat) : ∀ g, (pick (cal n) g).Ok Go.Proofs.Tryz.prog g := pick_ok (by
  intro p hp
  cases hp)
def fin : St → Option R := finOf ty [.tmp 4] outs into
abbrev sin0 : Shape := [(0, .one (.row (.int .i64) true)), (1, .one (.int .i64)), (5, .one (.int .i64))]
abbrev sout0 : Shape := [(0, .one (.row (.int .i64) true)), (1, .one (.int .i64)), (5, .one (.int .i64))]
def lam (n : Nat) : Nat → (St → Option R) → St → Option R := fun i => match Nat.beq i 0 with | true => (fun K st => match absSt sin0 st with | some (x, _) => spec_l1Put.l0 n (fun y0 y1 y2 => K (mkSt sout0 (y0, y1, y2, ()))) n x.1 x.2.1 x.2.2.1 | none => none) | false => fun _ _ => none
noncomputable def lps : List (Nat × Code) := loopsOf cfg.blk code
noncomputable def b0 : Code := bodyOf lps 0
theorem l0_eq (n : Nat) (K : St → Option R) : ∀ (j : Nat) (x0 : List (Int)) (x1 : Int) (x2 : Int), spec_l1Put.l0 n (fun y0 y1 y2 => K (mkSt sout0 (y0, y1, y2, ()))) j x0 x1 x2 = iter (roundK cfg (pick (cal n)) (lam n) fin 0 b0 sin0 sout0 K) j (mkSt sin0 (x0, x1, x2, ()))
  | 0, _, _, _ => rfl
  | j + 1, x0, x1, x2 => by
    have ih : spec_l1Put.l0 n (fun y0 y1 y2 => K (mkSt sout0 (y0, y1, y2, ()))) j = fun x0 x1 x2 => iter (roundK cfg (pick (cal n)) (lam n) fin 0 b0 sin0 sout0 K) j (mkSt sin0 (x0, x1, x2, ())) := funext fun x0 => funext fun x1 => funext fun x2 => l0_eq n K j x0 x1 x2
    rw [spec_l1Put.l0, ih]
    show _ = roundK cfg (pick (cal n)) (lam n) fin 0 b0 sin0 sout0 K (iter (roundK cfg (pick (cal n)) (lam n) fin 0 b0 sin0 sout0 K) j) (mkSt sin0 (x0, x1, x2, ()))
    kernel_rfl
theorem loops (n : Nat) : LoopsOk cfg (pick (cal n)) (lam n) fin (loopsOf cfg.blk code) := by
  have h : loopsOf cfg.blk code = [(0, b0)] := by kernel_rfl
  rw [h]
  intro p hp K st r hr
  simp only [List.mem_cons, List.not_mem_nil, or_false] at hp
  rcases hp with rfl
  · have hr' : (match absSt sin0 st with | some (x, _) => spec_l1Put.l0 n (fun y0 y1 y2 => K (mkSt sout0 (y0, y1, y2, ()))) n x.1 x.2.1 x.2.2.1 | none => none) = some r := hr
    split at hr'
    · rename_i x es hx
      rw [l0_eq] at hr'
      exact ⟨sin0, sout0, n, x, es, hx, hr'⟩
    · cases hr'
theorem F_eq (n : Nat) (x0 : List (Int)) (x1 : Int) : spec_l1Put.F n x0 x1 = exK cfg (pick (cal n)) (lam n) fin code (fun _ _ => none) (mkSt shp (x0, x1, ())) fin := by
  kernel_rfl
def pfn (n : Nat) : PFn := mkFn shp outs (fun x => spec_l1Put.F n x.1 x.2.1) out
theorem ok (n : Nat) : (pfn n).Ok Go.Proofs.Tryz.prog 82 :=
  mkFn_ok (fn := Go.Proofs.Tryz.f82) (code := code) Go.Proofs.Tryz.func82 (by kernel_rfl) (by decide) (C := cfg) (Φ := pick (cal n)) (Λ := lam n) (into := into) hT (cal_ok n) (by kernel_rfl) rfl (by decide) rfl (fun _ => rfl) (loops n)
    (fun x r h => by
      have e := F_eq n x.1 x.2.1
      exact e.symm.trans h)
end spec_l1Put
end
/-! ### loop.example/g01158/spec.l2Reach -/
section
namespace spec_l2Reach
noncomputable def code : Code := (Go.Proofs.Tryz.f57.body).getD .skip
abbrev shp : Shape := [(0, .agg [.int .i64, .row (.t3) false, .row (.int .i64) false]), (1, .one (.int .i64)), (2, .one (.int .i64))]
abbrev outs : List KD := [.one (.row (.int .i64) true)]
abbrev R : Type := (List (Int))
def out : R → denL outs := fun r => (r, ())
def into : denL outs → R := fun y => y.1
def cfg : Cfg := ⟨ty, 80, [], fun i => match Nat.beq i 2 with | true => .loop | false => match Nat.beq i 0 with | true => .loop | false => .plain, fun _ => none⟩
def cal (n : Nat) : List (Nat × PFn) := [(52, spec_l2Has.pfn n), (81, spec_l1Has.pfn n), (82, spec_l1Put.pfn n)]
theorem cal_ok (n : Nat) : ∀ g, (pick (cal n) g).Ok Go.Proofs.Tryz.prog g := pick_ok (by
  intro p hp
  simp only [cal, List.mem_cons, List.not_mem_nil, or_false] at hp
  rcases hp with rfl | rfl | rfl
  · exact spec_l2Has.ok n
  · exact spec_l1Has.ok n
  · exact spec_l1Put.ok n)
def fin : St → Option R := finOf ty [.tmp 6] outs into
abbrev sin2 : Shape := [(2, .one (.int .i64)), (3, .box true [.int .i64, .row (.t3) false, .row (.int .i64) false]), (7, .one (.row (.int .i64) true)), (8, .one (.row (.int .i64) true)), (9, .one (.int .i64)), (10, .one (.int .i64))]
abbrev sout2 : Shape := [(2, .one (.int .i64)), (3, .box true [.int .i64, .row (.t3) false, .row (.int .i64) false]), (7, .one (.row (.int .i64) true)), (8, .one (.row (.int .i64) true)), (9, .one (.int .i64))]
abbrev sin0 : Shape := [(2, .one (.int .i64)), (3, .box true [.int .i64, .row (.t3) false, .row (.int .i64) false]), (7, .one (.row (.int .i64) true)), (8, .one (.row (.int .i64) true)), (9, .one (.int .i64))]
abbrev sout0 : Shape := [(7, .one (.row (.int .i64) true))]
def lam (n : Nat) : Nat → (St → Option R) → St → Option R := fun i => match Nat.beq i 2 with | true => (fun K st => match absSt sin2 st with | some (x, _) => spec_l2Reach.l2 n (fun y0 y1 y2 y3 y4 y5 y6 => K (mkSt sout2 (y0, (y1, y2, y3, ()), y4, y5, y6, ()))) n x.1 x.2.1.1 x.2.1.2.1 x.2.1.2.2.1 x.2.2.1 x.2.2.2.1 x.2.2.2.2.1 x.2.2.2.2.2.1 | none => none) | false => match Nat.beq i 0 with | true => (fun K st => match absSt sin0 st with | some (x, _) => spec_l2Reach.l0 n (fun y0 => K (mkSt sout0 (y0, ()))) n x.1 x.2.1.1 x.2.1.2.1 x.2.1.2.2.1 x.2.2.1 x.2.2.2.1 x.2.2.2.2.1 | none => none) | false => fun _ _ => none
noncomputable def lps : List (Nat × Code) := loopsOf cfg.blk code
noncomputable def b2 : Code := bodyOf lps 2
theorem l2_eq (n : Nat) (K : St → Option R) : ∀ (j : Nat) (x0 : Int) (x1 : Int) (x2 : List (Int × Int × Int)) (x3 : List (Int)) (x4 : List (Int)) (x5 : List (Int)) (x6 : Int) (x7 : Int), spec_l2Reach.l2 n (fun y0 y1 y2 y3 y4 y5 y6 => K (mkSt sout2 (y0, (y1, y2, y3, ()), y4, y5, y6, ()))) j x0 x1 x2 x3 x4 x5 x6 x7 = iter (roundK cfg (pick (cal n)) (lam n) fin 2 b2 sin2 sout2 K) j (mkSt sin2 (x0, (x1, x2, x3, ()), x4, x5, x6, x7, ()))
  | 0, _, _, _, _, _, _, _, _ => rfl
  | j + 1, x0, x1, x2, x3, x4, x5, x6, x7 => by
    have ih : spec_l2Reach.l2 n (fun y0 y1 y2 y3 y4 y5 y6 => K (mkSt sout2 (y0, (y1, y2, y3, ()), y4, y5, y6, ()))) j = fun x0 x1 x2 x3 x4 x5 x6 x7 => iter (roundK cfg (pick (cal n)) (lam n) fin 2 b2 sin2 sout2 K) j (mkSt sin2 (x0, (x1, x2, x3, ()), x4, x5, x6, x7, ())) := funext fun x0 => funext fun x1 => funext fun x2 => funext fun x3 => funext fun x4 => funext fun x5 => funext fun x6 => funext fun x7 => l2_eq n K j x0 x1 x2 x3 x4 x5 x6 x7
    rw [spec_l2Reach.l2, ih]
    show _ = roundK cfg (pick (cal n)) (lam n) fin 2 b2 sin2 sout2 K (iter (roundK cfg (pick (cal n)) (lam n) fin 2 b2 sin2 sout2 K) j) (mkSt sin2 (x0, (x1, x2, x3, ()), x4, x5, x6, x7, ()))
    kernel_rfl
noncomputable def b0 : Code := bodyOf lps 0
theorem l0_eq (n : Nat) (K : St → Option R) : ∀ (j : Nat) (x0 : Int) (x1 : Int) (x2 : List (Int × Int × Int)) (x3 : List (Int)) (x4 : List (Int)) (x5 : List (Int)) (x6 : Int), spec_l2Reach.l0 n (fun y0 => K (mkSt sout0 (y0, ()))) j x0 x1 x2 x3 x4 x5 x6 = iter (roundK cfg (pick (cal n)) (lam n) fin 0 b0 sin0 sout0 K) j (mkSt sin0 (x0, (x1, x2, x3, ()), x4, x5, x6, ()))
  | 0, _, _, _, _, _, _, _ => rfl
  | j + 1, x0, x1, x2, x3, x4, x5, x6 => by
    have ih : spec_l2Reach.l0 n (fun y0 => K (mkSt sout0 (y0, ()))) j = fun x0 x1 x2 x3 x4 x5 x6 => iter (roundK cfg (pick (cal n)) (lam n) fin 0 b0 sin0 sout0 K) j (mkSt sin0 (x0, (x1, x2, x3, ()), x4, x5, x6, ())) := funext fun x0 => funext fun x1 => funext fun x2 => funext fun x3 => funext fun x4 => funext fun x5 => funext fun x6 => l0_eq n K j x0 x1 x2 x3 x4 x5 x6
    rw [spec_l2Reach.l0, ih]
    show _ = roundK cfg (pick (cal n)) (lam n) fin 0 b0 sin0 sout0 K (iter (roundK cfg (pick (cal n)) (lam n) fin 0 b0 sin0 sout0 K) j) (mkSt sin0 (x0, (x1, x2, x3, ()), x4, x5, x6, ()))
    kernel_rfl
theorem loops (n : Nat) : LoopsOk cfg (pick (cal n)) (lam n) fin (loopsOf cfg.blk code) := by
  have h : loopsOf cfg.blk code = [(0, b0), (2, b2)] := by kernel_rfl
  rw [h]
  intro p hp K st r hr
  simp only [List.mem_cons, List.not_mem_nil, or_false] at hp
  rcases hp with rfl | rfl
  · have hr' : (match absSt sin0 st with | some (x, _) => spec_l2Reach.l0 n (fun y0 => K (mkSt sout0 (y0, ()))) n x.1 x.2.1.1 x.2.1.2.1 x.2.1.2.2.1 x.2.2.1 x.2.2.2.1 x.2.2.2.2.1 | none => none) = some r := hr
    split at hr'
    · rename_i x es hx
      rw [l0_eq] at hr'
      exact ⟨sin0, sout0, n, x, es, hx, hr'⟩
    · cases hr'
  · have hr' : (match absSt sin2 st with | some (x, _) => spec_l2Reach.l2 n (fun y0 y1 y2 y3 y4 y5 y6 => K (mkSt sout2 (y0, (y1, y2, y3, ()), y4, y5, y6, ()))) n x.1 x.2.1.1 x.2.1.2.1 x.2.1.2.2.1 x.2.2.1 x.2.2.2.1 x.2.2.2.2.1 x.2.2.2.2.2.1 | none => none) = some r := hr
    split at hr'
    · rename_i x es hx
      rw [l2_eq] at hr'
      exact ⟨sin2, sout2, n, x, es, hx, hr'⟩
    · cases hr'
theorem F_eq (n : Nat) (x0 : Int) (x1 : List (Int × Int × Int)) (x2 : List (Int)) (x3 : Int) (x4 : Int) : spec_l2Reach.F n x0 x1 x2 x3 x4 = exK cfg (pick (cal n)) (lam n) fin code (fun _ _ => none) (mkSt shp ((x0, x1, x2, ()), x3, x4, ())) fin := by
  kernel_rfl
def pfn (n : Nat) : PFn := mkFn shp outs (fun x => spec_l2Reach.F n x.1.1 x.1.2.1 x.1.2.2.1 x.2.1 x.2.2.1) out
theorem ok (n : Nat) : (pfn n).Ok Go.Proofs.Tryz.prog 57 :=
  mkFn_ok (fn := Go.Proofs.Tryz.f57) (code := code) Go.Proofs.Tryz.func57 (by kernel_rfl) (by decide) (C := cfg) (Φ := pick (cal n)) (Λ := lam n) (into := into) hT (cal_ok n) (by kernel_rfl) rfl (by decide) rfl (fun _ => rfl) (loops n)
    (fun x r h => by
      have e := F_eq n x.1.1 x.1.2.1 x.1.2.2.1 x.2.1 x.2.2.1
      exact e.symm.trans h)
end spec_l2Reach
end
/-! ### loop.example/g01158/spec.ReachWith -/
section
namespace spec_ReachWith
noncomputable def code : Code := (Go.Proofs.Tryz.f14.body).getD .skip
abbrev shp : Shape := [(0, .agg [.int .i64, .row (.t3) false, .row (.int .i64) false]), (1, .one (.int .i64)), (2, .one (.int .i64))]
abbrev outs : List KD := [.one (.row (.int .i64) true), .one (.bool)]
abbrev R : Type := (List (Int)) × Bool
def out : R → denL outs := fun r => (r.1, r.2, ())
def into : denL outs → R := fun y => (y.1, y.2.1)
def cfg : Cfg := ⟨ty, 22, [], fun _ => .plain, fun _ => none⟩
def cal (n : Nat) : List (Nat × PFn) := [(42, spec_l2Node.pfn n), (43, spec_l2Set.pfn n), (57, spec_l2Reach.pfn n)]
theorem cal_ok (n : Nat) : ∀ g, (pick (cal n) g).Ok Go.Proofs.Tryz.prog g := pick_ok (by
  intro p hp
  simp only [cal, List.mem_cons, List.not_mem_nil, or_false] at hp
  rcases hp with rfl | rfl | rfl
  · exact spec_l2Node.ok n
  · exact spec_l2Set.ok n
  · exact spec_l2Reach.ok n)
def fin : St → Option R := finOf ty [.tmp 6, .tmp 7] outs into
def lam (n : Nat) : Nat → (St → Option R) → St → Option R := fun _ => fun _ _ => none
theorem loops (n : Nat) : LoopsOk cfg (pick (cal n)) (lam n) fin (loopsOf cfg.blk code) := by
  have h : loopsOf cfg.blk code = [] := by kernel_rfl
  rw [h]
  intro p hp
  cases hp
theorem F_eq (n : Nat) (x0 : Int) (x1 : List (Int × Int × Int)) (x2 : List (Int)) (x3 : Int) (x4 : Int) : spec_ReachWith.F n x0 x1 x2 x3 x4 = exK cfg (pick (cal n)) (lam n) fin code (fun _ _ => none) (mkSt shp ((x0, x1, x2, ()), x3, x4, ())) fin := by
  kernel_rfl
def pfn (n : Nat) : PFn := mkFn shp outs (fun x => spec_ReachWith.F n x.1.1 x.1.2.1 x.1.2.2.1 x.2.1 x.2.2.1) out
theorem ok (n : Nat) : (pfn n).Ok Go.Proofs.Tryz.prog 14 :=
  mkFn_ok (fn := Go.Proofs.Tryz.f14) (code := code) Go.Proofs.Tryz.func14 (by kernel_rfl) (by decide) (C := cfg) (Φ := pick (cal n)) (Λ := lam n) (into := into) hT (cal_ok n) (by kernel_rfl) rfl (by decide) rfl (fun _ => rfl) (loops n)
    (fun x r h => by
      have e := F_eq n x.1.1 x.1.2.1 x.1.2.2.1 x.2.1 x.2.2.1
      exact e.symm.trans h)
end spec_ReachWith
end
/-! ### loop.example/g01158/spec.DrawDoorsAt -/
section
namespace spec_DrawDoorsAt
noncomputable def code : Code := (Go.Proofs.Tryz.f15.body).getD .skip
abbrev shp : Shape := [(0, .one (.row (.int .u8) false))]
abbrev outs : List KD := [.agg [.int .i64, .row (.t3) true, .row (.int .i64) true], .one (.int .i64)]
abbrev R : Type := Int × (List (Int × Int × Int)) × (List (Int)) × Int
def out : R → denL outs := fun r => ((r.1, r.2.1, r.2.2.1, ()), r.2.2.2, ())
def into : denL outs → R := fun y => (y.1.1, y.1.2.1, y.1.2.2.1, y.2.1)
def cfg : Cfg := ⟨ty, 15, [], fun _ => .plain, fun _ => none⟩
def cal (n : Nat) : List (Nat × PFn) := [(33, spec_l1Cur_maze.pfn n), (34, spec_l1Cur_nodeOf.pfn n)]
theorem cal_ok (n : Nat) : ∀ g, (pick (cal n) g).Ok Go.Proofs.Tryz.prog g := pick_ok (by
  intro p hp
  simp only [cal, List.mem_cons, List.not_mem_nil, or_false] at hp
  rcases hp with rfl | rfl
  · exact spec_l1Cur_maze.ok n
  · exact spec_l1Cur_nodeOf.ok n)
def fin : St → Option R := finOf ty [.cell 2 27, .tmp 3] outs into
def lam (n : Nat) : Nat → (St → Option R) → St → Option R := fun _ => fun _ _ => none
theorem loops (n : Nat) : LoopsOk cfg (pick (cal n)) (lam n) fin (loopsOf cfg.blk code) := by
  have h : loopsOf cfg.blk code = [] := by kernel_rfl
  rw [h]
  intro p hp
  cases hp
theorem F_eq (n : Nat) (x0 : List (Int)) : spec_DrawDoorsAt.F n x0 = exK cfg (pick (cal n)) (lam n) fin code (fun _ _ => none) (mkSt shp (x0, ())) fin := by
  kernel_rfl
def pfn (n : Nat) : PFn := mkFn shp outs (fun x => spec_DrawDoorsAt.F n x.1) out
theorem ok (n : Nat) : (pfn n).Ok Go.Proofs.Tryz.prog 15 :=
  mkFn_ok (fn := Go.Proofs.Tryz.f15) (code := code) Go.Proofs.Tryz.func15 (by kernel_rfl) (by decide) (C := cfg) (Φ := pick (cal n)) (Λ := lam n) (into := into) hT (cal_ok n) (by kernel_rfl) rfl (by decide) rfl (fun _ => rfl) (loops n)
    (fun x r h => by
      have e := F_eq n x.1
      exact e.symm.trans h)
end spec_DrawDoorsAt
end
end
end Go.Pf
