/- The Go functions of this seat do what their pure functions tell; printed by a program of mine (mach.py). -/
import Derived.Test.YtoppnaekfjjaaaaProg
import Derived.Test.YtoppnaekfjjaaaaGwE
import Derived.Test.YtoppnaekfjjaaaaPure
import Derived.KernelRfl
set_option linter.unusedVariables false
set_option autoImplicit false
set_option maxRecDepth 100000
set_option maxHeartbeats 4000000
namespace Go.Pf
open Go Go.Fx

def tys : List (Nat × TI) := [(3, ⟨.int .i64, 1, [.int .i64 0], some (.int .i64), false⟩),
  (4, ⟨.bool, 1, [.bool false], some (.bool), false⟩),
  (5, ⟨.int .u8, 1, [.int .u8 0], some (.int .u8), false⟩),
  (22, ⟨.slice 55, 1, [.nil], none, false⟩),
  (23, ⟨.slice 3, 1, [.nil], none, false⟩),
  (27, ⟨.struct [(3, 0), (22, 1), (23, 2)], 3, [.int .i64 0, .nil, .nil], none, false⟩),
  (43, ⟨.slice 5, 1, [.nil], none, false⟩),
  (55, ⟨.arr 3 3, 3, [.int .i64 0, .int .i64 0, .int .i64 0], some (.t3), false⟩),
  (97, ⟨.int .u64, 1, [.int .u64 0], some (.int .u64), false⟩),
  (99, ⟨.struct [(43, 0), (3, 1), (97, 2)], 3, [.nil, .int .i64 0, .int .u64 0], none, false⟩),
  (129, ⟨.struct [(3, 0), (3, 1)], 2, [.int .i64 0, .int .i64 0], some (.p2), false⟩),
  (143, ⟨.slice 129, 1, [.nil], none, false⟩)]
def ty : Ty := tyOf tys
theorem hT : TyOk Go.Proofs.Try.prog ty := tyOf_ok (by kernel_rfl)

/-! ### loop.example/g01158/laws.vBig -/
section
namespace laws_vBig
noncomputable def code : Code := (Go.Proofs.Try.f78.body).getD .skip
abbrev shp : Shape := [(0, .one (.row (.int .u8) false))]
abbrev outs : List KD := [.one (.bool)]
abbrev R : Type := Bool
def out : R → denL outs := fun r => (r, ())
def into : denL outs → R := fun y => y.1
def cfg : Cfg := ⟨ty, 6, [], fun _ => .plain, fun _ => none⟩
def cal (n : Nat) : List (Nat × PFn) := []
theorem cal_ok (n : Nat) : ∀ g, (pick (cal n) g).Ok Go.Proofs.Try.prog g := pick_ok (by
  intro p hp
  cases hp)
def fin : St → Option R := finOf ty [.tmp 2] outs into
def lam (n : Nat) : Nat → (St → Option R) → St → Option R := fun _ => fun _ _ => none
theorem loops (n : Nat) : LoopsOk cfg (pick (cal n)) (lam n) fin (loopsOf cfg.blk code) := by
  have h : loopsOf cfg.blk code = [] := by kernel_rfl
  rw [h]
  intro p hp
  cases hp
theorem F_eq (n : Nat) (x0 : List (Int)) : laws_vBig.F n x0 = exK cfg (pick (cal n)) (lam n) fin code (fun _ _ => none) (mkSt shp (x0, ())) fin := by
  kernel_rfl
def pfn (n : Nat) : PFn := mkFn shp outs (fun x => laws_vBig.F n x.1) out
theorem ok (n : Nat) : (pfn n).Ok Go.Proofs.Try.prog 78 :=
  mkFn_ok (fn := Go.Proofs.Try.f78) (code := code) Go.Proofs.Try.func78 (by kernel_rfl) (by decide) (C := cfg) (Φ := pick (cal n)) (Λ := lam n) (into := into) hT (cal_ok n) (by kernel_rfl) rfl (by decide) rfl (fun _ => rfl) (loops n)
    (fun x r h => by
      have e := F_eq n x.1
      exact e.symm.trans h)
end laws_vBig
end
/-! ### (*loop.example/g01158/spec.l1Cur).next -/
section
namespace spec_l1Cur_next
noncomputable def code : Code := (Go.Proofs.Try.f193.body).getD .skip
abbrev shp : Shape := [(0, .box true [.row (.int .u8) false, .int .i64, .int .u64])]
abbrev outs : List KD := [.one (.int .i64)]
abbrev R : Type := (List (Int)) × Int × Int × Int
abbrev bs : List BK := [.row (.int .u8) false, .int .i64, .int .u64]
abbrev rshp : Shape := []
def out : R → denB bs × denL outs := fun r => ((r.1, r.2.1, r.2.2.1, ()), (r.2.2.2, ()))
def into : denB bs → denL outs → R := fun z y => (z.1, z.2.1, z.2.2.1, y.1)
def cfg : Cfg := ⟨ty, 62, [0], fun _ => .plain, fun i => match Nat.beq i 4 with | true => some [(0, .box true [.row (.int .u8) false, .int .i64, .int .u64]), (3, .one (.int .i64))] | false => none⟩
def cal (n : Nat) : List (Nat × PFn) := []
theorem cal_ok (n : Nat) : ∀ g, (pick (cal n) g).Ok Go.Proofs.Try.prog g := pick_ok (by
  intro p hp
  cases hp)
def fin : St → Option R := finBox ty [.tmp 2] bs outs into
def lam (n : Nat) : Nat → (St → Option R) → St → Option R := fun _ => fun _ _ => none
theorem loops (n : Nat) : LoopsOk cfg (pick (cal n)) (lam n) fin (loopsOf cfg.blk code) := by
  have h : loopsOf cfg.blk code = [] := by kernel_rfl
  rw [h]
  intro p hp
  cases hp
theorem F_eq (n : Nat) (x0 : List (Int)) (x1 : Int) (x2 : Int) : spec_l1Cur_next.F n x0 x1 x2 = exK cfg (pick (cal n)) (lam n) fin code (fun _ _ => none) (mkSt shp ((x0, x1, x2, ()), ())) fin := by
  kernel_rfl
def pfn (n : Nat) : PFn := mkBox bs rshp.ks outs (fun x xs => spec_l1Cur_next.F n x.1 x.2.1 x.2.2.1) out
theorem ok (n : Nat) : (pfn n).Ok Go.Proofs.Try.prog 193 :=
  mkBox_ok (rshp := rshp) (fn := Go.Proofs.Try.f193) (code := code) Go.Proofs.Try.func193 (by kernel_rfl) (by decide) (C := cfg) (Φ := pick (cal n)) (Λ := lam n) (into := into) hT (cal_ok n) (by kernel_rfl) rfl (by decide) rfl rfl rfl (by decide) (fun _ _ => rfl) (loops n)
    (fun x xs r h => by
      have e := F_eq n x.1 x.2.1 x.2.2.1
      exact e.symm.trans h)
end spec_l1Cur_next
end
/-! ### (*loop.example/g01158/spec.l1Cur).pick -/
section
namespace spec_l1Cur_pick
noncomputable def code : Code := (Go.Proofs.Try.f129.body).getD .skip
abbrev shp : Shape := [(0, .box true [.row (.int .u8) false, .int .i64, .int .u64]), (1, .one (.int .i64))]
abbrev outs : List KD := [.one (.int .i64)]
abbrev R : Type := (List (Int)) × Int × Int × Int
abbrev bs : List BK := [.row (.int .u8) false, .int .i64, .int .u64]
abbrev rshp : Shape := [(1, .one (.int .i64))]
def out : R → denB bs × denL outs := fun r => ((r.1, r.2.1, r.2.2.1, ()), (r.2.2.2, ()))
def into : denB bs → denL outs → R := fun z y => (z.1, z.2.1, z.2.2.1, y.1)
def cfg : Cfg := ⟨ty, 20, [0], fun _ => .plain, fun _ => none⟩
def cal (n : Nat) : List (Nat × PFn) := [(193, spec_l1Cur_next.pfn n)]
theorem cal_ok (n : Nat) : ∀ g, (pick (cal n) g).Ok Go.Proofs.Try.prog g := pick_ok (by
  intro p hp
  simp only [cal, List.mem_cons, List.not_mem_nil, or_false] at hp
  rcases hp with rfl
  · exact spec_l1Cur_next.ok n)
def fin : St → Option R := finBox ty [.tmp 4] bs outs into
def lam (n : Nat) : Nat → (St → Option R) → St → Option R := fun _ => fun _ _ => none
theorem loops (n : Nat) : LoopsOk cfg (pick (cal n)) (lam n) fin (loopsOf cfg.blk code) := by
  have h : loopsOf cfg.blk code = [] := by kernel_rfl
  rw [h]
  intro p hp
  cases hp
theorem F_eq (n : Nat) (x0 : List (Int)) (x1 : Int) (x2 : Int) (x3 : Int) : spec_l1Cur_pick.F n x0 x1 x2 x3 = exK cfg (pick (cal n)) (lam n) fin code (fun _ _ => none) (mkSt shp ((x0, x1, x2, ()), x3, ())) fin := by
  kernel_rfl
def pfn (n : Nat) : PFn := mkBox bs rshp.ks outs (fun x xs => spec_l1Cur_pick.F n x.1 x.2.1 x.2.2.1 xs.1) out
theorem ok (n : Nat) : (pfn n).Ok Go.Proofs.Try.prog 129 :=
  mkBox_ok (rshp := rshp) (fn := Go.Proofs.Try.f129) (code := code) Go.Proofs.Try.func129 (by kernel_rfl) (by decide) (C := cfg) (Φ := pick (cal n)) (Λ := lam n) (into := into) hT (cal_ok n) (by kernel_rfl) rfl (by decide) rfl rfl rfl (by decide) (fun _ _ => rfl) (loops n)
    (fun x xs r h => by
      have e := F_eq n x.1 x.2.1 x.2.2.1 xs.1
      exact e.symm.trans h)
end spec_l1Cur_pick
end
/-! ### (*loop.example/g01158/spec.l1Cur).among -/
section
namespace spec_l1Cur_among
noncomputable def code : Code := (Go.Proofs.Try.f136.body).getD .skip
abbrev shp : Shape := [(0, .box true [.row (.int .u8) false, .int .i64, .int .u64]), (1, .one (.row (.int .i64) false))]
abbrev outs : List KD := [.one (.int .i64)]
abbrev R : Type := (List (Int)) × Int × Int × Int
abbrev bs : List BK := [.row (.int .u8) false, .int .i64, .int .u64]
abbrev rshp : Shape := [(1, .one (.row (.int .i64) false))]
def out : R → denB bs × denL outs := fun r => ((r.1, r.2.1, r.2.2.1, ()), (r.2.2.2, ()))
def into : denB bs → denL outs → R := fun z y => (z.1, z.2.1, z.2.2.1, y.1)
def cfg : Cfg := ⟨ty, 12, [0], fun _ => .plain, fun _ => none⟩
def cal (n : Nat) : List (Nat × PFn) := [(129, spec_l1Cur_pick.pfn n)]
theorem cal_ok (n : Nat) : ∀ g, (pick (cal n) g).Ok Go.Proofs.Try.prog g := pick_ok (by
  intro p hp
  simp only [cal, List.mem_cons, List.not_mem_nil, or_false] at hp
  rcases hp with rfl
  · exact spec_l1Cur_pick.ok n)
def fin : St → Option R := finBox ty [.tmp 4] bs outs into
def lam (n : Nat) : Nat → (St → Option R) → St → Option R := fun _ => fun _ _ => none
theorem loops (n : Nat) : LoopsOk cfg (pick (cal n)) (lam n) fin (loopsOf cfg.blk code) := by
  have h : loopsOf cfg.blk code = [] := by kernel_rfl
  rw [h]
  intro p hp
  cases hp
theorem F_eq (n : Nat) (x0 : List (Int)) (x1 : Int) (x2 : Int) (x3 : List (Int)) : spec_l1Cur_among.F n x0 x1 x2 x3 = exK cfg (pick (cal n)) (lam n) fin code (fun _ _ => none) (mkSt shp ((x0, x1, x2, ()), x3, ())) fin := by
  kernel_rfl
def pfn (n : Nat) : PFn := mkBox bs rshp.ks outs (fun x xs => spec_l1Cur_among.F n x.1 x.2.1 x.2.2.1 xs.1) out
theorem ok (n : Nat) : (pfn n).Ok Go.Proofs.Try.prog 136 :=
  mkBox_ok (rshp := rshp) (fn := Go.Proofs.Try.f136) (code := code) Go.Proofs.Try.func136 (by kernel_rfl) (by decide) (C := cfg) (Φ := pick (cal n)) (Λ := lam n) (into := into) hT (cal_ok n) (by kernel_rfl) rfl (by decide) rfl rfl rfl (by decide) (fun _ _ => rfl) (loops n)
    (fun x xs r h => by
      have e := F_eq n x.1 x.2.1 x.2.2.1 xs.1
      exact e.symm.trans h)
end spec_l1Cur_among
end
/-! ### (*loop.example/g01158/spec.l1Cur).one -/
section
namespace spec_l1Cur_one
noncomputable def code : Code := (Go.Proofs.Try.f156.body).getD .skip
abbrev shp : Shape := [(0, .box true [.row (.int .u8) false, .int .i64, .int .u64]), (1, .one (.int .i64))]
abbrev outs : List KD := [.one (.bool)]
abbrev R : Type := (List (Int)) × Int × Int × Bool
abbrev bs : List BK := [.row (.int .u8) false, .int .i64, .int .u64]
abbrev rshp : Shape := [(1, .one (.int .i64))]
def out : R → denB bs × denL outs := fun r => ((r.1, r.2.1, r.2.2.1, ()), (r.2.2.2, ()))
def into : denB bs → denL outs → R := fun z y => (z.1, z.2.1, z.2.2.1, y.1)
def cfg : Cfg := ⟨ty, 9, [0], fun _ => .plain, fun _ => none⟩
def cal (n : Nat) : List (Nat × PFn) := [(129, spec_l1Cur_pick.pfn n)]
theorem cal_ok (n : Nat) : ∀ g, (pick (cal n) g).Ok Go.Proofs.Try.prog g := pick_ok (by
  intro p hp
  simp only [cal, List.mem_cons, List.not_mem_nil, or_false] at hp
  rcases hp with rfl
  · exact spec_l1Cur_pick.ok n)
def fin : St → Option R := finBox ty [.tmp 4] bs outs into
def lam (n : Nat) : Nat → (St → Option R) → St → Option R := fun _ => fun _ _ => none
theorem loops (n : Nat) : LoopsOk cfg (pick (cal n)) (lam n) fin (loopsOf cfg.blk code) := by
  have h : loopsOf cfg.blk code = [] := by kernel_rfl
  rw [h]
  intro p hp
  cases hp
theorem F_eq (n : Nat) (x0 : List (Int)) (x1 : Int) (x2 : Int) (x3 : Int) : spec_l1Cur_one.F n x0 x1 x2 x3 = exK cfg (pick (cal n)) (lam n) fin code (fun _ _ => none) (mkSt shp ((x0, x1, x2, ()), x3, ())) fin := by
  kernel_rfl
def pfn (n : Nat) : PFn := mkBox bs rshp.ks outs (fun x xs => spec_l1Cur_one.F n x.1 x.2.1 x.2.2.1 xs.1) out
theorem ok (n : Nat) : (pfn n).Ok Go.Proofs.Try.prog 156 :=
  mkBox_ok (rshp := rshp) (fn := Go.Proofs.Try.f156) (code := code) Go.Proofs.Try.func156 (by kernel_rfl) (by decide) (C := cfg) (Φ := pick (cal n)) (Λ := lam n) (into := into) hT (cal_ok n) (by kernel_rfl) rfl (by decide) rfl rfl rfl (by decide) (fun _ _ => rfl) (loops n)
    (fun x xs r h => by
      have e := F_eq n x.1 x.2.1 x.2.2.1 xs.1
      exact e.symm.trans h)
end spec_l1Cur_one
end
/-! ### (*loop.example/g01158/spec.l1Cur).few -/
section
namespace spec_l1Cur_few
noncomputable def code : Code := (Go.Proofs.Try.f157.body).getD .skip
abbrev shp : Shape := [(0, .box true [.row (.int .u8) false, .int .i64, .int .u64]), (1, .one (.int .i64))]
abbrev outs : List KD := [.one (.int .i64)]
abbrev R : Type := (List (Int)) × Int × Int × Int
abbrev bs : List BK := [.row (.int .u8) false, .int .i64, .int .u64]
abbrev rshp : Shape := [(1, .one (.int .i64))]
def out : R → denB bs × denL outs := fun r => ((r.1, r.2.1, r.2.2.1, ()), (r.2.2.2, ()))
def into : denB bs → denL outs → R := fun z y => (z.1, z.2.1, z.2.2.1, y.1)
def cfg : Cfg := ⟨ty, 21, [0], fun i => match Nat.beq i 0 with | true => .loop | false => .plain, fun _ => none⟩
def cal (n : Nat) : List (Nat × PFn) := [(129, spec_l1Cur_pick.pfn n), (136, spec_l1Cur_among.pfn n)]
theorem cal_ok (n : Nat) : ∀ g, (pick (cal n) g).Ok Go.Proofs.Try.prog g := pick_ok (by
  intro p hp
  simp only [cal, List.mem_cons, List.not_mem_nil, or_false] at hp
  rcases hp with rfl | rfl
  · exact spec_l1Cur_pick.ok n
  · exact spec_l1Cur_among.ok n)
def fin : St → Option R := finBox ty [.tmp 4] bs outs into
abbrev sin0 : Shape := [(0, .box true [.row (.int .u8) false, .int .i64, .int .u64]), (1, .one (.int .i64)), (5, .one (.int .i64)), (6, .one (.int .i64))]
abbrev sout0 : Shape := [(0, .box true [.row (.int .u8) false, .int .i64, .int .u64]), (5, .one (.int .i64))]
def lam (n : Nat) : Nat → (St → Option R) → St → Option R := fun i => match Nat.beq i 0 with | true => (fun K st => match absSt sin0 st with | some (x, _) => spec_l1Cur_few.l0 n (fun y0 y1 y2 y3 => K (mkSt sout0 ((y0, y1, y2, ()), y3, ()))) n x.1.1 x.1.2.1 x.1.2.2.1 x.2.1 x.2.2.1 x.2.2.2.1 | none => none) | false => fun _ _ => none
noncomputable def lps : List (Nat × Code) := loopsOf cfg.blk code
noncomputable def b0 : Code := bodyOf lps 0
theorem l0_eq (n : Nat) (K : St → Option R) : ∀ (j : Nat) (x0 : List (Int)) (x1 : Int) (x2 : Int) (x3 : Int) (x4 : Int) (x5 : Int), spec_l1Cur_few.l0 n (fun y0 y1 y2 y3 => K (mkSt sout0 ((y0, y1, y2, ()), y3, ()))) j x0 x1 x2 x3 x4 x5 = iter (roundK cfg (pick (cal n)) (lam n) fin 0 b0 sin0 sout0 K) j (mkSt sin0 ((x0, x1, x2, ()), x3, x4, x5, ()))
  | 0, _, _, _, _, _, _ => rfl
  | j + 1, x0, x1, x2, x3, x4, x5 => by
    have ih : spec_l1Cur_few.l0 n (fun y0 y1 y2 y3 => K (mkSt sout0 ((y0, y1, y2, ()), y3, ()))) j = fun x0 x1 x2 x3 x4 x5 => iter (roundK cfg (pick (cal n)) (lam n) fin 0 b0 sin0 sout0 K) j (mkSt sin0 ((x0, x1, x2, ()), x3, x4, x5, ())) := funext fun x0 => funext fun x1 => funext fun x2 => funext fun x3 => funext fun x4 => funext fun x5 => l0_eq n K j x0 x1 x2 x3 x4 x5
    rw [spec_l1Cur_few.l0, ih]
    show _ = roundK cfg (pick (cal n)) (lam n) fin 0 b0 sin0 sout0 K (iter (roundK cfg (pick (cal n)) (lam n) fin 0 b0 sin0 sout0 K) j) (mkSt sin0 ((x0, x1, x2, ()), x3, x4, x5, ()))
    kernel_rfl
theorem loops (n : Nat) : LoopsOk cfg (pick (cal n)) (lam n) fin (loopsOf cfg.blk code) := by
  have h : loopsOf cfg.blk code = [(0, b0)] := by kernel_rfl
  rw [h]
  intro p hp K st r hr
  simp only [List.mem_cons, List.not_mem_nil, or_false] at hp
  rcases hp with rfl
  · have hr' : (match absSt sin0 st with | some (x, _) => spec_l1Cur_few.l0 n (fun y0 y1 y2 y3 => K (mkSt sout0 ((y0, y1, y2, ()), y3, ()))) n x.1.1 x.1.2.1 x.1.2.2.1 x.2.1 x.2.2.1 x.2.2.2.1 | none => none) = some r := hr
    split at hr'
    · rename_i x es hx
      rw [l0_eq] at hr'
      exact ⟨sin0, sout0, n, x, es, hx, hr'⟩
    · cases hr'
theorem F_eq (n : Nat) (x0 : List (Int)) (x1 : Int) (x2 : Int) (x3 : Int) : spec_l1Cur_few.F n x0 x1 x2 x3 = exK cfg (pick (cal n)) (lam n) fin code (fun _ _ => none) (mkSt shp ((x0, x1, x2, ()), x3, ())) fin := by
  kernel_rfl
def pfn (n : Nat) : PFn := mkBox bs rshp.ks outs (fun x xs => spec_l1Cur_few.F n x.1 x.2.1 x.2.2.1 xs.1) out
theorem ok (n : Nat) : (pfn n).Ok Go.Proofs.Try.prog 157 :=
  mkBox_ok (rshp := rshp) (fn := Go.Proofs.Try.f157) (code := code) Go.Proofs.Try.func157 (by kernel_rfl) (by decide) (C := cfg) (Φ := pick (cal n)) (Λ := lam n) (into := into) hT (cal_ok n) (by kernel_rfl) rfl (by decide) rfl rfl rfl (by decide) (fun _ _ => rfl) (loops n)
    (fun x xs r h => by
      have e := F_eq n x.1 x.2.1 x.2.2.1 xs.1
      exact e.symm.trans h)
end spec_l1Cur_few
end
/-! ### loop.example/g01158/spec.l1Least -/
section
namespace spec_l1Least
noncomputable def code : Code := (Go.Proofs.Try.f181.body).getD .skip
abbrev shp : Shape := [(0, .one (.int .i64)), (1, .one (.int .i64))]
abbrev outs : List KD := [.one (.int .i64)]
abbrev R : Type := Int
def out : R → denL outs := fun r => (r, ())
def into : denL outs → R := fun y => y.1
def cfg : Cfg := ⟨ty, 10, [], fun _ => .plain, fun _ => none⟩
def cal (n : Nat) : List (Nat × PFn) := []
theorem cal_ok (n : Nat) : ∀ g, (pick (cal n) g).Ok Go.Proofs.Try.prog g := pick_ok (by
  intro p hp
  cases hp)
def fin : St → Option R := finOf ty [.tmp 4] outs into
def lam (n : Nat) : Nat → (St → Option R) → St → Option R := fun _ => fun _ _ => none
theorem loops (n : Nat) : LoopsOk cfg (pick (cal n)) (lam n) fin (loopsOf cfg.blk code) := by
  have h : loopsOf cfg.blk code = [] := by kernel_rfl
  rw [h]
  intro p hp
  cases hp
theorem F_eq (n : Nat) (x0 : Int) (x1 : Int) : spec_l1Least.F n x0 x1 = exK cfg (pick (cal n)) (lam n) fin code (fun _ _ => none) (mkSt shp (x0, x1, ())) fin := by
  kernel_rfl
def pfn (n : Nat) : PFn := mkFn shp outs (fun x => spec_l1Least.F n x.1 x.2.1) out
theorem ok (n : Nat) : (pfn n).Ok Go.Proofs.Try.prog 181 :=
  mkFn_ok (fn := Go.Proofs.Try.f181) (code := code) Go.Proofs.Try.func181 (by kernel_rfl) (by decide) (C := cfg) (Φ := pick (cal n)) (Λ := lam n) (into := into) hT (cal_ok n) (by kernel_rfl) rfl (by decide) rfl (fun _ => rfl) (loops n)
    (fun x r h => by
      have e := F_eq n x.1 x.2.1
      exact e.symm.trans h)
end spec_l1Least
end
/-! ### loop.example/g01158/spec.l1Most -/
section
namespace spec_l1Most
noncomputable def code : Code := (Go.Proofs.Try.f182.body).getD .skip
abbrev shp : Shape := [(0, .one (.int .i64)), (1, .one (.int .i64))]
abbrev outs : List KD := [.one (.int .i64)]
abbrev R : Type := Int
def out : R → denL outs := fun r => (r, ())
def into : denL outs → R := fun y => y.1
def cfg : Cfg := ⟨ty, 10, [], fun _ => .plain, fun _ => none⟩
def cal (n : Nat) : List (Nat × PFn) := []
theorem cal_ok (n : Nat) : ∀ g, (pick (cal n) g).Ok Go.Proofs.Try.prog g := pick_ok (by
  intro p hp
  cases hp)
def fin : St → Option R := finOf ty [.tmp 4] outs into
def lam (n : Nat) : Nat → (St → Option R) → St → Option R := fun _ => fun _ _ => none
theorem loops (n : Nat) : LoopsOk cfg (pick (cal n)) (lam n) fin (loopsOf cfg.blk code) := by
  have h : loopsOf cfg.blk code = [] := by kernel_rfl
  rw [h]
  intro p hp
  cases hp
theorem F_eq (n : Nat) (x0 : Int) (x1 : Int) : spec_l1Most.F n x0 x1 = exK cfg (pick (cal n)) (lam n) fin code (fun _ _ => none) (mkSt shp (x0, x1, ())) fin := by
  kernel_rfl
def pfn (n : Nat) : PFn := mkFn shp outs (fun x => spec_l1Most.F n x.1 x.2.1) out
theorem ok (n : Nat) : (pfn n).Ok Go.Proofs.Try.prog 182 :=
  mkFn_ok (fn := Go.Proofs.Try.f182) (code := code) Go.Proofs.Try.func182 (by kernel_rfl) (by decide) (C := cfg) (Φ := pick (cal n)) (Λ := lam n) (into := into) hT (cal_ok n) (by kernel_rfl) rfl (by decide) rfl (fun _ => rfl) (loops n)
    (fun x r h => by
      have e := F_eq n x.1 x.2.1
      exact e.symm.trans h)
end spec_l1Most
end
/-! ### loop.example/g01158/spec.l2Before -/
section
namespace spec_l2Before
noncomputable def code : Code := (Go.Proofs.Try.f179.body).getD .skip
abbrev shp : Shape := [(0, .agg [.int .i64, .int .i64, .int .i64]), (1, .agg [.int .i64, .int .i64, .int .i64])]
abbrev outs : List KD := [.one (.bool)]
abbrev R : Type := Bool
def out : R → denL outs := fun r => (r, ())
def into : denL outs → R := fun y => y.1
def cfg : Cfg := ⟨ty, 24, [], fun i => match Nat.beq i 0 with | true => .unroll 4 | false => .plain, fun _ => none⟩
def cal (n : Nat) : List (Nat × PFn) := []
theorem cal_ok (n : Nat) : ∀ g, (pick (cal n) g).Ok Go.Proofs.Try.prog g := pick_ok (by
  intro p hp
  cases hp)
def fin : St → Option R := finOf ty [.tmp 4] outs into
def lam (n : Nat) : Nat → (St → Option R) → St → Option R := fun _ => fun _ _ => none
theorem loops (n : Nat) : LoopsOk cfg (pick (cal n)) (lam n) fin (loopsOf cfg.blk code) := by
  have h : loopsOf cfg.blk code = [] := by kernel_rfl
  rw [h]
  intro p hp
  cases hp
theorem F_eq (n : Nat) (x0 : Int) (x1 : Int) (x2 : Int) (x3 : Int) (x4 : Int) (x5 : Int) : spec_l2Before.F n x0 x1 x2 x3 x4 x5 = exK cfg (pick (cal n)) (lam n) fin code (fun _ _ => none) (mkSt shp ((x0, x1, x2, ()), (x3, x4, x5, ()), ())) fin := by
  kernel_rfl
def pfn (n : Nat) : PFn := mkFn shp outs (fun x => spec_l2Before.F n x.1.1 x.1.2.1 x.1.2.2.1 x.2.1.1 x.2.1.2.1 x.2.1.2.2.1) out
theorem ok (n : Nat) : (pfn n).Ok Go.Proofs.Try.prog 179 :=
  mkFn_ok (fn := Go.Proofs.Try.f179) (code := code) Go.Proofs.Try.func179 (by kernel_rfl) (by decide) (C := cfg) (Φ := pick (cal n)) (Λ := lam n) (into := into) hT (cal_ok n) (by kernel_rfl) rfl (by decide) rfl (fun _ => rfl) (loops n)
    (fun x r h => by
      have e := F_eq n x.1.1 x.1.2.1 x.1.2.2.1 x.2.1.1 x.2.1.2.1 x.2.1.2.2.1
      exact e.symm.trans h)
end spec_l2Before
end
/-! ### loop.example/g01158/spec.l2Put -/
section
namespace spec_l2Put
noncomputable def code : Code := (Go.Proofs.Try.f96.body).getD .skip
abbrev shp : Shape := [(0, .one (.row (.t3) true)), (1, .one (.int .i64)), (2, .one (.int .i64)), (3, .one (.int .i64))]
abbrev outs : List KD := [.one (.row (.t3) true)]
abbrev R : Type := (List (Int × Int × Int))
def out : R → denL outs := fun r => (r, ())
def into : denL outs → R := fun y => y.1
def cfg : Cfg := ⟨ty, 58, [], fun i => match Nat.beq i 0 with | true => .loop | false => .plain, fun _ => none⟩
def cal (n : Nat) : List (Nat × PFn) := [(179, spec_l2Before.pfn n), (181, spec_l1Least.pfn n), (182, spec_l1Most.pfn n)]
theorem cal_ok (n : Nat) : ∀ g, (pick (cal n) g).Ok Go.Proofs.Try.prog g := pick_ok (by
  intro p hp
  simp only [cal, List.mem_cons, List.not_mem_nil, or_false] at hp
  rcases hp with rfl | rfl | rfl
  · exact spec_l2Before.ok n
  · exact spec_l1Least.ok n
  · exact spec_l1Most.ok n)
def fin : St → Option R := finOf ty [.tmp 8] outs into
abbrev sin0 : Shape := [(0, .one (.row (.t3) true)), (9, .box true [.int .i64, .int .i64, .int .i64]), (10, .one (.int .i64))]
abbrev sout0 : Shape := [(0, .one (.row (.t3) true)), (9, .box true [.int .i64, .int .i64, .int .i64]), (10, .one (.int .i64))]
def lam (n : Nat) : Nat → (St → Option R) → St → Option R := fun i => match Nat.beq i 0 with | true => (fun K st => match absSt sin0 st with | some (x, _) => spec_l2Put.l0 n (fun y0 y1 y2 y3 y4 => K (mkSt sout0 (y0, (y1, y2, y3, ()), y4, ()))) n x.1 x.2.1.1 x.2.1.2.1 x.2.1.2.2.1 x.2.2.1 | none => none) | false => fun _ _ => none
noncomputable def lps : List (Nat × Code) := loopsOf cfg.blk code
noncomputable def b0 : Code := bodyOf lps 0
theorem l0_eq (n : Nat) (K : St → Option R) : ∀ (j : Nat) (x0 : List (Int × Int × Int)) (x1 : Int) (x2 : Int) (x3 : Int) (x4 : Int), spec_l2Put.l0 n (fun y0 y1 y2 y3 y4 => K (mkSt sout0 (y0, (y1, y2, y3, ()), y4, ()))) j x0 x1 x2 x3 x4 = iter (roundK cfg (pick (cal n)) (lam n) fin 0 b0 sin0 sout0 K) j (mkSt sin0 (x0, (x1, x2, x3, ()), x4, ()))
  | 0, _, _, _, _, _ => rfl
  | j + 1, x0, x1, x2, x3, x4 => by
    have ih : spec_l2Put.l0 n (fun y0 y1 y2 y3 y4 => K (mkSt sout0 (y0, (y1, y2, y3, ()), y4, ()))) j = fun x0 x1 x2 x3 x4 => iter (roundK cfg (pick (cal n)) (lam n) fin 0 b0 sin0 sout0 K) j (mkSt sin0 (x0, (x1, x2, x3, ()), x4, ())) := funext fun x0 => funext fun x1 => funext fun x2 => funext fun x3 => funext fun x4 => l0_eq n K j x0 x1 x2 x3 x4
    rw [spec_l2Put.l0, ih]
    show _ = roundK cfg (pick (cal n)) (lam n) fin 0 b0 sin0 sout0 K (iter (roundK cfg (pick (cal n)) (lam n) fin 0 b0 sin0 sout0 K) j) (mkSt sin0 (x0, (x1, x2, x3, ()), x4, ()))
    kernel_rfl
theorem loops (n : Nat) : LoopsOk cfg (pick (cal n)) (lam n) fin (loopsOf cfg.blk code) := by
  have h : loopsOf cfg.blk code = [(0, b0)] := by kernel_rfl
  rw [h]
  intro p hp K st r hr
  simp only [List.mem_cons, List.not_mem_nil, or_false] at hp
  rcases hp with rfl
  · have hr' : (match absSt sin0 st with | some (x, _) => spec_l2Put.l0 n (fun y0 y1 y2 y3 y4 => K (mkSt sout0 (y0, (y1, y2, y3, ()), y4, ()))) n x.1 x.2.1.1 x.2.1.2.1 x.2.1.2.2.1 x.2.2.1 | none => none) = some r := hr
    split at hr'
    · rename_i x es hx
      rw [l0_eq] at hr'
      exact ⟨sin0, sout0, n, x, es, hx, hr'⟩
    · cases hr'
theorem F_eq (n : Nat) (x0 : List (Int × Int × Int)) (x1 : Int) (x2 : Int) (x3 : Int) : spec_l2Put.F n x0 x1 x2 x3 = exK cfg (pick (cal n)) (lam n) fin code (fun _ _ => none) (mkSt shp (x0, x1, x2, x3, ())) fin := by
  kernel_rfl
def pfn (n : Nat) : PFn := mkFn shp outs (fun x => spec_l2Put.F n x.1 x.2.1 x.2.2.1 x.2.2.2.1) out
theorem ok (n : Nat) : (pfn n).Ok Go.Proofs.Try.prog 96 :=
  mkFn_ok (fn := Go.Proofs.Try.f96) (code := code) Go.Proofs.Try.func96 (by kernel_rfl) (by decide) (C := cfg) (Φ := pick (cal n)) (Λ := lam n) (into := into) hT (cal_ok n) (by kernel_rfl) rfl (by decide) rfl (fun _ => rfl) (loops n)
    (fun x r h => by
      have e := F_eq n x.1 x.2.1 x.2.2.1 x.2.2.2.1
      exact e.symm.trans h)
end spec_l2Put
end
/-! ### (*loop.example/g01158/spec.l1Cur).someMaze -/
section
namespace spec_l1Cur_someMaze
noncomputable def code : Code := (Go.Proofs.Try.f135.body).getD .skip
abbrev shp : Shape := [(0, .box true [.row (.int .u8) false, .int .i64, .int .u64]), (1, .one (.int .i64))]
abbrev outs : List KD := [.agg [.int .i64, .row (.t3) true, .row (.int .i64) true]]
abbrev R : Type := (List (Int)) × Int × Int × Int × (List (Int × Int × Int)) × (List (Int))
abbrev bs : List BK := [.row (.int .u8) false, .int .i64, .int .u64]
abbrev rshp : Shape := [(1, .one (.int .i64))]
def out : R → denB bs × denL outs := fun r => ((r.1, r.2.1, r.2.2.1, ()), ((r.2.2.2.1, r.2.2.2.2.1, r.2.2.2.2.2, ()), ()))
def into : denB bs → denL outs → R := fun z y => (z.1, z.2.1, z.2.2.1, y.1.1, y.1.2.1, y.1.2.2.1)
def cfg : Cfg := ⟨ty, 173, [0], fun i => match Nat.beq i 2 with | true => .loop | false => match Nat.beq i 0 with | true => .loop | false => .plain, fun i => match Nat.beq i 6 with | true => some [(0, .box true [.row (.int .u8) false, .int .i64, .int .u64]), (1, .one (.int .i64)), (4, .box true [.int .i64, .row (.t3) true, .row (.int .i64) true]), (5, .box true [.int .i64, .row (.t3) true, .row (.int .i64) true]), (6, .one (.int .i64)), (7, .one (.int .i64)), (8, .one (.int .i64))] | false => match Nat.beq i 16 with | true => some [(0, .box true [.row (.int .u8) false, .int .i64, .int .u64]), (1, .one (.int .i64)), (4, .box true [.int .i64, .row (.t3) true, .row (.int .i64) true]), (5, .box true [.int .i64, .row (.t3) true, .row (.int .i64) true]), (6, .one (.int .i64))] | false => match Nat.beq i 22 with | true => some [(0, .box true [.row (.int .u8) false, .int .i64, .int .u64]), (4, .box true [.int .i64, .row (.t3) true, .row (.int .i64) true]), (5, .box true [.int .i64, .row (.t3) true, .row (.int .i64) true])] | false => none⟩
def cal (n : Nat) : List (Nat × PFn) := [(96, spec_l2Put.pfn n), (129, spec_l1Cur_pick.pfn n), (136, spec_l1Cur_among.pfn n), (156, spec_l1Cur_one.pfn n), (157, spec_l1Cur_few.pfn n)]
theorem cal_ok (n : Nat) : ∀ g, (pick (cal n) g).Ok Go.Proofs.Try.prog g := pick_ok (by
  intro p hp
  simp only [cal, List.mem_cons, List.not_mem_nil, or_false] at hp
  rcases hp with rfl | rfl | rfl | rfl | rfl
  · exact spec_l2Put.ok n
  · exact spec_l1Cur_pick.ok n
  · exact spec_l1Cur_among.ok n
  · exact spec_l1Cur_one.ok n
  · exact spec_l1Cur_few.ok n)
def fin : St → Option R := finBox ty [.cell 4 27] bs outs into
abbrev sin2 : Shape := [(0, .box true [.row (.int .u8) false, .int .i64, .int .u64]), (1, .one (.int .i64)), (4, .box true [.int .i64, .row (.t3) true, .row (.int .i64) true]), (5, .box true [.int .i64, .row (.t3) true, .row (.int .i64) true]), (6, .one (.int .i64)), (11, .one (.int .i64))]
abbrev sout2 : Shape := [(0, .box true [.row (.int .u8) false, .int .i64, .int .u64]), (4, .box true [.int .i64, .row (.t3) true, .row (.int .i64) true]), (5, .box true [.int .i64, .row (.t3) true, .row (.int .i64) true])]
abbrev sin0 : Shape := [(0, .box true [.row (.int .u8) false, .int .i64, .int .u64]), (1, .one (.int .i64)), (4, .box true [.int .i64, .row (.t3) true, .row (.int .i64) true]), (5, .box true [.int .i64, .row (.t3) true, .row (.int .i64) true]), (6, .one (.int .i64)), (7, .one (.int .i64)), (8, .one (.int .i64))]
abbrev sout0 : Shape := [(0, .box true [.row (.int .u8) false, .int .i64, .int .u64]), (1, .one (.int .i64)), (4, .box true [.int .i64, .row (.t3) true, .row (.int .i64) true]), (5, .box true [.int .i64, .row (.t3) true, .row (.int .i64) true]), (6, .one (.int .i64))]
def lam (n : Nat) : Nat → (St → Option R) → St → Option R := fun i => match Nat.beq i 2 with | true => (fun K st => match absSt sin2 st with | some (x, _) => spec_l1Cur_someMaze.l2 n (fun y0 y1 y2 y3 y4 y5 y6 y7 y8 => K (mkSt sout2 ((y0, y1, y2, ()), (y3, y4, y5, ()), (y6, y7, y8, ()), ()))) n x.1.1 x.1.2.1 x.1.2.2.1 x.2.1 x.2.2.1.1 x.2.2.1.2.1 x.2.2.1.2.2.1 x.2.2.2.1.1 x.2.2.2.1.2.1 x.2.2.2.1.2.2.1 x.2.2.2.2.1 x.2.2.2.2.2.1 | none => none) | false => match Nat.beq i 0 with | true => (fun K st => match absSt sin0 st with | some (x, _) => spec_l1Cur_someMaze.l0 n (fun y0 y1 y2 y3 y4 y5 y6 y7 y8 y9 y10 => K (mkSt sout0 ((y0, y1, y2, ()), y3, (y4, y5, y6, ()), (y7, y8, y9, ()), y10, ()))) n x.1.1 x.1.2.1 x.1.2.2.1 x.2.1 x.2.2.1.1 x.2.2.1.2.1 x.2.2.1.2.2.1 x.2.2.2.1.1 x.2.2.2.1.2.1 x.2.2.2.1.2.2.1 x.2.2.2.2.1 x.2.2.2.2.2.1 x.2.2.2.2.2.2.1 | none => none) | false => fun _ _ => none
noncomputable def lps : List (Nat × Code) := loopsOf cfg.blk code
noncomputable def b2 : Code := bodyOf lps 2
theorem l2_eq (n : Nat) (K : St → Option R) : ∀ (j : Nat) (x0 : List (Int)) (x1 : Int) (x2 : Int) (x3 : Int) (x4 : Int) (x5 : List (Int × Int × Int)) (x6 : List (Int)) (x7 : Int) (x8 : List (Int × Int × Int)) (x9 : List (Int)) (x10 : Int) (x11 : Int), spec_l1Cur_someMaze.l2 n (fun y0 y1 y2 y3 y4 y5 y6 y7 y8 => K (mkSt sout2 ((y0, y1, y2, ()), (y3, y4, y5, ()), (y6, y7, y8, ()), ()))) j x0 x1 x2 x3 x4 x5 x6 x7 x8 x9 x10 x11 = iter (roundK cfg (pick (cal n)) (lam n) fin 2 b2 sin2 sout2 K) j (mkSt sin2 ((x0, x1, x2, ()), x3, (x4, x5, x6, ()), (x7, x8, x9, ()), x10, x11, ()))
  | 0, _, _, _, _, _, _, _, _, _, _, _, _ => rfl
  | j + 1, x0, x1, x2, x3, x4, x5, x6, x7, x8, x9, x10, x11 => by
    have ih : spec_l1Cur_someMaze.l2 n (fun y0 y1 y2 y3 y4 y5 y6 y7 y8 => K (mkSt sout2 ((y0, y1, y2, ()), (y3, y4, y5, ()), (y6, y7, y8, ()), ()))) j = fun x0 x1 x2 x3 x4 x5 x6 x7 x8 x9 x10 x11 => iter (roundK cfg (pick (cal n)) (lam n) fin 2 b2 sin2 sout2 K) j (mkSt sin2 ((x0, x1, x2, ()), x3, (x4, x5, x6, ()), (x7, x8, x9, ()), x10, x11, ())) := funext fun x0 => funext fun x1 => funext fun x2 => funext fun x3 => funext fun x4 => funext fun x5 => funext fun x6 => funext fun x7 => funext fun x8 => funext fun x9 => funext fun x10 => funext fun x11 => l2_eq n K j x0 x1 x2 x3 x4 x5 x6 x7 x8 x9 x10 x11
    rw [spec_l1Cur_someMaze.l2, ih]
    show _ = roundK cfg (pick (cal n)) (lam n) fin 2 b2 sin2 sout2 K (iter (roundK cfg (pick (cal n)) (lam n) fin 2 b2 sin2 sout2 K) j) (mkSt sin2 ((x0, x1, x2, ()), x3, (x4, x5, x6, ()), (x7, x8, x9, ()), x10, x11, ()))
    kernel_rfl
noncomputable def b0 : Code := bodyOf lps 0
theorem l0_eq (n : Nat) (K : St → Option R) : ∀ (j : Nat) (x0 : List (Int)) (x1 : Int) (x2 : Int) (x3 : Int) (x4 : Int) (x5 : List (Int × Int × Int)) (x6 : List (Int)) (x7 : Int) (x8 : List (Int × Int × Int)) (x9 : List (Int)) (x10 : Int) (x11 : Int) (x12 : Int), spec_l1Cur_someMaze.l0 n (fun y0 y1 y2 y3 y4 y5 y6 y7 y8 y9 y10 => K (mkSt sout0 ((y0, y1, y2, ()), y3, (y4, y5, y6, ()), (y7, y8, y9, ()), y10, ()))) j x0 x1 x2 x3 x4 x5 x6 x7 x8 x9 x10 x11 x12 = iter (roundK cfg (pick (cal n)) (lam n) fin 0 b0 sin0 sout0 K) j (mkSt sin0 ((x0, x1, x2, ()), x3, (x4, x5, x6, ()), (x7, x8, x9, ()), x10, x11, x12, ()))
  | 0, _, _, _, _, _, _, _, _, _, _, _, _, _ => rfl
  | j + 1, x0, x1, x2, x3, x4, x5, x6, x7, x8, x9, x10, x11, x12 => by
    have ih : spec_l1Cur_someMaze.l0 n (fun y0 y1 y2 y3 y4 y5 y6 y7 y8 y9 y10 => K (mkSt sout0 ((y0, y1, y2, ()), y3, (y4, y5, y6, ()), (y7, y8, y9, ()), y10, ()))) j = fun x0 x1 x2 x3 x4 x5 x6 x7 x8 x9 x10 x11 x12 => iter (roundK cfg (pick (cal n)) (lam n) fin 0 b0 sin0 sout0 K) j (mkSt sin0 ((x0, x1, x2, ()), x3, (x4, x5, x6, ()), (x7, x8, x9, ()), x10, x11, x12, ())) := funext fun x0 => funext fun x1 => funext fun x2 => funext fun x3 => funext fun x4 => funext fun x5 => funext fun x6 => funext fun x7 => funext fun x8 => funext fun x9 => funext fun x10 => funext fun x11 => funext fun x12 => l0_eq n K j x0 x1 x2 x3 x4 x5 x6 x7 x8 x9 x10 x11 x12
    rw [spec_l1Cur_someMaze.l0, ih]
    show _ = roundK cfg (pick (cal n)) (lam n) fin 0 b0 sin0 sout0 K (iter (roundK cfg (pick (cal n)) (lam n) fin 0 b0 sin0 sout0 K) j) (mkSt sin0 ((x0, x1, x2, ()), x3, (x4, x5, x6, ()), (x7, x8, x9, ()), x10, x11, x12, ()))
    kernel_rfl
theorem loops (n : Nat) : LoopsOk cfg (pick (cal n)) (lam n) fin (loopsOf cfg.blk code) := by
  have h : loopsOf cfg.blk code = [(0, b0), (2, b2)] := by kernel_rfl
  rw [h]
  intro p hp K st r hr
  simp only [List.mem_cons, List.not_mem_nil, or_false] at hp
  rcases hp with rfl | rfl
  · have hr' : (match absSt sin0 st with | some (x, _) => spec_l1Cur_someMaze.l0 n (fun y0 y1 y2 y3 y4 y5 y6 y7 y8 y9 y10 => K (mkSt sout0 ((y0, y1, y2, ()), y3, (y4, y5, y6, ()), (y7, y8, y9, ()), y10, ()))) n x.1.1 x.1.2.1 x.1.2.2.1 x.2.1 x.2.2.1.1 x.2.2.1.2.1 x.2.2.1.2.2.1 x.2.2.2.1.1 x.2.2.2.1.2.1 x.2.2.2.1.2.2.1 x.2.2.2.2.1 x.2.2.2.2.2.1 x.2.2.2.2.2.2.1 | none => none) = some r := hr
    split at hr'
    · rename_i x es hx
      rw [l0_eq] at hr'
      exact ⟨sin0, sout0, n, x, es, hx, hr'⟩
    · cases hr'
  · have hr' : (match absSt sin2 st with | some (x, _) => spec_l1Cur_someMaze.l2 n (fun y0 y1 y2 y3 y4 y5 y6 y7 y8 => K (mkSt sout2 ((y0, y1, y2, ()), (y3, y4, y5, ()), (y6, y7, y8, ()), ()))) n x.1.1 x.1.2.1 x.1.2.2.1 x.2.1 x.2.2.1.1 x.2.2.1.2.1 x.2.2.1.2.2.1 x.2.2.2.1.1 x.2.2.2.1.2.1 x.2.2.2.1.2.2.1 x.2.2.2.2.1 x.2.2.2.2.2.1 | none => none) = some r := hr
    split at hr'
    · rename_i x es hx
      rw [l2_eq] at hr'
      exact ⟨sin2, sout2, n, x, es, hx, hr'⟩
    · cases hr'
noncomputable def code16 : Code := spineAt 4 code
abbrev cut16 : Shape := [(0, .box true [.row (.int .u8) false, .int .i64, .int .u64]), (1, .one (.int .i64)), (4, .box true [.int .i64, .row (.t3) true, .row (.int .i64) true]), (5, .box true [.int .i64, .row (.t3) true, .row (.int .i64) true]), (6, .one (.int .i64))]
noncomputable def code22 : Code := spineAt 1 code16
abbrev cut22 : Shape := [(0, .box true [.row (.int .u8) false, .int .i64, .int .u64]), (4, .box true [.int .i64, .row (.t3) true, .row (.int .i64) true]), (5, .box true [.int .i64, .row (.t3) true, .row (.int .i64) true])]
theorem c22_eq (n : Nat) (x0 : List (Int)) (x1 : Int) (x2 : Int) (x3 : Int) (x4 : List (Int × Int × Int)) (x5 : List (Int)) (x6 : Int) (x7 : List (Int × Int × Int)) (x8 : List (Int)) : spec_l1Cur_someMaze.c22 n x0 x1 x2 x3 x4 x5 x6 x7 x8 = exK cfg (pick (cal n)) (lam n) fin code22 (fun _ _ => none) (mkSt cut22 ((x0, x1, x2, ()), (x3, x4, x5, ()), (x6, x7, x8, ()), ())) fin := by
  kernel_rfl
theorem c16_seg (n : Nat) (x0 : List (Int)) (x1 : Int) (x2 : Int) (x3 : Int) (x4 : Int) (x5 : List (Int × Int × Int)) (x6 : List (Int)) (x7 : Int) (x8 : List (Int × Int × Int)) (x9 : List (Int)) (x10 : Int) : spec_l1Cur_someMaze.c16 n x0 x1 x2 x3 x4 x5 x6 x7 x8 x9 x10 = exSeg cfg (pick (cal n)) (lam n) fin (fun _ _ => none) cut22 (fun x => spec_l1Cur_someMaze.c22 n x.1.1 x.1.2.1 x.1.2.2.1 x.2.1.1 x.2.1.2.1 x.2.1.2.2.1 x.2.2.1.1 x.2.2.1.2.1 x.2.2.1.2.2.1) 0 code16 (mkSt cut16 ((x0, x1, x2, ()), x3, (x4, x5, x6, ()), (x7, x8, x9, ()), x10, ())) := by
  kernel_rfl
theorem c16_eq (n : Nat) (x0 : List (Int)) (x1 : Int) (x2 : Int) (x3 : Int) (x4 : Int) (x5 : List (Int × Int × Int)) (x6 : List (Int)) (x7 : Int) (x8 : List (Int × Int × Int)) (x9 : List (Int)) (x10 : Int) : spec_l1Cur_someMaze.c16 n x0 x1 x2 x3 x4 x5 x6 x7 x8 x9 x10 = exK cfg (pick (cal n)) (lam n) fin code16 (fun _ _ => none) (mkSt cut16 ((x0, x1, x2, ()), x3, (x4, x5, x6, ()), (x7, x8, x9, ()), x10, ())) fin := 
  (c16_seg n x0 x1 x2 x3 x4 x5 x6 x7 x8 x9 x10).trans (seg_eq 0 (by kernel_rfl) rfl (by kernel_rfl) (fun x => c22_eq n x.1.1 x.1.2.1 x.1.2.2.1 x.2.1.1 x.2.1.2.1 x.2.1.2.2.1 x.2.2.1.1 x.2.2.1.2.1 x.2.2.1.2.2.1))
theorem F_seg (n : Nat) (x0 : List (Int)) (x1 : Int) (x2 : Int) (x3 : Int) : spec_l1Cur_someMaze.F n x0 x1 x2 x3 = exSeg cfg (pick (cal n)) (lam n) fin (fun _ _ => none) cut16 (fun x => spec_l1Cur_someMaze.c16 n x.1.1 x.1.2.1 x.1.2.2.1 x.2.1 x.2.2.1.1 x.2.2.1.2.1 x.2.2.1.2.2.1 x.2.2.2.1.1 x.2.2.2.1.2.1 x.2.2.2.1.2.2.1 x.2.2.2.2.1) 3 code (mkSt shp ((x0, x1, x2, ()), x3, ())) := by
  kernel_rfl
theorem F_eq (n : Nat) (x0 : List (Int)) (x1 : Int) (x2 : Int) (x3 : Int) : spec_l1Cur_someMaze.F n x0 x1 x2 x3 = exK cfg (pick (cal n)) (lam n) fin code (fun _ _ => none) (mkSt shp ((x0, x1, x2, ()), x3, ())) fin :=
  (F_seg n x0 x1 x2 x3).trans (seg_eq 3 (by kernel_rfl) rfl (by kernel_rfl) (fun x => c16_eq n x.1.1 x.1.2.1 x.1.2.2.1 x.2.1 x.2.2.1.1 x.2.2.1.2.1 x.2.2.1.2.2.1 x.2.2.2.1.1 x.2.2.2.1.2.1 x.2.2.2.1.2.2.1 x.2.2.2.2.1))
def pfn (n : Nat) : PFn := mkBox bs rshp.ks outs (fun x xs => spec_l1Cur_someMaze.F n x.1 x.2.1 x.2.2.1 xs.1) out
theorem ok (n : Nat) : (pfn n).Ok Go.Proofs.Try.prog 135 :=
  mkBox_ok (rshp := rshp) (fn := Go.Proofs.Try.f135) (code := code) Go.Proofs.Try.func135 (by kernel_rfl) (by decide) (C := cfg) (Φ := pick (cal n)) (Λ := lam n) (into := into) hT (cal_ok n) (by kernel_rfl) rfl (by decide) rfl rfl rfl (by decide) (fun _ _ => rfl) (loops n)
    (fun x xs r h => by
      have e := F_eq n x.1 x.2.1 x.2.2.1 xs.1
      exact e.symm.trans h)
end spec_l1Cur_someMaze
end
/-! ### (*loop.example/g01158/spec.l1Cur).maze -/
section
namespace spec_l1Cur_maze
noncomputable def code : Code := (Go.Proofs.Try.f126.body).getD .skip
abbrev shp : Shape := [(0, .box true [.row (.int .u8) false, .int .i64, .int .u64])]
abbrev outs : List KD := [.agg [.int .i64, .row (.t3) true, .row (.int .i64) true]]
abbrev R : Type := (List (Int)) × Int × Int × Int × (List (Int × Int × Int)) × (List (Int))
abbrev bs : List BK := [.row (.int .u8) false, .int .i64, .int .u64]
abbrev rshp : Shape := []
def out : R → denB bs × denL outs := fun r => ((r.1, r.2.1, r.2.2.1, ()), ((r.2.2.2.1, r.2.2.2.2.1, r.2.2.2.2.2, ()), ()))
def into : denB bs → denL outs → R := fun z y => (z.1, z.2.1, z.2.2.1, y.1.1, y.1.2.1, y.1.2.2.1)
def cfg : Cfg := ⟨ty, 8, [0], fun _ => .plain, fun _ => none⟩
def cal (n : Nat) : List (Nat × PFn) := [(135, spec_l1Cur_someMaze.pfn n), (136, spec_l1Cur_among.pfn n)]
theorem cal_ok (n : Nat) : ∀ g, (pick (cal n) g).Ok Go.Proofs.Try.prog g := pick_ok (by
  intro p hp
  simp only [cal, List.mem_cons, List.not_mem_nil, or_false] at hp
  rcases hp with rfl | rfl
  · exact spec_l1Cur_someMaze.ok n
  · exact spec_l1Cur_among.ok n)
def fin : St → Option R := finBox ty [.cell 2 27] bs outs into
def lam (n : Nat) : Nat → (St → Option R) → St → Option R := fun _ => fun _ _ => none
theorem loops (n : Nat) : LoopsOk cfg (pick (cal n)) (lam n) fin (loopsOf cfg.blk code) := by
  have h : loopsOf cfg.blk code = [] := by kernel_rfl
  rw [h]
  intro p hp
  cases hp
theorem F_eq (n : Nat) (x0 : List (Int)) (x1 : Int) (x2 : Int) : spec_l1Cur_maze.F n x0 x1 x2 = exK cfg (pick (cal n)) (lam n) fin code (fun _ _ => none) (mkSt shp ((x0, x1, x2, ()), ())) fin := by
  kernel_rfl
def pfn (n : Nat) : PFn := mkBox bs rshp.ks outs (fun x xs => spec_l1Cur_maze.F n x.1 x.2.1 x.2.2.1) out
theorem ok (n : Nat) : (pfn n).Ok Go.Proofs.Try.prog 126 :=
  mkBox_ok (rshp := rshp) (fn := Go.Proofs.Try.f126) (code := code) Go.Proofs.Try.func126 (by kernel_rfl) (by decide) (C := cfg) (Φ := pick (cal n)) (Λ := lam n) (into := into) hT (cal_ok n) (by kernel_rfl) rfl (by decide) rfl rfl rfl (by decide) (fun _ _ => rfl) (loops n)
    (fun x xs r h => by
      have e := F_eq n x.1 x.2.1 x.2.2.1
      exact e.symm.trans h)
end spec_l1Cur_maze
end
/-! ### (*loop.example/g01158/spec.l1Cur).nodeOf -/
section
namespace spec_l1Cur_nodeOf
noncomputable def code : Code := (Go.Proofs.Try.f127.body).getD .skip
abbrev shp : Shape := [(0, .box true [.row (.int .u8) false, .int .i64, .int .u64]), (1, .agg [.int .i64, .row (.t3) false, .row (.int .i64) false])]
abbrev outs : List KD := [.one (.int .i64)]
abbrev R : Type := (List (Int)) × Int × Int × Int
abbrev bs : List BK := [.row (.int .u8) false, .int .i64, .int .u64]
abbrev rshp : Shape := [(1, .agg [.int .i64, .row (.t3) false, .row (.int .i64) false])]
def out : R → denB bs × denL outs := fun r => ((r.1, r.2.1, r.2.2.1, ()), (r.2.2.2, ()))
def into : denB bs → denL outs → R := fun z y => (z.1, z.2.1, z.2.2.1, y.1)
def cfg : Cfg := ⟨ty, 18, [0], fun _ => .plain, fun _ => none⟩
def cal (n : Nat) : List (Nat × PFn) := [(129, spec_l1Cur_pick.pfn n), (136, spec_l1Cur_among.pfn n), (156, spec_l1Cur_one.pfn n), (181, spec_l1Least.pfn n), (182, spec_l1Most.pfn n)]
theorem cal_ok (n : Nat) : ∀ g, (pick (cal n) g).Ok Go.Proofs.Try.prog g := pick_ok (by
  intro p hp
  simp only [cal, List.mem_cons, List.not_mem_nil, or_false] at hp
  rcases hp with rfl | rfl | rfl | rfl | rfl
  · exact spec_l1Cur_pick.ok n
  · exact spec_l1Cur_among.ok n
  · exact spec_l1Cur_one.ok n
  · exact spec_l1Least.ok n
  · exact spec_l1Most.ok n)
def fin : St → Option R := finBox ty [.tmp 4] bs outs into
def lam (n : Nat) : Nat → (St → Option R) → St → Option R := fun _ => fun _ _ => none
theorem loops (n : Nat) : LoopsOk cfg (pick (cal n)) (lam n) fin (loopsOf cfg.blk code) := by
  have h : loopsOf cfg.blk code = [] := by kernel_rfl
  rw [h]
  intro p hp
  cases hp
theorem F_eq (n : Nat) (x0 : List (Int)) (x1 : Int) (x2 : Int) (x3 : Int) (x4 : List (Int × Int × Int)) (x5 : List (Int)) : spec_l1Cur_nodeOf.F n x0 x1 x2 x3 x4 x5 = exK cfg (pick (cal n)) (lam n) fin code (fun _ _ => none) (mkSt shp ((x0, x1, x2, ()), (x3, x4, x5, ()), ())) fin := by
  kernel_rfl
def pfn (n : Nat) : PFn := mkBox bs rshp.ks outs (fun x xs => spec_l1Cur_nodeOf.F n x.1 x.2.1 x.2.2.1 xs.1.1 xs.1.2.1 xs.1.2.2.1) out
theorem ok (n : Nat) : (pfn n).Ok Go.Proofs.Try.prog 127 :=
  mkBox_ok (rshp := rshp) (fn := Go.Proofs.Try.f127) (code := code) Go.Proofs.Try.func127 (by kernel_rfl) (by decide) (C := cfg) (Φ := pick (cal n)) (Λ := lam n) (into := into) hT (cal_ok n) (by kernel_rfl) rfl (by decide) rfl rfl rfl (by decide) (fun _ _ => rfl) (loops n)
    (fun x xs r h => by
      have e := F_eq n x.1 x.2.1 x.2.2.1 xs.1.1 xs.1.2.1 xs.1.2.2.1
      exact e.symm.trans h)
end spec_l1Cur_nodeOf
end
/-! ### loop.example/g01158/spec.DrawWithoutNode -/
section
namespace spec_DrawWithoutNode
noncomputable def code : Code := (Go.Proofs.Try.f79.body).getD .skip
abbrev shp : Shape := [(0, .one (.row (.int .u8) false))]
abbrev outs : List KD := [.agg [.int .i64, .row (.t3) true, .row (.int .i64) true], .one (.int .i64)]
abbrev R : Type := Int × (List (Int × Int × Int)) × (List (Int)) × Int
def out : R → denL outs := fun r => ((r.1, r.2.1, r.2.2.1, ()), r.2.2.2, ())
def into : denL outs → R := fun y => (y.1.1, y.1.2.1, y.1.2.2.1, y.2.1)
def cfg : Cfg := ⟨ty, 15, [], fun _ => .plain, fun _ => none⟩
def cal (n : Nat) : List (Nat × PFn) := [(126, spec_l1Cur_maze.pfn n), (127, spec_l1Cur_nodeOf.pfn n)]
theorem cal_ok (n : Nat) : ∀ g, (pick (cal n) g).Ok Go.Proofs.Try.prog g := pick_ok (by
  intro p hp
  simp only [cal, List.mem_cons, List.not_mem_nil, or_false] at hp
  rcases hp with rfl | rfl
  · exact spec_l1Cur_maze.ok n
  · exact spec_l1Cur_nodeOf.ok n)
def fin : St → Option R := finOf ty [.cell 2 27, .tmp 3] outs into
def lam (n : Nat) : Nat → (St → Option R) → St → Option R := fun _ => fun _ _ => none
theorem loops (n : Nat) : LoopsOk cfg (pick (cal n)) (lam n) fin (loopsOf cfg.blk code) := by
  have h : loopsOf cfg.blk code = [] := by kernel_rfl
  rw [h]
  intro p hp
  cases hp
theorem F_eq (n : Nat) (x0 : List (Int)) : spec_DrawWithoutNode.F n x0 = exK cfg (pick (cal n)) (lam n) fin code (fun _ _ => none) (mkSt shp (x0, ())) fin := by
  kernel_rfl
def pfn (n : Nat) : PFn := mkFn shp outs (fun x => spec_DrawWithoutNode.F n x.1) out
theorem ok (n : Nat) : (pfn n).Ok Go.Proofs.Try.prog 79 :=
  mkFn_ok (fn := Go.Proofs.Try.f79) (code := code) Go.Proofs.Try.func79 (by kernel_rfl) (by decide) (C := cfg) (Φ := pick (cal n)) (Λ := lam n) (into := into) hT (cal_ok n) (by kernel_rfl) rfl (by decide) rfl (fun _ => rfl) (loops n)
    (fun x r h => by
      have e := F_eq n x.1
      exact e.symm.trans h)
end spec_DrawWithoutNode
end
/-! ### loop.example/g01158/impl.within -/
section
namespace impl_within
noncomputable def code : Code := (Go.Proofs.Try.f130.body).getD .skip
abbrev shp : Shape := [(0, .one (.int .i64)), (1, .one (.int .i64)), (2, .one (.int .i64))]
abbrev outs : List KD := [.one (.bool)]
abbrev R : Type := Bool
def out : R → denL outs := fun r => (r, ())
def into : denL outs → R := fun y => y.1
def cfg : Cfg := ⟨ty, 15, [], fun _ => .plain, fun _ => none⟩
def cal (n : Nat) : List (Nat × PFn) := []
theorem cal_ok (n : Nat) : ∀ g, (pick (cal n) g).Ok Go.Proofs.Try.prog g := pick_ok (by
  intro p hp
  cases hp)
def fin : St → Option R := finOf ty [.tmp 6] outs into
def lam (n : Nat) : Nat → (St → Option R) → St → Option R := fun _ => fun _ _ => none
theorem loops (n : Nat) : LoopsOk cfg (pick (cal n)) (lam n) fin (loopsOf cfg.blk code) := by
  have h : loopsOf cfg.blk code = [] := by kernel_rfl
  rw [h]
  intro p hp
  cases hp
theorem F_eq (n : Nat) (x0 : Int) (x1 : Int) (x2 : Int) : impl_within.F n x0 x1 x2 = exK cfg (pick (cal n)) (lam n) fin code (fun _ _ => none) (mkSt shp (x0, x1, x2, ())) fin := by
  kernel_rfl
def pfn (n : Nat) : PFn := mkFn shp outs (fun x => impl_within.F n x.1 x.2.1 x.2.2.1) out
theorem ok (n : Nat) : (pfn n).Ok Go.Proofs.Try.prog 130 :=
  mkFn_ok (fn := Go.Proofs.Try.f130) (code := code) Go.Proofs.Try.func130 (by kernel_rfl) (by decide) (C := cfg) (Φ := pick (cal n)) (Λ := lam n) (into := into) hT (cal_ok n) (by kernel_rfl) rfl (by decide) rfl (fun _ => rfl) (loops n)
    (fun x r h => by
      have e := F_eq n x.1 x.2.1 x.2.2.1
      exact e.symm.trans h)
end impl_within
end
/-! ### loop.example/g01158/impl.isSet -/
section
namespace impl_isSet
noncomputable def code : Code := (Go.Proofs.Try.f109.body).getD .skip
abbrev shp : Shape := [(0, .one (.int .i64))]
abbrev outs : List KD := [.one (.bool)]
abbrev R : Type := Bool
def out : R → denL outs := fun r => (r, ())
def into : denL outs → R := fun y => y.1
def cfg : Cfg := ⟨ty, 5, [], fun _ => .plain, fun _ => none⟩
def cal (n : Nat) : List (Nat × PFn) := [(130, impl_within.pfn n)]
theorem cal_ok (n : Nat) : ∀ g, (pick (cal n) g).Ok Go.Proofs.Try.prog g := pick_ok (by
  intro p hp
  simp only [cal, List.mem_cons, List.not_mem_nil, or_false] at hp
  rcases hp with rfl
  · exact impl_within.ok n)
def fin : St → Option R := finOf ty [.tmp 2] outs into
def lam (n : Nat) : Nat → (St → Option R) → St → Option R := fun _ => fun _ _ => none
theorem loops (n : Nat) : LoopsOk cfg (pick (cal n)) (lam n) fin (loopsOf cfg.blk code) := by
  have h : loopsOf cfg.blk code = [] := by kernel_rfl
  rw [h]
  intro p hp
  cases hp
theorem F_eq (n : Nat) (x0 : Int) : impl_isSet.F n x0 = exK cfg (pick (cal n)) (lam n) fin code (fun _ _ => none) (mkSt shp (x0, ())) fin := by
  kernel_rfl
def pfn (n : Nat) : PFn := mkFn shp outs (fun x => impl_isSet.F n x.1) out
theorem ok (n : Nat) : (pfn n).Ok Go.Proofs.Try.prog 109 :=
  mkFn_ok (fn := Go.Proofs.Try.f109) (code := code) Go.Proofs.Try.func109 (by kernel_rfl) (by decide) (C := cfg) (Φ := pick (cal n)) (Λ := lam n) (into := into) hT (cal_ok n) (by kernel_rfl) rfl (by decide) rfl (fun _ => rfl) (loops n)
    (fun x r h => by
      have e := F_eq n x.1
      exact e.symm.trans h)
end impl_isSet
end
/-! ### cmp.isNaN[int] -/
section
namespace cmp_isNaN_int
noncomputable def code : Code := (Go.Proofs.Try.f211.body).getD .skip
abbrev shp : Shape := [(0, .one (.int .i64))]
abbrev outs : List KD := [.one (.bool)]
abbrev R : Type := Bool
def out : R → denL outs := fun r => (r, ())
def into : denL outs → R := fun y => y.1
def cfg : Cfg := ⟨ty, 6, [], fun _ => .plain, fun _ => none⟩
def cal (n : Nat) : List (Nat × PFn) := []
theorem cal_ok (n : Nat) : ∀ g, (pick (cal n) g).Ok Go.Proofs.Try.prog g := pick_ok (by
  intro p hp
  cases hp)
def fin : St → Option R := finOf ty [.tmp 2] outs into
def lam (n : Nat) : Nat → (St → Option R) → St → Option R := fun _ => fun _ _ => none
theorem loops (n : Nat) : LoopsOk cfg (pick (cal n)) (lam n) fin (loopsOf cfg.blk code) := by
  have h : loopsOf cfg.blk code = [] := by kernel_rfl
  rw [h]
  intro p hp
  cases hp
theorem F_eq (n : Nat) (x0 : Int) : cmp_isNaN_int.F n x0 = exK cfg (pick (cal n)) (lam n) fin code (fun _ _ => none) (mkSt shp (x0, ())) fin := by
  kernel_rfl
def pfn (n : Nat) : PFn := mkFn shp outs (fun x => cmp_isNaN_int.F n x.1) out
theorem ok (n : Nat) : (pfn n).Ok Go.Proofs.Try.prog 211 :=
  mkFn_ok (fn := Go.Proofs.Try.f211) (code := code) Go.Proofs.Try.func211 (by kernel_rfl) (by decide) (C := cfg) (Φ := pick (cal n)) (Λ := lam n) (into := into) hT (cal_ok n) (by kernel_rfl) rfl (by decide) rfl (fun _ => rfl) (loops n)
    (fun x r h => by
      have e := F_eq n x.1
      exact e.symm.trans h)
end cmp_isNaN_int
end
/-! ### cmp.Compare[int] -/
section
namespace cmp_Compare_int
noncomputable def code : Code := (Go.Proofs.Try.f199.body).getD .skip
abbrev shp : Shape := [(0, .one (.int .i64)), (1, .one (.int .i64))]
abbrev outs : List KD := [.one (.int .i64)]
abbrev R : Type := Int
def out : R → denL outs := fun r => (r, ())
def into : denL outs → R := fun y => y.1
def cfg : Cfg := ⟨ty, 20, [], fun _ => .plain, fun _ => none⟩
def cal (n : Nat) : List (Nat × PFn) := [(211, cmp_isNaN_int.pfn n)]
theorem cal_ok (n : Nat) : ∀ g, (pick (cal n) g).Ok Go.Proofs.Try.prog g := pick_ok (by
  intro p hp
  simp only [cal, List.mem_cons, List.not_mem_nil, or_false] at hp
  rcases hp with rfl
  · exact cmp_isNaN_int.ok n)
def fin : St → Option R := finOf ty [.tmp 4] outs into
def lam (n : Nat) : Nat → (St → Option R) → St → Option R := fun _ => fun _ _ => none
theorem loops (n : Nat) : LoopsOk cfg (pick (cal n)) (lam n) fin (loopsOf cfg.blk code) := by
  have h : loopsOf cfg.blk code = [] := by kernel_rfl
  rw [h]
  intro p hp
  cases hp
theorem F_eq (n : Nat) (x0 : Int) (x1 : Int) : cmp_Compare_int.F n x0 x1 = exK cfg (pick (cal n)) (lam n) fin code (fun _ _ => none) (mkSt shp (x0, x1, ())) fin := by
  kernel_rfl
def pfn (n : Nat) : PFn := mkFn shp outs (fun x => cmp_Compare_int.F n x.1 x.2.1) out
theorem ok (n : Nat) : (pfn n).Ok Go.Proofs.Try.prog 199 :=
  mkFn_ok (fn := Go.Proofs.Try.f199) (code := code) Go.Proofs.Try.func199 (by kernel_rfl) (by decide) (C := cfg) (Φ := pick (cal n)) (Λ := lam n) (into := into) hT (cal_ok n) (by kernel_rfl) rfl (by decide) rfl (fun _ => rfl) (loops n)
    (fun x r h => by
      have e := F_eq n x.1 x.2.1
      exact e.symm.trans h)
end cmp_Compare_int
end
/-! ### cmp.Or[int] -/
section
namespace cmp_Or_int
noncomputable def code : Code := (Go.Proofs.Try.f198.body).getD .skip
abbrev shp : Shape := [(0, .one (.row (.int .i64) false))]
abbrev outs : List KD := [.one (.int .i64)]
abbrev R : Type := Int
def out : R → denL outs := fun r => (r, ())
def into : denL outs → R := fun y => y.1
def cfg : Cfg := ⟨ty, 18, [], fun i => match Nat.beq i 0 with | true => .loop | false => .plain, fun _ => none⟩
def cal (n : Nat) : List (Nat × PFn) := []
theorem cal_ok (n : Nat) : ∀ g, (pick (cal n) g).Ok Go.Proofs.Try.prog g := pick_ok (by
  intro p hp
  cases hp)
def fin : St → Option R := finOf ty [.tmp 2] outs into
abbrev sin0 : Shape := [(3, .one (.int .i64)), (6, .one (.row (.int .i64) false)), (7, .one (.int .i64)), (8, .one (.int .i64))]
abbrev sout0 : Shape := [(3, .one (.int .i64))]
def lam (n : Nat) : Nat → (St → Option R) → St → Option R := fun i => match Nat.beq i 0 with | true => (fun K st => match absSt sin0 st with | some (x, _) => cmp_Or_int.l0 n (fun y0 => K (mkSt sout0 (y0, ()))) n x.1 x.2.1 x.2.2.1 x.2.2.2.1 | none => none) | false => fun _ _ => none
noncomputable def lps : List (Nat × Code) := loopsOf cfg.blk code
noncomputable def b0 : Code := bodyOf lps 0
theorem l0_eq (n : Nat) (K : St → Option R) : ∀ (j : Nat) (x0 : Int) (x1 : List (Int)) (x2 : Int) (x3 : Int), cmp_Or_int.l0 n (fun y0 => K (mkSt sout0 (y0, ()))) j x0 x1 x2 x3 = iter (roundK cfg (pick (cal n)) (lam n) fin 0 b0 sin0 sout0 K) j (mkSt sin0 (x0, x1, x2, x3, ()))
  | 0, _, _, _, _ => rfl
  | j + 1, x0, x1, x2, x3 => by
    have ih : cmp_Or_int.l0 n (fun y0 => K (mkSt sout0 (y0, ()))) j = fun x0 x1 x2 x3 => iter (roundK cfg (pick (cal n)) (lam n) fin 0 b0 sin0 sout0 K) j (mkSt sin0 (x0, x1, x2, x3, ())) := funext fun x0 => funext fun x1 => funext fun x2 => funext fun x3 => l0_eq n K j x0 x1 x2 x3
    rw [cmp_Or_int.l0, ih]
    show _ = roundK cfg (pick (cal n)) (lam n) fin 0 b0 sin0 sout0 K (iter (roundK cfg (pick (cal n)) (lam n) fin 0 b0 sin0 sout0 K) j) (mkSt sin0 (x0, x1, x2, x3, ()))
    kernel_rfl
theorem loops (n : Nat) : LoopsOk cfg (pick (cal n)) (lam n) fin (loopsOf cfg.blk code) := by
  have h : loopsOf cfg.blk code = [(0, b0)] := by kernel_rfl
  rw [h]
  intro p hp K st r hr
  simp only [List.mem_cons, List.not_mem_nil, or_false] at hp
  rcases hp with rfl
  · have hr' : (match absSt sin0 st with | some (x, _) => cmp_Or_int.l0 n (fun y0 => K (mkSt sout0 (y0, ()))) n x.1 x.2.1 x.2.2.1 x.2.2.2.1 | none => none) = some r := hr
    split at hr'
    · rename_i x es hx
      rw [l0_eq] at hr'
      exact ⟨sin0, sout0, n, x, es, hx, hr'⟩
    · cases hr'
theorem F_eq (n : Nat) (x0 : List (Int)) : cmp_Or_int.F n x0 = exK cfg (pick (cal n)) (lam n) fin code (fun _ _ => none) (mkSt shp (x0, ())) fin := by
  kernel_rfl
def pfn (n : Nat) : PFn := mkFn shp outs (fun x => cmp_Or_int.F n x.1) out
theorem ok (n : Nat) : (pfn n).Ok Go.Proofs.Try.prog 198 :=
  mkFn_ok (fn := Go.Proofs.Try.f198) (code := code) Go.Proofs.Try.func198 (by kernel_rfl) (by decide) (C := cfg) (Φ := pick (cal n)) (Λ := lam n) (into := into) hT (cal_ok n) (by kernel_rfl) rfl (by decide) rfl (fun _ => rfl) (loops n)
    (fun x r h => by
      have e := F_eq n x.1
      exact e.symm.trans h)
end cmp_Or_int
end
/-! ### loop.example/g01158/impl.compareDoors -/
section
namespace impl_compareDoors
noncomputable def code : Code := (Go.Proofs.Try.f146.body).getD .skip
abbrev shp : Shape := [(0, .agg [.int .i64, .int .i64, .int .i64]), (1, .agg [.int .i64, .int .i64, .int .i64])]
abbrev outs : List KD := [.one (.int .i64)]
abbrev R : Type := Int
def out : R → denL outs := fun r => (r, ())
def into : denL outs → R := fun y => y.1
def cfg : Cfg := ⟨ty, 22, [], fun _ => .plain, fun _ => none⟩
def cal (n : Nat) : List (Nat × PFn) := [(198, cmp_Or_int.pfn n), (199, cmp_Compare_int.pfn n)]
theorem cal_ok (n : Nat) : ∀ g, (pick (cal n) g).Ok Go.Proofs.Try.prog g := pick_ok (by
  intro p hp
  simp only [cal, List.mem_cons, List.not_mem_nil, or_false] at hp
  rcases hp with rfl | rfl
  · exact cmp_Or_int.ok n
  · exact cmp_Compare_int.ok n)
def fin : St → Option R := finOf ty [.tmp 4] outs into
def lam (n : Nat) : Nat → (St → Option R) → St → Option R := fun _ => fun _ _ => none
theorem loops (n : Nat) : LoopsOk cfg (pick (cal n)) (lam n) fin (loopsOf cfg.blk code) := by
  have h : loopsOf cfg.blk code = [] := by kernel_rfl
  rw [h]
  intro p hp
  cases hp
theorem F_eq (n : Nat) (x0 : Int) (x1 : Int) (x2 : Int) (x3 : Int) (x4 : Int) (x5 : Int) : impl_compareDoors.F n x0 x1 x2 x3 x4 x5 = exK cfg (pick (cal n)) (lam n) fin code (fun _ _ => none) (mkSt shp ((x0, x1, x2, ()), (x3, x4, x5, ()), ())) fin := by
  kernel_rfl
def pfn (n : Nat) : PFn := mkFn shp outs (fun x => impl_compareDoors.F n x.1.1 x.1.2.1 x.1.2.2.1 x.2.1.1 x.2.1.2.1 x.2.1.2.2.1) out
theorem ok (n : Nat) : (pfn n).Ok Go.Proofs.Try.prog 146 :=
  mkFn_ok (fn := Go.Proofs.Try.f146) (code := code) Go.Proofs.Try.func146 (by kernel_rfl) (by decide) (C := cfg) (Φ := pick (cal n)) (Λ := lam n) (into := into) hT (cal_ok n) (by kernel_rfl) rfl (by decide) rfl (fun _ => rfl) (loops n)
    (fun x r h => by
      have e := F_eq n x.1.1 x.1.2.1 x.1.2.2.1 x.2.1.1 x.2.1.2.1 x.2.1.2.2.1
      exact e.symm.trans h)
end impl_compareDoors
end
/-! ### loop.example/g01158/impl.IsMaze$1 -/
section
namespace impl_IsMaze_1
noncomputable def code : Code := (Go.Proofs.Try.f148.body).getD .skip
abbrev shp : Shape := [(0, .one (.int .i64))]
abbrev outs : List KD := [.one (.bool)]
abbrev R : Type := Bool
def out : R → denL outs := fun r => (r, ())
def into : denL outs → R := fun y => y.1
def cfg : Cfg := ⟨ty, 6, [], fun _ => .plain, fun _ => none⟩
def cal (n : Nat) : List (Nat × PFn) := [(109, impl_isSet.pfn n)]
theorem cal_ok (n : Nat) : ∀ g, (pick (cal n) g).Ok Go.Proofs.Try.prog g := pick_ok (by
  intro p hp
  simp only [cal, List.mem_cons, List.not_mem_nil, or_false] at hp
  rcases hp with rfl
  · exact impl_isSet.ok n)
def fin : St → Option R := finOf ty [.tmp 2] outs into
def lam (n : Nat) : Nat → (St → Option R) → St → Option R := fun _ => fun _ _ => none
theorem loops (n : Nat) : LoopsOk cfg (pick (cal n)) (lam n) fin (loopsOf cfg.blk code) := by
  have h : loopsOf cfg.blk code = [] := by kernel_rfl
  rw [h]
  intro p hp
  cases hp
theorem F_eq (n : Nat) (x0 : Int) : impl_IsMaze_1.F n x0 = exK cfg (pick (cal n)) (lam n) fin code (fun _ _ => none) (mkSt shp (x0, ())) fin := by
  kernel_rfl
def pfn (n : Nat) : PFn := mkFn shp outs (fun x => impl_IsMaze_1.F n x.1) out
theorem ok (n : Nat) : (pfn n).Ok Go.Proofs.Try.prog 148 :=
  mkFn_ok (fn := Go.Proofs.Try.f148) (code := code) Go.Proofs.Try.func148 (by kernel_rfl) (by decide) (C := cfg) (Φ := pick (cal n)) (Λ := lam n) (into := into) hT (cal_ok n) (by kernel_rfl) rfl (by decide) rfl (fun _ => rfl) (loops n)
    (fun x r h => by
      have e := F_eq n x.1
      exact e.symm.trans h)
end impl_IsMaze_1
end
/-! ### slices.IndexFunc[[]int,int] -/
section
namespace slices_IndexFunc_int_int_cIsMaze_1
noncomputable def code : Code := (Go.Proofs.Try.f153.body).getD .skip
abbrev shp : Shape := [(0, .one (.row (.int .i64) false)), (1, .fn 148 [])]
abbrev outs : List KD := [.one (.int .i64)]
abbrev R : Type := Int
def out : R → denL outs := fun r => (r, ())
def into : denL outs → R := fun y => y.1
def cfg : Cfg := ⟨ty, 19, [], fun i => match Nat.beq i 0 with | true => .loop | false => .plain, fun _ => none⟩
def cal (n : Nat) : List (Nat × PFn) := [(148, impl_IsMaze_1.pfn n)]
theorem cal_ok (n : Nat) : ∀ g, (pick (cal n) g).Ok Go.Proofs.Try.prog g := pick_ok (by
  intro p hp
  simp only [cal, List.mem_cons, List.not_mem_nil, or_false] at hp
  rcases hp with rfl
  · exact impl_IsMaze_1.ok n)
def fin : St → Option R := finOf ty [.tmp 4] outs into
abbrev sin0 : Shape := [(0, .one (.row (.int .i64) false)), (1, .fn 148 []), (7, .one (.int .i64)), (8, .one (.int .i64))]
abbrev sout0 : Shape := []
def lam (n : Nat) : Nat → (St → Option R) → St → Option R := fun i => match Nat.beq i 0 with | true => (fun K st => match absSt sin0 st with | some (x, _) => slices_IndexFunc_int_int_cIsMaze_1.l0 n (fun _ => K (mkSt sout0 ())) n x.1 x.2.2.1 x.2.2.2.1 | none => none) | false => fun _ _ => none
noncomputable def lps : List (Nat × Code) := loopsOf cfg.blk code
noncomputable def b0 : Code := bodyOf lps 0
theorem l0_eq (n : Nat) (K : St → Option R) : ∀ (j : Nat) (x0 : List (Int)) (x1 : Int) (x2 : Int), slices_IndexFunc_int_int_cIsMaze_1.l0 n (fun _ => K (mkSt sout0 ())) j x0 x1 x2 = iter (roundK cfg (pick (cal n)) (lam n) fin 0 b0 sin0 sout0 K) j (mkSt sin0 (x0, (), x1, x2, ()))
  | 0, _, _, _ => rfl
  | j + 1, x0, x1, x2 => by
    have ih : slices_IndexFunc_int_int_cIsMaze_1.l0 n (fun _ => K (mkSt sout0 ())) j = fun x0 x1 x2 => iter (roundK cfg (pick (cal n)) (lam n) fin 0 b0 sin0 sout0 K) j (mkSt sin0 (x0, (), x1, x2, ())) := funext fun x0 => funext fun x1 => funext fun x2 => l0_eq n K j x0 x1 x2
    rw [slices_IndexFunc_int_int_cIsMaze_1.l0, ih]
    show _ = roundK cfg (pick (cal n)) (lam n) fin 0 b0 sin0 sout0 K (iter (roundK cfg (pick (cal n)) (lam n) fin 0 b0 sin0 sout0 K) j) (mkSt sin0 (x0, (), x1, x2, ()))
    kernel_rfl
theorem loops (n : Nat) : LoopsOk cfg (pick (cal n)) (lam n) fin (loopsOf cfg.blk code) := by
  have h : loopsOf cfg.blk code = [(0, b0)] := by kernel_rfl
  rw [h]
  intro p hp K st r hr
  simp only [List.mem_cons, List.not_mem_nil, or_false] at hp
  rcases hp with rfl
  · have hr' : (match absSt sin0 st with | some (x, _) => slices_IndexFunc_int_int_cIsMaze_1.l0 n (fun _ => K (mkSt sout0 ())) n x.1 x.2.2.1 x.2.2.2.1 | none => none) = some r := hr
    split at hr'
    · rename_i x es hx
      rw [l0_eq] at hr'
      exact ⟨sin0, sout0, n, x, es, hx, hr'⟩
    · cases hr'
theorem F_eq (n : Nat) (x0 : List (Int)) : slices_IndexFunc_int_int_cIsMaze_1.F n x0 = exK cfg (pick (cal n)) (lam n) fin code (fun _ _ => none) (mkSt shp (x0, (), ())) fin := by
  kernel_rfl
def pfn (n : Nat) : PFn := mkFn shp outs (fun x => slices_IndexFunc_int_int_cIsMaze_1.F n x.1) out
theorem ok (n : Nat) : (pfn n).Ok Go.Proofs.Try.prog 153 :=
  mkFn_ok (fn := Go.Proofs.Try.f153) (code := code) Go.Proofs.Try.func153 (by kernel_rfl) (by decide) (C := cfg) (Φ := pick (cal n)) (Λ := lam n) (into := into) hT (cal_ok n) (by kernel_rfl) rfl (by decide) rfl (fun _ => rfl) (loops n)
    (fun x r h => by
      have e := F_eq n x.1
      exact e.symm.trans h)
end slices_IndexFunc_int_int_cIsMaze_1
end
/-! ### slices.ContainsFunc[[]int,int] -/
section
namespace slices_ContainsFunc_int_int_cIsMaze_1
noncomputable def code : Code := (Go.Proofs.Try.f147.body).getD .skip
abbrev shp : Shape := [(0, .one (.row (.int .i64) false)), (1, .fn 148 [])]
abbrev outs : List KD := [.one (.bool)]
abbrev R : Type := Bool
def out : R → denL outs := fun r => (r, ())
def into : denL outs → R := fun y => y.1
def cfg : Cfg := ⟨ty, 9, [], fun _ => .plain, fun _ => none⟩
def cal (n : Nat) : List (Nat × PFn) := [(153, slices_IndexFunc_int_int_cIsMaze_1.pfn n)]
theorem cal_ok (n : Nat) : ∀ g, (pick (cal n) g).Ok Go.Proofs.Try.prog g := pick_ok (by
  intro p hp
  simp only [cal, List.mem_cons, List.not_mem_nil, or_false] at hp
  rcases hp with rfl
  · exact slices_IndexFunc_int_int_cIsMaze_1.ok n)
def fin : St → Option R := finOf ty [.tmp 4] outs into
def lam (n : Nat) : Nat → (St → Option R) → St → Option R := fun _ => fun _ _ => none
theorem loops (n : Nat) : LoopsOk cfg (pick (cal n)) (lam n) fin (loopsOf cfg.blk code) := by
  have h : loopsOf cfg.blk code = [] := by kernel_rfl
  rw [h]
  intro p hp
  cases hp
theorem F_eq (n : Nat) (x0 : List (Int)) : slices_ContainsFunc_int_int_cIsMaze_1.F n x0 = exK cfg (pick (cal n)) (lam n) fin code (fun _ _ => none) (mkSt shp (x0, (), ())) fin := by
  kernel_rfl
def pfn (n : Nat) : PFn := mkFn shp outs (fun x => slices_ContainsFunc_int_int_cIsMaze_1.F n x.1) out
theorem ok (n : Nat) : (pfn n).Ok Go.Proofs.Try.prog 147 :=
  mkFn_ok (fn := Go.Proofs.Try.f147) (code := code) Go.Proofs.Try.func147 (by kernel_rfl) (by decide) (C := cfg) (Φ := pick (cal n)) (Λ := lam n) (into := into) hT (cal_ok n) (by kernel_rfl) rfl (by decide) rfl (fun _ => rfl) (loops n)
    (fun x r h => by
      have e := F_eq n x.1
      exact e.symm.trans h)
end slices_ContainsFunc_int_int_cIsMaze_1
end
/-! ### loop.example/g01158/impl.IsMaze -/
section
namespace impl_IsMaze
noncomputable def code : Code := (Go.Proofs.Try.f52.body).getD .skip
abbrev shp : Shape := [(0, .agg [.int .i64, .row (.t3) false, .row (.int .i64) false])]
abbrev outs : List KD := [.one (.bool)]
abbrev R : Type := Bool
def out : R → denL outs := fun r => (r, ())
def into : denL outs → R := fun y => y.1
def cfg : Cfg := ⟨ty, 74, [], fun i => match Nat.beq i 0 with | true => .loop | false => .plain, fun i => match Nat.beq i 3 with | true => some [(1, .box true [.int .i64, .row (.t3) false, .row (.int .i64) false])] | false => none⟩
def cal (n : Nat) : List (Nat × PFn) := [(109, impl_isSet.pfn n), (130, impl_within.pfn n), (146, impl_compareDoors.pfn n), (147, slices_ContainsFunc_int_int_cIsMaze_1.pfn n)]
theorem cal_ok (n : Nat) : ∀ g, (pick (cal n) g).Ok Go.Proofs.Try.prog g := pick_ok (by
  intro p hp
  simp only [cal, List.mem_cons, List.not_mem_nil, or_false] at hp
  rcases hp with rfl | rfl | rfl | rfl
  · exact impl_isSet.ok n
  · exact impl_within.ok n
  · exact impl_compareDoors.ok n
  · exact slices_ContainsFunc_int_int_cIsMaze_1.ok n)
def fin : St → Option R := finOf ty [.tmp 2] outs into
abbrev sin0 : Shape := [(1, .box true [.int .i64, .row (.t3) false, .row (.int .i64) false]), (24, .one (.ref 1)), (25, .one (.int .i64)), (26, .one (.int .i64))]
abbrev sout0 : Shape := [(1, .box true [.int .i64, .row (.t3) false, .row (.int .i64) false])]
def lam (n : Nat) : Nat → (St → Option R) → St → Option R := fun i => match Nat.beq i 0 with | true => (fun K st => match absSt sin0 st with | some (x, _) => impl_IsMaze.l0 n (fun y0 y1 y2 => K (mkSt sout0 ((y0, y1, y2, ()), ()))) n x.1.1 x.1.2.1 x.1.2.2.1 x.2.2.1 x.2.2.2.1 | none => none) | false => fun _ _ => none
noncomputable def lps : List (Nat × Code) := loopsOf cfg.blk code
noncomputable def b0 : Code := bodyOf lps 0
theorem l0_eq (n : Nat) (K : St → Option R) : ∀ (j : Nat) (x0 : Int) (x1 : List (Int × Int × Int)) (x2 : List (Int)) (x3 : Int) (x4 : Int), impl_IsMaze.l0 n (fun y0 y1 y2 => K (mkSt sout0 ((y0, y1, y2, ()), ()))) j x0 x1 x2 x3 x4 = iter (roundK cfg (pick (cal n)) (lam n) fin 0 b0 sin0 sout0 K) j (mkSt sin0 ((x0, x1, x2, ()), (), x3, x4, ()))
  | 0, _, _, _, _, _ => rfl
  | j + 1, x0, x1, x2, x3, x4 => by
    have ih : impl_IsMaze.l0 n (fun y0 y1 y2 => K (mkSt sout0 ((y0, y1, y2, ()), ()))) j = fun x0 x1 x2 x3 x4 => iter (roundK cfg (pick (cal n)) (lam n) fin 0 b0 sin0 sout0 K) j (mkSt sin0 ((x0, x1, x2, ()), (), x3, x4, ())) := funext fun x0 => funext fun x1 => funext fun x2 => funext fun x3 => funext fun x4 => l0_eq n K j x0 x1 x2 x3 x4
    rw [impl_IsMaze.l0, ih]
    show _ = roundK cfg (pick (cal n)) (lam n) fin 0 b0 sin0 sout0 K (iter (roundK cfg (pick (cal n)) (lam n) fin 0 b0 sin0 sout0 K) j) (mkSt sin0 ((x0, x1, x2, ()), (), x3, x4, ()))
    kernel_rfl
theorem loops (n : Nat) : LoopsOk cfg (pick (cal n)) (lam n) fin (loopsOf cfg.blk code) := by
  have h : loopsOf cfg.blk code = [(0, b0)] := by kernel_rfl
  rw [h]
  intro p hp K st r hr
  simp only [List.mem_cons, List.not_mem_nil, or_false] at hp
  rcases hp with rfl
  · have hr' : (match absSt sin0 st with | some (x, _) => impl_IsMaze.l0 n (fun y0 y1 y2 => K (mkSt sout0 ((y0, y1, y2, ()), ()))) n x.1.1 x.1.2.1 x.1.2.2.1 x.2.2.1 x.2.2.2.1 | none => none) = some r := hr
    split at hr'
    · rename_i x es hx
      rw [l0_eq] at hr'
      exact ⟨sin0, sout0, n, x, es, hx, hr'⟩
    · cases hr'
theorem F_eq (n : Nat) (x0 : Int) (x1 : List (Int × Int × Int)) (x2 : List (Int)) : impl_IsMaze.F n x0 x1 x2 = exK cfg (pick (cal n)) (lam n) fin code (fun _ _ => none) (mkSt shp ((x0, x1, x2, ()), ())) fin := by
  kernel_rfl
def pfn (n : Nat) : PFn := mkFn shp outs (fun x => impl_IsMaze.F n x.1.1 x.1.2.1 x.1.2.2.1) out
theorem ok (n : Nat) : (pfn n).Ok Go.Proofs.Try.prog 52 :=
  mkFn_ok (fn := Go.Proofs.Try.f52) (code := code) Go.Proofs.Try.func52 (by kernel_rfl) (by decide) (C := cfg) (Φ := pick (cal n)) (Λ := lam n) (into := into) hT (cal_ok n) (by kernel_rfl) rfl (by decide) rfl (fun _ => rfl) (loops n)
    (fun x r h => by
      have e := F_eq n x.1.1 x.1.2.1 x.1.2.2.1
      exact e.symm.trans h)
end impl_IsMaze
end
/-! ### loop.example/g01158/impl.isNode$1 -/
section
namespace impl_isNode_1_c0
noncomputable def code : Code := (Go.Proofs.Try.f189.body).getD .skip
abbrev shp : Shape := [(0, .one (.int .i64)), (1, .box false [.int .i64, .row (.t3) false, .row (.int .i64) false])]
abbrev outs : List KD := [.one (.bool)]
abbrev R : Type := Bool
def out : R → denL outs := fun r => (r, ())
def into : denL outs → R := fun y => y.1
def cfg : Cfg := ⟨ty, 10, [], fun _ => .plain, fun _ => none⟩
def cal (n : Nat) : List (Nat × PFn) := [(130, impl_within.pfn n)]
theorem cal_ok (n : Nat) : ∀ g, (pick (cal n) g).Ok Go.Proofs.Try.prog g := pick_ok (by
  intro p hp
  simp only [cal, List.mem_cons, List.not_mem_nil, or_false] at hp
  rcases hp with rfl
  · exact impl_within.ok n)
def fin : St → Option R := finOf ty [.tmp 3] outs into
def lam (n : Nat) : Nat → (St → Option R) → St → Option R := fun _ => fun _ _ => none
theorem loops (n : Nat) : LoopsOk cfg (pick (cal n)) (lam n) fin (loopsOf cfg.blk code) := by
  have h : loopsOf cfg.blk code = [] := by kernel_rfl
  rw [h]
  intro p hp
  cases hp
theorem F_eq (n : Nat) (x0 : Int) (x1 : Int) (x2 : List (Int × Int × Int)) (x3 : List (Int)) : impl_isNode_1_c0.F n x0 x1 x2 x3 = exK cfg (pick (cal n)) (lam n) fin code (fun _ _ => none) (mkSt shp (x0, (x1, x2, x3, ()), ())) fin := by
  kernel_rfl
def pfn (n : Nat) : PFn := mkFn shp outs (fun x => impl_isNode_1_c0.F n x.1 x.2.1.1 x.2.1.2.1 x.2.1.2.2.1) out
theorem ok (n : Nat) : (pfn n).Ok Go.Proofs.Try.prog 189 :=
  mkFn_ok (fn := Go.Proofs.Try.f189) (code := code) Go.Proofs.Try.func189 (by kernel_rfl) (by decide) (C := cfg) (Φ := pick (cal n)) (Λ := lam n) (into := into) hT (cal_ok n) (by kernel_rfl) rfl (by decide) rfl (fun _ => rfl) (loops n)
    (fun x r h => by
      have e := F_eq n x.1 x.2.1.1 x.2.1.2.1 x.2.1.2.2.1
      exact e.symm.trans h)
end impl_isNode_1_c0
end
/-! ### slices.IndexFunc[[]int,int] -/
section
namespace slices_IndexFunc_int_int_cisNode_1
noncomputable def code : Code := (Go.Proofs.Try.f153.body).getD .skip
abbrev shp : Shape := [(0, .one (.row (.int .i64) false)), (1, .cap (.box false [.int .i64, .row (.t3) false, .row (.int .i64) false]) (.fn 189 []))]
abbrev outs : List KD := [.one (.int .i64)]
abbrev R : Type := Int
def out : R → denL outs := fun r => (r, ())
def into : denL outs → R := fun y => y.1
def cfg : Cfg := ⟨ty, 19, [], fun i => match Nat.beq i 0 with | true => .loop | false => .plain, fun _ => none⟩
def cal (n : Nat) : List (Nat × PFn) := [(189, impl_isNode_1_c0.pfn n)]
theorem cal_ok (n : Nat) : ∀ g, (pick (cal n) g).Ok Go.Proofs.Try.prog g := pick_ok (by
  intro p hp
  simp only [cal, List.mem_cons, List.not_mem_nil, or_false] at hp
  rcases hp with rfl
  · exact impl_isNode_1_c0.ok n)
def fin : St → Option R := finOf ty [.tmp 4] outs into
abbrev sin0 : Shape := [(0, .one (.row (.int .i64) false)), (1, .cap (.box false [.int .i64, .row (.t3) false, .row (.int .i64) false]) (.fn 189 [])), (7, .one (.int .i64)), (8, .one (.int .i64))]
abbrev sout0 : Shape := []
def lam (n : Nat) : Nat → (St → Option R) → St → Option R := fun i => match Nat.beq i 0 with | true => (fun K st => match absSt sin0 st with | some (x, _) => slices_IndexFunc_int_int_cisNode_1.l0 n (fun _ => K (mkSt sout0 ())) n x.1 x.2.1.1.1 x.2.1.1.2.1 x.2.1.1.2.2.1 x.2.2.1 x.2.2.2.1 | none => none) | false => fun _ _ => none
noncomputable def lps : List (Nat × Code) := loopsOf cfg.blk code
noncomputable def b0 : Code := bodyOf lps 0
theorem l0_eq (n : Nat) (K : St → Option R) : ∀ (j : Nat) (x0 : List (Int)) (x1 : Int) (x2 : List (Int × Int × Int)) (x3 : List (Int)) (x4 : Int) (x5 : Int), slices_IndexFunc_int_int_cisNode_1.l0 n (fun _ => K (mkSt sout0 ())) j x0 x1 x2 x3 x4 x5 = iter (roundK cfg (pick (cal n)) (lam n) fin 0 b0 sin0 sout0 K) j (mkSt sin0 (x0, ((x1, x2, x3, ()), ()), x4, x5, ()))
  | 0, _, _, _, _, _, _ => rfl
  | j + 1, x0, x1, x2, x3, x4, x5 => by
    have ih : slices_IndexFunc_int_int_cisNode_1.l0 n (fun _ => K (mkSt sout0 ())) j = fun x0 x1 x2 x3 x4 x5 => iter (roundK cfg (pick (cal n)) (lam n) fin 0 b0 sin0 sout0 K) j (mkSt sin0 (x0, ((x1, x2, x3, ()), ()), x4, x5, ())) := funext fun x0 => funext fun x1 => funext fun x2 => funext fun x3 => funext fun x4 => funext fun x5 => l0_eq n K j x0 x1 x2 x3 x4 x5
    rw [slices_IndexFunc_int_int_cisNode_1.l0, ih]
    show _ = roundK cfg (pick (cal n)) (lam n) fin 0 b0 sin0 sout0 K (iter (roundK cfg (pick (cal n)) (lam n) fin 0 b0 sin0 sout0 K) j) (mkSt sin0 (x0, ((x1, x2, x3, ()), ()), x4, x5, ()))
    kernel_rfl
theorem loops (n : Nat) : LoopsOk cfg (pick (cal n)) (lam n) fin (loopsOf cfg.blk code) := by
  have h : loopsOf cfg.blk code = [(0, b0)] := by kernel_rfl
  rw [h]
  intro p hp K st r hr
  simp only [List.mem_cons, List.not_mem_nil, or_false] at hp
  rcases hp with rfl
  · have hr' : (match absSt sin0 st with | some (x, _) => slices_IndexFunc_int_int_cisNode_1.l0 n (fun _ => K (mkSt sout0 ())) n x.1 x.2.1.1.1 x.2.1.1.2.1 x.2.1.1.2.2.1 x.2.2.1 x.2.2.2.1 | none => none) = some r := hr
    split at hr'
    · rename_i x es hx
      rw [l0_eq] at hr'
      exact ⟨sin0, sout0, n, x, es, hx, hr'⟩
    · cases hr'
theorem F_eq (n : Nat) (x0 : List (Int)) (x1 : Int) (x2 : List (Int × Int × Int)) (x3 : List (Int)) : slices_IndexFunc_int_int_cisNode_1.F n x0 x1 x2 x3 = exK cfg (pick (cal n)) (lam n) fin code (fun _ _ => none) (mkSt shp (x0, ((x1, x2, x3, ()), ()), ())) fin := by
  kernel_rfl
def pfn (n : Nat) : PFn := mkFn shp outs (fun x => slices_IndexFunc_int_int_cisNode_1.F n x.1 x.2.1.1.1 x.2.1.1.2.1 x.2.1.1.2.2.1) out
theorem ok (n : Nat) : (pfn n).Ok Go.Proofs.Try.prog 153 :=
  mkFn_ok (fn := Go.Proofs.Try.f153) (code := code) Go.Proofs.Try.func153 (by kernel_rfl) (by decide) (C := cfg) (Φ := pick (cal n)) (Λ := lam n) (into := into) hT (cal_ok n) (by kernel_rfl) rfl (by decide) rfl (fun _ => rfl) (loops n)
    (fun x r h => by
      have e := F_eq n x.1 x.2.1.1.1 x.2.1.1.2.1 x.2.1.1.2.2.1
      exact e.symm.trans h)
end slices_IndexFunc_int_int_cisNode_1
end
/-! ### slices.ContainsFunc[[]int,int] -/
section
namespace slices_ContainsFunc_int_int_cisNode_1
noncomputable def code : Code := (Go.Proofs.Try.f147.body).getD .skip
abbrev shp : Shape := [(0, .one (.row (.int .i64) false)), (1, .cap (.box false [.int .i64, .row (.t3) false, .row (.int .i64) false]) (.fn 189 []))]
abbrev outs : List KD := [.one (.bool)]
abbrev R : Type := Bool
def out : R → denL outs := fun r => (r, ())
def into : denL outs → R := fun y => y.1
def cfg : Cfg := ⟨ty, 9, [], fun _ => .plain, fun _ => none⟩
def cal (n : Nat) : List (Nat × PFn) := [(153, slices_IndexFunc_int_int_cisNode_1.pfn n)]
theorem cal_ok (n : Nat) : ∀ g, (pick (cal n) g).Ok Go.Proofs.Try.prog g := pick_ok (by
  intro p hp
  simp only [cal, List.mem_cons, List.not_mem_nil, or_false] at hp
  rcases hp with rfl
  · exact slices_IndexFunc_int_int_cisNode_1.ok n)
def fin : St → Option R := finOf ty [.tmp 4] outs into
def lam (n : Nat) : Nat → (St → Option R) → St → Option R := fun _ => fun _ _ => none
theorem loops (n : Nat) : LoopsOk cfg (pick (cal n)) (lam n) fin (loopsOf cfg.blk code) := by
  have h : loopsOf cfg.blk code = [] := by kernel_rfl
  rw [h]
  intro p hp
  cases hp
theorem F_eq (n : Nat) (x0 : List (Int)) (x1 : Int) (x2 : List (Int × Int × Int)) (x3 : List (Int)) : slices_ContainsFunc_int_int_cisNode_1.F n x0 x1 x2 x3 = exK cfg (pick (cal n)) (lam n) fin code (fun _ _ => none) (mkSt shp (x0, ((x1, x2, x3, ()), ()), ())) fin := by
  kernel_rfl
def pfn (n : Nat) : PFn := mkFn shp outs (fun x => slices_ContainsFunc_int_int_cisNode_1.F n x.1 x.2.1.1.1 x.2.1.1.2.1 x.2.1.1.2.2.1) out
theorem ok (n : Nat) : (pfn n).Ok Go.Proofs.Try.prog 147 :=
  mkFn_ok (fn := Go.Proofs.Try.f147) (code := code) Go.Proofs.Try.func147 (by kernel_rfl) (by decide) (C := cfg) (Φ := pick (cal n)) (Λ := lam n) (into := into) hT (cal_ok n) (by kernel_rfl) rfl (by decide) rfl (fun _ => rfl) (loops n)
    (fun x r h => by
      have e := F_eq n x.1 x.2.1.1.1 x.2.1.1.2.1 x.2.1.1.2.2.1
      exact e.symm.trans h)
end slices_ContainsFunc_int_int_cisNode_1
end
/-! ### loop.example/g01158/impl.isNode -/
section
namespace impl_isNode
noncomputable def code : Code := (Go.Proofs.Try.f118.body).getD .skip
abbrev shp : Shape := [(0, .agg [.int .i64, .row (.t3) false, .row (.int .i64) false]), (1, .one (.row (.int .i64) false))]
abbrev outs : List KD := [.one (.bool)]
abbrev R : Type := Bool
def out : R → denL outs := fun r => (r, ())
def into : denL outs → R := fun y => y.1
def cfg : Cfg := ⟨ty, 13, [], fun _ => .plain, fun _ => none⟩
def cal (n : Nat) : List (Nat × PFn) := [(52, impl_IsMaze.pfn n), (147, slices_ContainsFunc_int_int_cisNode_1.pfn n)]
theorem cal_ok (n : Nat) : ∀ g, (pick (cal n) g).Ok Go.Proofs.Try.prog g := pick_ok (by
  intro p hp
  simp only [cal, List.mem_cons, List.not_mem_nil, or_false] at hp
  rcases hp with rfl | rfl
  · exact impl_IsMaze.ok n
  · exact slices_ContainsFunc_int_int_cisNode_1.ok n)
def fin : St → Option R := finOf ty [.tmp 4] outs into
def lam (n : Nat) : Nat → (St → Option R) → St → Option R := fun _ => fun _ _ => none
theorem loops (n : Nat) : LoopsOk cfg (pick (cal n)) (lam n) fin (loopsOf cfg.blk code) := by
  have h : loopsOf cfg.blk code = [] := by kernel_rfl
  rw [h]
  intro p hp
  cases hp
theorem F_eq (n : Nat) (x0 : Int) (x1 : List (Int × Int × Int)) (x2 : List (Int)) (x3 : List (Int)) : impl_isNode.F n x0 x1 x2 x3 = exK cfg (pick (cal n)) (lam n) fin code (fun _ _ => none) (mkSt shp ((x0, x1, x2, ()), x3, ())) fin := by
  kernel_rfl
def pfn (n : Nat) : PFn := mkFn shp outs (fun x => impl_isNode.F n x.1.1 x.1.2.1 x.1.2.2.1 x.2.1) out
theorem ok (n : Nat) : (pfn n).Ok Go.Proofs.Try.prog 118 :=
  mkFn_ok (fn := Go.Proofs.Try.f118) (code := code) Go.Proofs.Try.func118 (by kernel_rfl) (by decide) (C := cfg) (Φ := pick (cal n)) (Λ := lam n) (into := into) hT (cal_ok n) (by kernel_rfl) rfl (by decide) rfl (fun _ => rfl) (loops n)
    (fun x r h => by
      have e := F_eq n x.1.1 x.1.2.1 x.1.2.2.1 x.2.1
      exact e.symm.trans h)
end impl_isNode
end
/-! ### slices.Clone[[][3]int,[3]int] -/
section
namespace slices_Clone_3_int_3_int
noncomputable def code : Code := (Go.Proofs.Try.f112.body).getD .skip
abbrev shp : Shape := [(0, .one (.row (.t3) false))]
abbrev outs : List KD := [.one (.row (.t3) true)]
abbrev R : Type := (List (Int × Int × Int))
def out : R → denL outs := fun r => (r, ())
def into : denL outs → R := fun y => y.1
def cfg : Cfg := ⟨ty, 8, [0], fun _ => .plain, fun _ => none⟩
def cal (n : Nat) : List (Nat × PFn) := []
theorem cal_ok (n : Nat) : ∀ g, (pick (cal n) g).Ok Go.Proofs.Try.prog g := pick_ok (by
  intro p hp
  cases hp)
def fin : St → Option R := finOf ty [.tmp 2] outs into
def lam (n : Nat) : Nat → (St → Option R) → St → Option R := fun _ => fun _ _ => none
theorem loops (n : Nat) : LoopsOk cfg (pick (cal n)) (lam n) fin (loopsOf cfg.blk code) := by
  have h : loopsOf cfg.blk code = [] := by kernel_rfl
  rw [h]
  intro p hp
  cases hp
noncomputable def parts : NilParts := nilParts code
theorem F_eqf (n : Nat) (x0 : List (Int × Int × Int)) : slices_Clone_3_int_3_int.F n x0 = exK cfg (pick (cal n)) (lam n) fin parts.r0 (fun _ _ => none) (mkSt shp (x0, ())) (fun st1 =>
    exK cfg (pick (cal n)) (lam n) fin parts.cnd (fun _ _ => none) (nilSt 3 4 false st1) fun st2 =>
    exK cfg (pick (cal n)) (lam n) fin parts.rest (fun _ _ => none) st2 fin) := by
  kernel_rfl
theorem F_eqt (n : Nat) : slices_Clone_3_int_3_int.F n [] = exK cfg (pick (cal n)) (lam n) fin parts.r0 (fun _ _ => none) (mkSt shp ([], ())) (fun st1 =>
    exK cfg (pick (cal n)) (lam n) fin parts.cnd (fun _ _ => none) (nilSt 3 4 true st1) fun st2 =>
    exK cfg (pick (cal n)) (lam n) fin parts.rest (fun _ _ => none) st2 fin) := by
  kernel_rfl
def pfn (n : Nat) : PFn := mkFn shp outs (fun x => slices_Clone_3_int_3_int.F n x.1) out
theorem ok (n : Nat) : (pfn n).Ok Go.Proofs.Try.prog 112 :=
  mkFn_ok_nil (p := parts) (t := 22) (d3 := 3) (d4 := 4) (u := 55) (q := 22) rfl (fn := Go.Proofs.Try.f112) (code := code) Go.Proofs.Try.func112 (by kernel_rfl) (by decide) (by kernel_rfl) ⟨by kernel_rfl, by kernel_rfl, by kernel_rfl⟩ ⟨by kernel_rfl, by kernel_rfl, by kernel_rfl⟩ (C := cfg) (Φ := pick (cal n)) (Λ := lam n) (into := into) hT (cal_ok n) (by kernel_rfl) rfl (by decide) rfl (by kernel_rfl) ⟨by decide, by decide⟩ ⟨by decide, by decide⟩ (fun _ => rfl) (by kernel_rfl) (by kernel_rfl) (by kernel_rfl)
    (fun l r h b hb => by
      cases b with
      | false => exact (F_eqf n l).symm.trans h
      | true =>
        have hl := hb rfl
        subst hl
        exact (F_eqt n).symm.trans h)
end slices_Clone_3_int_3_int
end
/-! ### slices.Clone[[]int,int] -/
section
namespace slices_Clone_int_int
noncomputable def code : Code := (Go.Proofs.Try.f184.body).getD .skip
abbrev shp : Shape := [(0, .one (.row (.int .i64) false))]
abbrev outs : List KD := [.one (.row (.int .i64) true)]
abbrev R : Type := (List (Int))
def out : R → denL outs := fun r => (r, ())
def into : denL outs → R := fun y => y.1
def cfg : Cfg := ⟨ty, 8, [0], fun _ => .plain, fun _ => none⟩
def cal (n : Nat) : List (Nat × PFn) := []
theorem cal_ok (n : Nat) : ∀ g, (pick (cal n) g).Ok Go.Proofs.Try.prog g := pick_ok (by
  intro p hp
  cases hp)
def fin : St → Option R := finOf ty [.tmp 2] outs into
def lam (n : Nat) : Nat → (St → Option R) → St → Option R := fun _ => fun _ _ => none
theorem loops (n : Nat) : LoopsOk cfg (pick (cal n)) (lam n) fin (loopsOf cfg.blk code) := by
  have h : loopsOf cfg.blk code = [] := by kernel_rfl
  rw [h]
  intro p hp
  cases hp
noncomputable def parts : NilParts := nilParts code
theorem F_eqf (n : Nat) (x0 : List (Int)) : slices_Clone_int_int.F n x0 = exK cfg (pick (cal n)) (lam n) fin parts.r0 (fun _ _ => none) (mkSt shp (x0, ())) (fun st1 =>
    exK cfg (pick (cal n)) (lam n) fin parts.cnd (fun _ _ => none) (nilSt 3 4 false st1) fun st2 =>
    exK cfg (pick (cal n)) (lam n) fin parts.rest (fun _ _ => none) st2 fin) := by
  kernel_rfl
theorem F_eqt (n : Nat) : slices_Clone_int_int.F n [] = exK cfg (pick (cal n)) (lam n) fin parts.r0 (fun _ _ => none) (mkSt shp ([], ())) (fun st1 =>
    exK cfg (pick (cal n)) (lam n) fin parts.cnd (fun _ _ => none) (nilSt 3 4 true st1) fun st2 =>
    exK cfg (pick (cal n)) (lam n) fin parts.rest (fun _ _ => none) st2 fin) := by
  kernel_rfl
def pfn (n : Nat) : PFn := mkFn shp outs (fun x => slices_Clone_int_int.F n x.1) out
theorem ok (n : Nat) : (pfn n).Ok Go.Proofs.Try.prog 184 :=
  mkFn_ok_nil (p := parts) (t := 23) (d3 := 3) (d4 := 4) (u := 3) (q := 23) rfl (fn := Go.Proofs.Try.f184) (code := code) Go.Proofs.Try.func184 (by kernel_rfl) (by decide) (by kernel_rfl) ⟨by kernel_rfl, by kernel_rfl, by kernel_rfl⟩ ⟨by kernel_rfl, by kernel_rfl, by kernel_rfl⟩ (C := cfg) (Φ := pick (cal n)) (Λ := lam n) (into := into) hT (cal_ok n) (by kernel_rfl) rfl (by decide) rfl (by kernel_rfl) ⟨by decide, by decide⟩ ⟨by decide, by decide⟩ (fun _ => rfl) (by kernel_rfl) (by kernel_rfl) (by kernel_rfl)
    (fun l r h b hb => by
      cases b with
      | false => exact (F_eqf n l).symm.trans h
      | true =>
        have hl := hb rfl
        subst hl
        exact (F_eqt n).symm.trans h)
end slices_Clone_int_int
end
/-! ### loop.example/g01158/impl.own -/
section
namespace impl_own
noncomputable def code : Code := (Go.Proofs.Try.f120.body).getD .skip
abbrev shp : Shape := [(0, .agg [.int .i64, .row (.t3) false, .row (.int .i64) false])]
abbrev outs : List KD := [.agg [.int .i64, .row (.t3) true, .row (.int .i64) true]]
abbrev R : Type := Int × (List (Int × Int × Int)) × (List (Int))
def out : R → denL outs := fun r => ((r.1, r.2.1, r.2.2, ()), ())
def into : denL outs → R := fun y => (y.1.1, y.1.2.1, y.1.2.2.1)
def cfg : Cfg := ⟨ty, 12, [], fun _ => .plain, fun _ => none⟩
def cal (n : Nat) : List (Nat × PFn) := [(112, slices_Clone_3_int_3_int.pfn n), (184, slices_Clone_int_int.pfn n)]
theorem cal_ok (n : Nat) : ∀ g, (pick (cal n) g).Ok Go.Proofs.Try.prog g := pick_ok (by
  intro p hp
  simp only [cal, List.mem_cons, List.not_mem_nil, or_false] at hp
  rcases hp with rfl | rfl
  · exact slices_Clone_3_int_3_int.ok n
  · exact slices_Clone_int_int.ok n)
def fin : St → Option R := finOf ty [.cell 2 27] outs into
def lam (n : Nat) : Nat → (St → Option R) → St → Option R := fun _ => fun _ _ => none
theorem loops (n : Nat) : LoopsOk cfg (pick (cal n)) (lam n) fin (loopsOf cfg.blk code) := by
  have h : loopsOf cfg.blk code = [] := by kernel_rfl
  rw [h]
  intro p hp
  cases hp
theorem F_eq (n : Nat) (x0 : Int) (x1 : List (Int × Int × Int)) (x2 : List (Int)) : impl_own.F n x0 x1 x2 = exK cfg (pick (cal n)) (lam n) fin code (fun _ _ => none) (mkSt shp ((x0, x1, x2, ()), ())) fin := by
  kernel_rfl
def pfn (n : Nat) : PFn := mkFn shp outs (fun x => impl_own.F n x.1.1 x.1.2.1 x.1.2.2.1) out
theorem ok (n : Nat) : (pfn n).Ok Go.Proofs.Try.prog 120 :=
  mkFn_ok (fn := Go.Proofs.Try.f120) (code := code) Go.Proofs.Try.func120 (by kernel_rfl) (by decide) (C := cfg) (Φ := pick (cal n)) (Λ := lam n) (into := into) hT (cal_ok n) (by kernel_rfl) rfl (by decide) rfl (fun _ => rfl) (loops n)
    (fun x r h => by
      have e := F_eq n x.1.1 x.1.2.1 x.1.2.2.1
      exact e.symm.trans h)
end impl_own
end
/-! ### loop.example/g01158/impl.withoutNode$1 -/
section
namespace impl_withoutNode_1_c0
noncomputable def code : Code := (Go.Proofs.Try.f205.body).getD .skip
abbrev shp : Shape := [(0, .agg [.int .i64, .int .i64, .int .i64]), (1, .box false [.int .i64])]
abbrev outs : List KD := [.one (.bool)]
abbrev R : Type := Bool
def out : R → denL outs := fun r => (r, ())
def into : denL outs → R := fun y => y.1
def cfg : Cfg := ⟨ty, 14, [], fun _ => .plain, fun _ => none⟩
def cal (n : Nat) : List (Nat × PFn) := []
theorem cal_ok (n : Nat) : ∀ g, (pick (cal n) g).Ok Go.Proofs.Try.prog g := pick_ok (by
  intro p hp
  cases hp)
def fin : St → Option R := finOf ty [.tmp 3] outs into
def lam (n : Nat) : Nat → (St → Option R) → St → Option R := fun _ => fun _ _ => none
theorem loops (n : Nat) : LoopsOk cfg (pick (cal n)) (lam n) fin (loopsOf cfg.blk code) := by
  have h : loopsOf cfg.blk code = [] := by kernel_rfl
  rw [h]
  intro p hp
  cases hp
theorem F_eq (n : Nat) (x0 : Int) (x1 : Int) (x2 : Int) (x3 : Int) : impl_withoutNode_1_c0.F n x0 x1 x2 x3 = exK cfg (pick (cal n)) (lam n) fin code (fun _ _ => none) (mkSt shp ((x0, x1, x2, ()), (x3, ()), ())) fin := by
  kernel_rfl
def pfn (n : Nat) : PFn := mkFn shp outs (fun x => impl_withoutNode_1_c0.F n x.1.1 x.1.2.1 x.1.2.2.1 x.2.1.1) out
theorem ok (n : Nat) : (pfn n).Ok Go.Proofs.Try.prog 205 :=
  mkFn_ok (fn := Go.Proofs.Try.f205) (code := code) Go.Proofs.Try.func205 (by kernel_rfl) (by decide) (C := cfg) (Φ := pick (cal n)) (Λ := lam n) (into := into) hT (cal_ok n) (by kernel_rfl) rfl (by decide) rfl (fun _ => rfl) (loops n)
    (fun x r h => by
      have e := F_eq n x.1.1 x.1.2.1 x.1.2.2.1 x.2.1.1
      exact e.symm.trans h)
end impl_withoutNode_1_c0
end
/-! ### slices.IndexFunc[[][3]int,[3]int] -/
section
namespace slices_IndexFunc_3_int_3_int_cwithoutNode_1
noncomputable def code : Code := (Go.Proofs.Try.f188.body).getD .skip
abbrev shp : Shape := [(0, .one (.row (.t3) false)), (1, .cap (.box false [.int .i64]) (.fn 205 []))]
abbrev outs : List KD := [.one (.int .i64)]
abbrev R : Type := Int
def out : R → denL outs := fun r => (r, ())
def into : denL outs → R := fun y => y.1
def cfg : Cfg := ⟨ty, 19, [], fun i => match Nat.beq i 0 with | true => .loop | false => .plain, fun _ => none⟩
def cal (n : Nat) : List (Nat × PFn) := [(205, impl_withoutNode_1_c0.pfn n)]
theorem cal_ok (n : Nat) : ∀ g, (pick (cal n) g).Ok Go.Proofs.Try.prog g := pick_ok (by
  intro p hp
  simp only [cal, List.mem_cons, List.not_mem_nil, or_false] at hp
  rcases hp with rfl
  · exact impl_withoutNode_1_c0.ok n)
def fin : St → Option R := finOf ty [.tmp 4] outs into
abbrev sin0 : Shape := [(0, .one (.row (.t3) false)), (1, .cap (.box false [.int .i64]) (.fn 205 [])), (7, .one (.int .i64)), (8, .one (.int .i64))]
abbrev sout0 : Shape := []
def lam (n : Nat) : Nat → (St → Option R) → St → Option R := fun i => match Nat.beq i 0 with | true => (fun K st => match absSt sin0 st with | some (x, _) => slices_IndexFunc_3_int_3_int_cwithoutNode_1.l0 n (fun _ => K (mkSt sout0 ())) n x.1 x.2.1.1.1 x.2.2.1 x.2.2.2.1 | none => none) | false => fun _ _ => none
noncomputable def lps : List (Nat × Code) := loopsOf cfg.blk code
noncomputable def b0 : Code := bodyOf lps 0
theorem l0_eq (n : Nat) (K : St → Option R) : ∀ (j : Nat) (x0 : List (Int × Int × Int)) (x1 : Int) (x2 : Int) (x3 : Int), slices_IndexFunc_3_int_3_int_cwithoutNode_1.l0 n (fun _ => K (mkSt sout0 ())) j x0 x1 x2 x3 = iter (roundK cfg (pick (cal n)) (lam n) fin 0 b0 sin0 sout0 K) j (mkSt sin0 (x0, ((x1, ()), ()), x2, x3, ()))
  | 0, _, _, _, _ => rfl
  | j + 1, x0, x1, x2, x3 => by
    have ih : slices_IndexFunc_3_int_3_int_cwithoutNode_1.l0 n (fun _ => K (mkSt sout0 ())) j = fun x0 x1 x2 x3 => iter (roundK cfg (pick (cal n)) (lam n) fin 0 b0 sin0 sout0 K) j (mkSt sin0 (x0, ((x1, ()), ()), x2, x3, ())) := funext fun x0 => funext fun x1 => funext fun x2 => funext fun x3 => l0_eq n K j x0 x1 x2 x3
    rw [slices_IndexFunc_3_int_3_int_cwithoutNode_1.l0, ih]
    show _ = roundK cfg (pick (cal n)) (lam n) fin 0 b0 sin0 sout0 K (iter (roundK cfg (pick (cal n)) (lam n) fin 0 b0 sin0 sout0 K) j) (mkSt sin0 (x0, ((x1, ()), ()), x2, x3, ()))
    kernel_rfl
theorem loops (n : Nat) : LoopsOk cfg (pick (cal n)) (lam n) fin (loopsOf cfg.blk code) := by
  have h : loopsOf cfg.blk code = [(0, b0)] := by kernel_rfl
  rw [h]
  intro p hp K st r hr
  simp only [List.mem_cons, List.not_mem_nil, or_false] at hp
  rcases hp with rfl
  · have hr' : (match absSt sin0 st with | some (x, _) => slices_IndexFunc_3_int_3_int_cwithoutNode_1.l0 n (fun _ => K (mkSt sout0 ())) n x.1 x.2.1.1.1 x.2.2.1 x.2.2.2.1 | none => none) = some r := hr
    split at hr'
    · rename_i x es hx
      rw [l0_eq] at hr'
      exact ⟨sin0, sout0, n, x, es, hx, hr'⟩
    · cases hr'
theorem F_eq (n : Nat) (x0 : List (Int × Int × Int)) (x1 : Int) : slices_IndexFunc_3_int_3_int_cwithoutNode_1.F n x0 x1 = exK cfg (pick (cal n)) (lam n) fin code (fun _ _ => none) (mkSt shp (x0, ((x1, ()), ()), ())) fin := by
  kernel_rfl
def pfn (n : Nat) : PFn := mkFn shp outs (fun x => slices_IndexFunc_3_int_3_int_cwithoutNode_1.F n x.1 x.2.1.1.1) out
theorem ok (n : Nat) : (pfn n).Ok Go.Proofs.Try.prog 188 :=
  mkFn_ok (fn := Go.Proofs.Try.f188) (code := code) Go.Proofs.Try.func188 (by kernel_rfl) (by decide) (C := cfg) (Φ := pick (cal n)) (Λ := lam n) (into := into) hT (cal_ok n) (by kernel_rfl) rfl (by decide) rfl (fun _ => rfl) (loops n)
    (fun x r h => by
      have e := F_eq n x.1 x.2.1.1.1
      exact e.symm.trans h)
end slices_IndexFunc_3_int_3_int_cwithoutNode_1
end
/-! ### slices.DeleteFunc[[][3]int,[3]int] -/
section
namespace slices_DeleteFunc_3_int_3_int_cwithoutNode_1
noncomputable def code : Code := (Go.Proofs.Try.f111.body).getD .skip
abbrev shp : Shape := [(0, .one (.row (.t3) true)), (1, .cap (.box false [.int .i64]) (.fn 205 []))]
abbrev outs : List KD := [.one (.row (.t3) true)]
abbrev R : Type := (List (Int × Int × Int))
def out : R → denL outs := fun r => (r, ())
def into : denL outs → R := fun y => y.1
def cfg : Cfg := ⟨ty, 42, [], fun i => match Nat.beq i 0 with | true => .loop | false => .plain, fun _ => none⟩
def cal (n : Nat) : List (Nat × PFn) := [(188, slices_IndexFunc_3_int_3_int_cwithoutNode_1.pfn n), (205, impl_withoutNode_1_c0.pfn n)]
theorem cal_ok (n : Nat) : ∀ g, (pick (cal n) g).Ok Go.Proofs.Try.prog g := pick_ok (by
  intro p hp
  simp only [cal, List.mem_cons, List.not_mem_nil, or_false] at hp
  rcases hp with rfl | rfl
  · exact slices_IndexFunc_3_int_3_int_cwithoutNode_1.ok n
  · exact impl_withoutNode_1_c0.ok n)
def fin : St → Option R := finOf ty [.tmp 4] outs into
abbrev sin0 : Shape := [(0, .one (.row (.t3) true)), (1, .cap (.box false [.int .i64]) (.fn 205 [])), (5, .one (.int .i64)), (6, .one (.int .i64))]
abbrev sout0 : Shape := [(0, .one (.row (.t3) true)), (5, .one (.int .i64))]
def lam (n : Nat) : Nat → (St → Option R) → St → Option R := fun i => match Nat.beq i 0 with | true => (fun K st => match absSt sin0 st with | some (x, _) => slices_DeleteFunc_3_int_3_int_cwithoutNode_1.l0 n (fun y0 y1 => K (mkSt sout0 (y0, y1, ()))) n x.1 x.2.1.1.1 x.2.2.1 x.2.2.2.1 | none => none) | false => fun _ _ => none
noncomputable def lps : List (Nat × Code) := loopsOf cfg.blk code
noncomputable def b0 : Code := bodyOf lps 0
theorem l0_eq (n : Nat) (K : St → Option R) : ∀ (j : Nat) (x0 : List (Int × Int × Int)) (x1 : Int) (x2 : Int) (x3 : Int), slices_DeleteFunc_3_int_3_int_cwithoutNode_1.l0 n (fun y0 y1 => K (mkSt sout0 (y0, y1, ()))) j x0 x1 x2 x3 = iter (roundK cfg (pick (cal n)) (lam n) fin 0 b0 sin0 sout0 K) j (mkSt sin0 (x0, ((x1, ()), ()), x2, x3, ()))
  | 0, _, _, _, _ => rfl
  | j + 1, x0, x1, x2, x3 => by
    have ih : slices_DeleteFunc_3_int_3_int_cwithoutNode_1.l0 n (fun y0 y1 => K (mkSt sout0 (y0, y1, ()))) j = fun x0 x1 x2 x3 => iter (roundK cfg (pick (cal n)) (lam n) fin 0 b0 sin0 sout0 K) j (mkSt sin0 (x0, ((x1, ()), ()), x2, x3, ())) := funext fun x0 => funext fun x1 => funext fun x2 => funext fun x3 => l0_eq n K j x0 x1 x2 x3
    rw [slices_DeleteFunc_3_int_3_int_cwithoutNode_1.l0, ih]
    show _ = roundK cfg (pick (cal n)) (lam n) fin 0 b0 sin0 sout0 K (iter (roundK cfg (pick (cal n)) (lam n) fin 0 b0 sin0 sout0 K) j) (mkSt sin0 (x0, ((x1, ()), ()), x2, x3, ()))
    kernel_rfl
theorem loops (n : Nat) : LoopsOk cfg (pick (cal n)) (lam n) fin (loopsOf cfg.blk code) := by
  have h : loopsOf cfg.blk code = [(0, b0)] := by kernel_rfl
  rw [h]
  intro p hp K st r hr
  simp only [List.mem_cons, List.not_mem_nil, or_false] at hp
  rcases hp with rfl
  · have hr' : (match absSt sin0 st with | some (x, _) => slices_DeleteFunc_3_int_3_int_cwithoutNode_1.l0 n (fun y0 y1 => K (mkSt sout0 (y0, y1, ()))) n x.1 x.2.1.1.1 x.2.2.1 x.2.2.2.1 | none => none) = some r := hr
    split at hr'
    · rename_i x es hx
      rw [l0_eq] at hr'
      exact ⟨sin0, sout0, n, x, es, hx, hr'⟩
    · cases hr'
theorem F_eq (n : Nat) (x0 : List (Int × Int × Int)) (x1 : Int) : slices_DeleteFunc_3_int_3_int_cwithoutNode_1.F n x0 x1 = exK cfg (pick (cal n)) (lam n) fin code (fun _ _ => none) (mkSt shp (x0, ((x1, ()), ()), ())) fin := by
  kernel_rfl
def pfn (n : Nat) : PFn := mkFn shp outs (fun x => slices_DeleteFunc_3_int_3_int_cwithoutNode_1.F n x.1 x.2.1.1.1) out
theorem ok (n : Nat) : (pfn n).Ok Go.Proofs.Try.prog 111 :=
  mkFn_ok (fn := Go.Proofs.Try.f111) (code := code) Go.Proofs.Try.func111 (by kernel_rfl) (by decide) (C := cfg) (Φ := pick (cal n)) (Λ := lam n) (into := into) hT (cal_ok n) (by kernel_rfl) rfl (by decide) rfl (fun _ => rfl) (loops n)
    (fun x r h => by
      have e := F_eq n x.1 x.2.1.1.1
      exact e.symm.trans h)
end slices_DeleteFunc_3_int_3_int_cwithoutNode_1
end
/-! ### loop.example/g01158/impl.withoutNode -/
section
namespace impl_withoutNode
noncomputable def code : Code := (Go.Proofs.Try.f171.body).getD .skip
abbrev shp : Shape := [(0, .agg [.int .i64, .row (.t3) false, .row (.int .i64) false]), (1, .one (.int .i64))]
abbrev outs : List KD := [.agg [.int .i64, .row (.t3) true, .row (.int .i64) true]]
abbrev R : Type := Int × (List (Int × Int × Int)) × (List (Int))
def out : R → denL outs := fun r => ((r.1, r.2.1, r.2.2, ()), ())
def into : denL outs → R := fun y => (y.1.1, y.1.2.1, y.1.2.2.1)
def cfg : Cfg := ⟨ty, 14, [], fun _ => .plain, fun _ => none⟩
def cal (n : Nat) : List (Nat × PFn) := [(111, slices_DeleteFunc_3_int_3_int_cwithoutNode_1.pfn n), (120, impl_own.pfn n)]
theorem cal_ok (n : Nat) : ∀ g, (pick (cal n) g).Ok Go.Proofs.Try.prog g := pick_ok (by
  intro p hp
  simp only [cal, List.mem_cons, List.not_mem_nil, or_false] at hp
  rcases hp with rfl | rfl
  · exact slices_DeleteFunc_3_int_3_int_cwithoutNode_1.ok n
  · exact impl_own.ok n)
def fin : St → Option R := finOf ty [.cell 4 27] outs into
def lam (n : Nat) : Nat → (St → Option R) → St → Option R := fun _ => fun _ _ => none
theorem loops (n : Nat) : LoopsOk cfg (pick (cal n)) (lam n) fin (loopsOf cfg.blk code) := by
  have h : loopsOf cfg.blk code = [] := by kernel_rfl
  rw [h]
  intro p hp
  cases hp
theorem F_eq (n : Nat) (x0 : Int) (x1 : List (Int × Int × Int)) (x2 : List (Int)) (x3 : Int) : impl_withoutNode.F n x0 x1 x2 x3 = exK cfg (pick (cal n)) (lam n) fin code (fun _ _ => none) (mkSt shp ((x0, x1, x2, ()), x3, ())) fin := by
  kernel_rfl
def pfn (n : Nat) : PFn := mkFn shp outs (fun x => impl_withoutNode.F n x.1.1 x.1.2.1 x.1.2.2.1 x.2.1) out
theorem ok (n : Nat) : (pfn n).Ok Go.Proofs.Try.prog 171 :=
  mkFn_ok (fn := Go.Proofs.Try.f171) (code := code) Go.Proofs.Try.func171 (by kernel_rfl) (by decide) (C := cfg) (Φ := pick (cal n)) (Λ := lam n) (into := into) hT (cal_ok n) (by kernel_rfl) rfl (by decide) rfl (fun _ => rfl) (loops n)
    (fun x r h => by
      have e := F_eq n x.1.1 x.1.2.1 x.1.2.2.1 x.2.1
      exact e.symm.trans h)
end impl_withoutNode
end
/-! ### loop.example/g01158/impl.WithoutNode -/
section
namespace impl_WithoutNode
noncomputable def code : Code := (Go.Proofs.Try.f80.body).getD .skip
abbrev shp : Shape := [(0, .agg [.int .i64, .row (.t3) false, .row (.int .i64) false]), (1, .one (.int .i64))]
abbrev outs : List KD := [.agg [.int .i64, .row (.t3) true, .row (.int .i64) true], .one (.bool)]
abbrev R : Type := Int × (List (Int × Int × Int)) × (List (Int)) × Bool
def out : R → denL outs := fun r => ((r.1, r.2.1, r.2.2.1, ()), r.2.2.2, ())
def into : denL outs → R := fun y => (y.1.1, y.1.2.1, y.1.2.2.1, y.2.1)
def cfg : Cfg := ⟨ty, 15, [], fun _ => .plain, fun _ => none⟩
def cal (n : Nat) : List (Nat × PFn) := [(118, impl_isNode.pfn n), (171, impl_withoutNode.pfn n)]
theorem cal_ok (n : Nat) : ∀ g, (pick (cal n) g).Ok Go.Proofs.Try.prog g := pick_ok (by
  intro p hp
  simp only [cal, List.mem_cons, List.not_mem_nil, or_false] at hp
  rcases hp with rfl | rfl
  · exact impl_isNode.ok n
  · exact impl_withoutNode.ok n)
def fin : St → Option R := finOf ty [.cell 4 27, .tmp 5] outs into
def lam (n : Nat) : Nat → (St → Option R) → St → Option R := fun _ => fun _ _ => none
theorem loops (n : Nat) : LoopsOk cfg (pick (cal n)) (lam n) fin (loopsOf cfg.blk code) := by
  have h : loopsOf cfg.blk code = [] := by kernel_rfl
  rw [h]
  intro p hp
  cases hp
theorem F_eq (n : Nat) (x0 : Int) (x1 : List (Int × Int × Int)) (x2 : List (Int)) (x3 : Int) : impl_WithoutNode.F n x0 x1 x2 x3 = exK cfg (pick (cal n)) (lam n) fin code (fun _ _ => none) (mkSt shp ((x0, x1, x2, ()), x3, ())) fin := by
  kernel_rfl
def pfn (n : Nat) : PFn := mkFn shp outs (fun x => impl_WithoutNode.F n x.1.1 x.1.2.1 x.1.2.2.1 x.2.1) out
theorem ok (n : Nat) : (pfn n).Ok Go.Proofs.Try.prog 80 :=
  mkFn_ok (fn := Go.Proofs.Try.f80) (code := code) Go.Proofs.Try.func80 (by kernel_rfl) (by decide) (C := cfg) (Φ := pick (cal n)) (Λ := lam n) (into := into) hT (cal_ok n) (by kernel_rfl) rfl (by decide) rfl (fun _ => rfl) (loops n)
    (fun x r h => by
      have e := F_eq n x.1.1 x.1.2.1 x.1.2.2.1 x.2.1
      exact e.symm.trans h)
end impl_WithoutNode
end
/-! ### loop.example/g01158/spec.l1In -/
section
namespace spec_l1In
noncomputable def code : Code := (Go.Proofs.Try.f132.body).getD .skip
abbrev shp : Shape := [(0, .one (.int .i64)), (1, .one (.int .i64)), (2, .one (.int .i64))]
abbrev outs : List KD := [.one (.bool)]
abbrev R : Type := Bool
def out : R → denL outs := fun r => (r, ())
def into : denL outs → R := fun y => y.1
def cfg : Cfg := ⟨ty, 15, [], fun _ => .plain, fun _ => none⟩
def cal (n : Nat) : List (Nat × PFn) := []
theorem cal_ok (n : Nat) : ∀ g, (pick (cal n) g).Ok Go.Proofs.Try.prog g := pick_ok (by
  intro p hp
  cases hp)
def fin : St → Option R := finOf ty [.tmp 6] outs into
def lam (n : Nat) : Nat → (St → Option R) → St → Option R := fun _ => fun _ _ => none
theorem loops (n : Nat) : LoopsOk cfg (pick (cal n)) (lam n) fin (loopsOf cfg.blk code) := by
  have h : loopsOf cfg.blk code = [] := by kernel_rfl
  rw [h]
  intro p hp
  cases hp
theorem F_eq (n : Nat) (x0 : Int) (x1 : Int) (x2 : Int) : spec_l1In.F n x0 x1 x2 = exK cfg (pick (cal n)) (lam n) fin code (fun _ _ => none) (mkSt shp (x0, x1, x2, ())) fin := by
  kernel_rfl
def pfn (n : Nat) : PFn := mkFn shp outs (fun x => spec_l1In.F n x.1 x.2.1 x.2.2.1) out
theorem ok (n : Nat) : (pfn n).Ok Go.Proofs.Try.prog 132 :=
  mkFn_ok (fn := Go.Proofs.Try.f132) (code := code) Go.Proofs.Try.func132 (by kernel_rfl) (by decide) (C := cfg) (Φ := pick (cal n)) (Λ := lam n) (into := into) hT (cal_ok n) (by kernel_rfl) rfl (by decide) rfl (fun _ => rfl) (loops n)
    (fun x r h => by
      have e := F_eq n x.1 x.2.1 x.2.2.1
      exact e.symm.trans h)
end spec_l1In
end
/-! ### loop.example/g01158/spec.l2Set -/
section
namespace spec_l2Set
noncomputable def code : Code := (Go.Proofs.Try.f107.body).getD .skip
abbrev shp : Shape := [(0, .one (.int .i64))]
abbrev outs : List KD := [.one (.bool)]
abbrev R : Type := Bool
def out : R → denL outs := fun r => (r, ())
def into : denL outs → R := fun y => y.1
def cfg : Cfg := ⟨ty, 5, [], fun _ => .plain, fun _ => none⟩
def cal (n : Nat) : List (Nat × PFn) := [(132, spec_l1In.pfn n)]
theorem cal_ok (n : Nat) : ∀ g, (pick (cal n) g).Ok Go.Proofs.Try.prog g := pick_ok (by
  intro p hp
  simp only [cal, List.mem_cons, List.not_mem_nil, or_false] at hp
  rcases hp with rfl
  · exact spec_l1In.ok n)
def fin : St → Option R := finOf ty [.tmp 2] outs into
def lam (n : Nat) : Nat → (St → Option R) → St → Option R := fun _ => fun _ _ => none
theorem loops (n : Nat) : LoopsOk cfg (pick (cal n)) (lam n) fin (loopsOf cfg.blk code) := by
  have h : loopsOf cfg.blk code = [] := by kernel_rfl
  rw [h]
  intro p hp
  cases hp
theorem F_eq (n : Nat) (x0 : Int) : spec_l2Set.F n x0 = exK cfg (pick (cal n)) (lam n) fin code (fun _ _ => none) (mkSt shp (x0, ())) fin := by
  kernel_rfl
def pfn (n : Nat) : PFn := mkFn shp outs (fun x => spec_l2Set.F n x.1) out
theorem ok (n : Nat) : (pfn n).Ok Go.Proofs.Try.prog 107 :=
  mkFn_ok (fn := Go.Proofs.Try.f107) (code := code) Go.Proofs.Try.func107 (by kernel_rfl) (by decide) (C := cfg) (Φ := pick (cal n)) (Λ := lam n) (into := into) hT (cal_ok n) (by kernel_rfl) rfl (by decide) rfl (fun _ => rfl) (loops n)
    (fun x r h => by
      have e := F_eq n x.1
      exact e.symm.trans h)
end spec_l2Set
end
/-! ### loop.example/g01158/spec.l2Maze -/
section
namespace spec_l2Maze
noncomputable def code : Code := (Go.Proofs.Try.f94.body).getD .skip
abbrev shp : Shape := [(0, .agg [.int .i64, .row (.t3) false, .row (.int .i64) false])]
abbrev outs : List KD := [.one (.bool)]
abbrev R : Type := Bool
def out : R → denL outs := fun r => (r, ())
def into : denL outs → R := fun y => y.1
def cfg : Cfg := ⟨ty, 89, [], fun i => match Nat.beq i 0 with | true => .loop | false => match Nat.beq i 2 with | true => .loop | false => .plain, fun i => match Nat.beq i 3 with | true => some [(1, .box true [.int .i64, .row (.t3) false, .row (.int .i64) false])] | false => none⟩
def cal (n : Nat) : List (Nat × PFn) := [(107, spec_l2Set.pfn n), (132, spec_l1In.pfn n), (179, spec_l2Before.pfn n)]
theorem cal_ok (n : Nat) : ∀ g, (pick (cal n) g).Ok Go.Proofs.Try.prog g := pick_ok (by
  intro p hp
  simp only [cal, List.mem_cons, List.not_mem_nil, or_false] at hp
  rcases hp with rfl | rfl | rfl
  · exact spec_l2Set.ok n
  · exact spec_l1In.ok n
  · exact spec_l2Before.ok n)
def fin : St → Option R := finOf ty [.tmp 2] outs into
abbrev sin0 : Shape := [(1, .box true [.int .i64, .row (.t3) false, .row (.int .i64) false]), (3, .one (.int .i64))]
abbrev sout0 : Shape := [(1, .box true [.int .i64, .row (.t3) false, .row (.int .i64) false])]
abbrev sin2 : Shape := [(1, .box true [.int .i64, .row (.t3) false, .row (.int .i64) false]), (5, .one (.int .i64))]
abbrev sout2 : Shape := []
def lam (n : Nat) : Nat → (St → Option R) → St → Option R := fun i => match Nat.beq i 0 with | true => (fun K st => match absSt sin0 st with | some (x, _) => spec_l2Maze.l0 n (fun y0 y1 y2 => K (mkSt sout0 ((y0, y1, y2, ()), ()))) n x.1.1 x.1.2.1 x.1.2.2.1 x.2.1 | none => none) | false => match Nat.beq i 2 with | true => (fun K st => match absSt sin2 st with | some (x, _) => spec_l2Maze.l2 n (fun _ => K (mkSt sout2 ())) n x.1.1 x.1.2.1 x.1.2.2.1 x.2.1 | none => none) | false => fun _ _ => none
noncomputable def lps : List (Nat × Code) := loopsOf cfg.blk code
noncomputable def b0 : Code := bodyOf lps 0
theorem l0_eq (n : Nat) (K : St → Option R) : ∀ (j : Nat) (x0 : Int) (x1 : List (Int × Int × Int)) (x2 : List (Int)) (x3 : Int), spec_l2Maze.l0 n (fun y0 y1 y2 => K (mkSt sout0 ((y0, y1, y2, ()), ()))) j x0 x1 x2 x3 = iter (roundK cfg (pick (cal n)) (lam n) fin 0 b0 sin0 sout0 K) j (mkSt sin0 ((x0, x1, x2, ()), x3, ()))
  | 0, _, _, _, _ => rfl
  | j + 1, x0, x1, x2, x3 => by
    have ih : spec_l2Maze.l0 n (fun y0 y1 y2 => K (mkSt sout0 ((y0, y1, y2, ()), ()))) j = fun x0 x1 x2 x3 => iter (roundK cfg (pick (cal n)) (lam n) fin 0 b0 sin0 sout0 K) j (mkSt sin0 ((x0, x1, x2, ()), x3, ())) := funext fun x0 => funext fun x1 => funext fun x2 => funext fun x3 => l0_eq n K j x0 x1 x2 x3
    rw [spec_l2Maze.l0, ih]
    show _ = roundK cfg (pick (cal n)) (lam n) fin 0 b0 sin0 sout0 K (iter (roundK cfg (pick (cal n)) (lam n) fin 0 b0 sin0 sout0 K) j) (mkSt sin0 ((x0, x1, x2, ()), x3, ()))
    kernel_rfl
noncomputable def b2 : Code := bodyOf lps 2
theorem l2_eq (n : Nat) (K : St → Option R) : ∀ (j : Nat) (x0 : Int) (x1 : List (Int × Int × Int)) (x2 : List (Int)) (x3 : Int), spec_l2Maze.l2 n (fun _ => K (mkSt sout2 ())) j x0 x1 x2 x3 = iter (roundK cfg (pick (cal n)) (lam n) fin 2 b2 sin2 sout2 K) j (mkSt sin2 ((x0, x1, x2, ()), x3, ()))
  | 0, _, _, _, _ => rfl
  | j + 1, x0, x1, x2, x3 => by
    have ih : spec_l2Maze.l2 n (fun _ => K (mkSt sout2 ())) j = fun x0 x1 x2 x3 => iter (roundK cfg (pick (cal n)) (lam n) fin 2 b2 sin2 sout2 K) j (mkSt sin2 ((x0, x1, x2, ()), x3, ())) := funext fun x0 => funext fun x1 => funext fun x2 => funext fun x3 => l2_eq n K j x0 x1 x2 x3
    rw [spec_l2Maze.l2, ih]
    show _ = roundK cfg (pick (cal n)) (lam n) fin 2 b2 sin2 sout2 K (iter (roundK cfg (pick (cal n)) (lam n) fin 2 b2 sin2 sout2 K) j) (mkSt sin2 ((x0, x1, x2, ()), x3, ()))
    kernel_rfl
theorem loops (n : Nat) : LoopsOk cfg (pick (cal n)) (lam n) fin (loopsOf cfg.blk code) := by
  have h : loopsOf cfg.blk code = [(0, b0), (2, b2)] := by kernel_rfl
  rw [h]
  intro p hp K st r hr
  simp only [List.mem_cons, List.not_mem_nil, or_false] at hp
  rcases hp with rfl | rfl
  · have hr' : (match absSt sin0 st with | some (x, _) => spec_l2Maze.l0 n (fun y0 y1 y2 => K (mkSt sout0 ((y0, y1, y2, ()), ()))) n x.1.1 x.1.2.1 x.1.2.2.1 x.2.1 | none => none) = some r := hr
    split at hr'
    · rename_i x es hx
      rw [l0_eq] at hr'
      exact ⟨sin0, sout0, n, x, es, hx, hr'⟩
    · cases hr'
  · have hr' : (match absSt sin2 st with | some (x, _) => spec_l2Maze.l2 n (fun _ => K (mkSt sout2 ())) n x.1.1 x.1.2.1 x.1.2.2.1 x.2.1 | none => none) = some r := hr
    split at hr'
    · rename_i x es hx
      rw [l2_eq] at hr'
      exact ⟨sin2, sout2, n, x, es, hx, hr'⟩
    · cases hr'
theorem F_eq (n : Nat) (x0 : Int) (x1 : List (Int × Int × Int)) (x2 : List (Int)) : spec_l2Maze.F n x0 x1 x2 = exK cfg (pick (cal n)) (lam n) fin code (fun _ _ => none) (mkSt shp ((x0, x1, x2, ()), ())) fin := by
  kernel_rfl
def pfn (n : Nat) : PFn := mkFn shp outs (fun x => spec_l2Maze.F n x.1.1 x.1.2.1 x.1.2.2.1) out
theorem ok (n : Nat) : (pfn n).Ok Go.Proofs.Try.prog 94 :=
  mkFn_ok (fn := Go.Proofs.Try.f94) (code := code) Go.Proofs.Try.func94 (by kernel_rfl) (by decide) (C := cfg) (Φ := pick (cal n)) (Λ := lam n) (into := into) hT (cal_ok n) (by kernel_rfl) rfl (by decide) rfl (fun _ => rfl) (loops n)
    (fun x r h => by
      have e := F_eq n x.1.1 x.1.2.1 x.1.2.2.1
      exact e.symm.trans h)
end spec_l2Maze
end
/-! ### loop.example/g01158/spec.l2Node -/
section
namespace spec_l2Node
noncomputable def code : Code := (Go.Proofs.Try.f115.body).getD .skip
abbrev shp : Shape := [(0, .agg [.int .i64, .row (.t3) false, .row (.int .i64) false]), (1, .one (.int .i64))]
abbrev outs : List KD := [.one (.bool)]
abbrev R : Type := Bool
def out : R → denL outs := fun r => (r, ())
def into : denL outs → R := fun y => y.1
def cfg : Cfg := ⟨ty, 14, [], fun _ => .plain, fun _ => none⟩
def cal (n : Nat) : List (Nat × PFn) := [(94, spec_l2Maze.pfn n), (132, spec_l1In.pfn n)]
theorem cal_ok (n : Nat) : ∀ g, (pick (cal n) g).Ok Go.Proofs.Try.prog g := pick_ok (by
  intro p hp
  simp only [cal, List.mem_cons, List.not_mem_nil, or_false] at hp
  rcases hp with rfl | rfl
  · exact spec_l2Maze.ok n
  · exact spec_l1In.ok n)
def fin : St → Option R := finOf ty [.tmp 4] outs into
def lam (n : Nat) : Nat → (St → Option R) → St → Option R := fun _ => fun _ _ => none
theorem loops (n : Nat) : LoopsOk cfg (pick (cal n)) (lam n) fin (loopsOf cfg.blk code) := by
  have h : loopsOf cfg.blk code = [] := by kernel_rfl
  rw [h]
  intro p hp
  cases hp
theorem F_eq (n : Nat) (x0 : Int) (x1 : List (Int × Int × Int)) (x2 : List (Int)) (x3 : Int) : spec_l2Node.F n x0 x1 x2 x3 = exK cfg (pick (cal n)) (lam n) fin code (fun _ _ => none) (mkSt shp ((x0, x1, x2, ()), x3, ())) fin := by
  kernel_rfl
def pfn (n : Nat) : PFn := mkFn shp outs (fun x => spec_l2Node.F n x.1.1 x.1.2.1 x.1.2.2.1 x.2.1) out
theorem ok (n : Nat) : (pfn n).Ok Go.Proofs.Try.prog 115 :=
  mkFn_ok (fn := Go.Proofs.Try.f115) (code := code) Go.Proofs.Try.func115 (by kernel_rfl) (by decide) (C := cfg) (Φ := pick (cal n)) (Λ := lam n) (into := into) hT (cal_ok n) (by kernel_rfl) rfl (by decide) rfl (fun _ => rfl) (loops n)
    (fun x r h => by
      have e := F_eq n x.1.1 x.1.2.1 x.1.2.2.1 x.2.1
      exact e.symm.trans h)
end spec_l2Node
end
/-! ### loop.example/g01158/spec.l1Own -/
section
namespace spec_l1Own
noncomputable def code : Code := (Go.Proofs.Try.f145.body).getD .skip
abbrev shp : Shape := [(0, .one (.row (.int .i64) false))]
abbrev outs : List KD := [.one (.row (.int .i64) true)]
abbrev R : Type := (List (Int))
def out : R → denL outs := fun r => (r, ())
def into : denL outs → R := fun y => y.1
def cfg : Cfg := ⟨ty, 6, [], fun _ => .plain, fun _ => none⟩
def cal (n : Nat) : List (Nat × PFn) := []
theorem cal_ok (n : Nat) : ∀ g, (pick (cal n) g).Ok Go.Proofs.Try.prog g := pick_ok (by
  intro p hp
  cases hp)
def fin : St → Option R := finOf ty [.tmp 2] outs into
def lam (n : Nat) : Nat → (St → Option R) → St → Option R := fun _ => fun _ _ => none
theorem loops (n : Nat) : LoopsOk cfg (pick (cal n)) (lam n) fin (loopsOf cfg.blk code) := by
  have h : loopsOf cfg.blk code = [] := by kernel_rfl
  rw [h]
  intro p hp
  cases hp
theorem F_eq (n : Nat) (x0 : List (Int)) : spec_l1Own.F n x0 = exK cfg (pick (cal n)) (lam n) fin code (fun _ _ => none) (mkSt shp (x0, ())) fin := by
  kernel_rfl
def pfn (n : Nat) : PFn := mkFn shp outs (fun x => spec_l1Own.F n x.1) out
theorem ok (n : Nat) : (pfn n).Ok Go.Proofs.Try.prog 145 :=
  mkFn_ok (fn := Go.Proofs.Try.f145) (code := code) Go.Proofs.Try.func145 (by kernel_rfl) (by decide) (C := cfg) (Φ := pick (cal n)) (Λ := lam n) (into := into) hT (cal_ok n) (by kernel_rfl) rfl (by decide) rfl (fun _ => rfl) (loops n)
    (fun x r h => by
      have e := F_eq n x.1
      exact e.symm.trans h)
end spec_l1Own
end
/-! ### loop.example/g01158/spec.l2Own -/
section
namespace spec_l2Own
noncomputable def code : Code := (Go.Proofs.Try.f116.body).getD .skip
abbrev shp : Shape := [(0, .agg [.int .i64, .row (.t3) false, .row (.int .i64) false])]
abbrev outs : List KD := [.agg [.int .i64, .row (.t3) true, .row (.int .i64) true]]
abbrev R : Type := Int × (List (Int × Int × Int)) × (List (Int))
def out : R → denL outs := fun r => ((r.1, r.2.1, r.2.2, ()), ())
def into : denL outs → R := fun y => (y.1.1, y.1.2.1, y.1.2.2.1)
def cfg : Cfg := ⟨ty, 13, [], fun _ => .plain, fun _ => none⟩
def cal (n : Nat) : List (Nat × PFn) := [(145, spec_l1Own.pfn n)]
theorem cal_ok (n : Nat) : ∀ g, (pick (cal n) g).Ok Go.Proofs.Try.prog g := pick_ok (by
  intro p hp
  simp only [cal, List.mem_cons, List.not_mem_nil, or_false] at hp
  rcases hp with rfl
  · exact spec_l1Own.ok n)
def fin : St → Option R := finOf ty [.cell 2 27] outs into
def lam (n : Nat) : Nat → (St → Option R) → St → Option R := fun _ => fun _ _ => none
theorem loops (n : Nat) : LoopsOk cfg (pick (cal n)) (lam n) fin (loopsOf cfg.blk code) := by
  have h : loopsOf cfg.blk code = [] := by kernel_rfl
  rw [h]
  intro p hp
  cases hp
theorem F_eq (n : Nat) (x0 : Int) (x1 : List (Int × Int × Int)) (x2 : List (Int)) : spec_l2Own.F n x0 x1 x2 = exK cfg (pick (cal n)) (lam n) fin code (fun _ _ => none) (mkSt shp ((x0, x1, x2, ()), ())) fin := by
  kernel_rfl
def pfn (n : Nat) : PFn := mkFn shp outs (fun x => spec_l2Own.F n x.1.1 x.1.2.1 x.1.2.2.1) out
theorem ok (n : Nat) : (pfn n).Ok Go.Proofs.Try.prog 116 :=
  mkFn_ok (fn := Go.Proofs.Try.f116) (code := code) Go.Proofs.Try.func116 (by kernel_rfl) (by decide) (C := cfg) (Φ := pick (cal n)) (Λ := lam n) (into := into) hT (cal_ok n) (by kernel_rfl) rfl (by decide) rfl (fun _ => rfl) (loops n)
    (fun x r h => by
      have e := F_eq n x.1.1 x.1.2.1 x.1.2.2.1
      exact e.symm.trans h)
end spec_l2Own
end
/-! ### loop.example/g01158/spec.l3Node -/
section
namespace spec_l3Node
noncomputable def code : Code := (Go.Proofs.Try.f172.body).getD .skip
abbrev shp : Shape := [(0, .agg [.int .i64, .row (.t3) false, .row (.int .i64) false]), (1, .one (.int .i64))]
abbrev outs : List KD := [.agg [.int .i64, .row (.t3) true, .row (.int .i64) true]]
abbrev R : Type := Int × (List (Int × Int × Int)) × (List (Int))
def out : R → denL outs := fun r => ((r.1, r.2.1, r.2.2, ()), ())
def into : denL outs → R := fun y => (y.1.1, y.1.2.1, y.1.2.2.1)
def cfg : Cfg := ⟨ty, 47, [], fun i => match Nat.beq i 0 with | true => .loop | false => .plain, fun _ => none⟩
def cal (n : Nat) : List (Nat × PFn) := [(116, spec_l2Own.pfn n)]
theorem cal_ok (n : Nat) : ∀ g, (pick (cal n) g).Ok Go.Proofs.Try.prog g := pick_ok (by
  intro p hp
  simp only [cal, List.mem_cons, List.not_mem_nil, or_false] at hp
  rcases hp with rfl
  · exact spec_l2Own.ok n)
def fin : St → Option R := finOf ty [.cell 4 27] outs into
abbrev sin0 : Shape := [(1, .one (.int .i64)), (2, .box true [.int .i64, .row (.t3) false, .row (.int .i64) false]), (4, .box true [.int .i64, .row (.t3) true, .row (.int .i64) true]), (5, .box true [.int .i64, .row (.t3) true, .row (.int .i64) true]), (6, .one (.int .i64))]
abbrev sout0 : Shape := [(4, .box true [.int .i64, .row (.t3) true, .row (.int .i64) true]), (5, .box true [.int .i64, .row (.t3) true, .row (.int .i64) true])]
def lam (n : Nat) : Nat → (St → Option R) → St → Option R := fun i => match Nat.beq i 0 with | true => (fun K st => match absSt sin0 st with | some (x, _) => spec_l3Node.l0 n (fun y0 y1 y2 y3 y4 y5 => K (mkSt sout0 ((y0, y1, y2, ()), (y3, y4, y5, ()), ()))) n x.1 x.2.1.1 x.2.1.2.1 x.2.1.2.2.1 x.2.2.1.1 x.2.2.1.2.1 x.2.2.1.2.2.1 x.2.2.2.1.1 x.2.2.2.1.2.1 x.2.2.2.1.2.2.1 x.2.2.2.2.1 | none => none) | false => fun _ _ => none
noncomputable def lps : List (Nat × Code) := loopsOf cfg.blk code
noncomputable def b0 : Code := bodyOf lps 0
theorem l0_eq (n : Nat) (K : St → Option R) : ∀ (j : Nat) (x0 : Int) (x1 : Int) (x2 : List (Int × Int × Int)) (x3 : List (Int)) (x4 : Int) (x5 : List (Int × Int × Int)) (x6 : List (Int)) (x7 : Int) (x8 : List (Int × Int × Int)) (x9 : List (Int)) (x10 : Int), spec_l3Node.l0 n (fun y0 y1 y2 y3 y4 y5 => K (mkSt sout0 ((y0, y1, y2, ()), (y3, y4, y5, ()), ()))) j x0 x1 x2 x3 x4 x5 x6 x7 x8 x9 x10 = iter (roundK cfg (pick (cal n)) (lam n) fin 0 b0 sin0 sout0 K) j (mkSt sin0 (x0, (x1, x2, x3, ()), (x4, x5, x6, ()), (x7, x8, x9, ()), x10, ()))
  | 0, _, _, _, _, _, _, _, _, _, _, _ => rfl
  | j + 1, x0, x1, x2, x3, x4, x5, x6, x7, x8, x9, x10 => by
    have ih : spec_l3Node.l0 n (fun y0 y1 y2 y3 y4 y5 => K (mkSt sout0 ((y0, y1, y2, ()), (y3, y4, y5, ()), ()))) j = fun x0 x1 x2 x3 x4 x5 x6 x7 x8 x9 x10 => iter (roundK cfg (pick (cal n)) (lam n) fin 0 b0 sin0 sout0 K) j (mkSt sin0 (x0, (x1, x2, x3, ()), (x4, x5, x6, ()), (x7, x8, x9, ()), x10, ())) := funext fun x0 => funext fun x1 => funext fun x2 => funext fun x3 => funext fun x4 => funext fun x5 => funext fun x6 => funext fun x7 => funext fun x8 => funext fun x9 => funext fun x10 => l0_eq n K j x0 x1 x2 x3 x4 x5 x6 x7 x8 x9 x10
    rw [spec_l3Node.l0, ih]
    show _ = roundK cfg (pick (cal n)) (lam n) fin 0 b0 sin0 sout0 K (iter (roundK cfg (pick (cal n)) (lam n) fin 0 b0 sin0 sout0 K) j) (mkSt sin0 (x0, (x1, x2, x3, ()), (x4, x5, x6, ()), (x7, x8, x9, ()), x10, ()))
    kernel_rfl
theorem loops (n : Nat) : LoopsOk cfg (pick (cal n)) (lam n) fin (loopsOf cfg.blk code) := by
  have h : loopsOf cfg.blk code = [(0, b0)] := by kernel_rfl
  rw [h]
  intro p hp K st r hr
  simp only [List.mem_cons, List.not_mem_nil, or_false] at hp
  rcases hp with rfl
  · have hr' : (match absSt sin0 st with | some (x, _) => spec_l3Node.l0 n (fun y0 y1 y2 y3 y4 y5 => K (mkSt sout0 ((y0, y1, y2, ()), (y3, y4, y5, ()), ()))) n x.1 x.2.1.1 x.2.1.2.1 x.2.1.2.2.1 x.2.2.1.1 x.2.2.1.2.1 x.2.2.1.2.2.1 x.2.2.2.1.1 x.2.2.2.1.2.1 x.2.2.2.1.2.2.1 x.2.2.2.2.1 | none => none) = some r := hr
    split at hr'
    · rename_i x es hx
      rw [l0_eq] at hr'
      exact ⟨sin0, sout0, n, x, es, hx, hr'⟩
    · cases hr'
theorem F_eq (n : Nat) (x0 : Int) (x1 : List (Int × Int × Int)) (x2 : List (Int)) (x3 : Int) : spec_l3Node.F n x0 x1 x2 x3 = exK cfg (pick (cal n)) (lam n) fin code (fun _ _ => none) (mkSt shp ((x0, x1, x2, ()), x3, ())) fin := by
  kernel_rfl
def pfn (n : Nat) : PFn := mkFn shp outs (fun x => spec_l3Node.F n x.1.1 x.1.2.1 x.1.2.2.1 x.2.1) out
theorem ok (n : Nat) : (pfn n).Ok Go.Proofs.Try.prog 172 :=
  mkFn_ok (fn := Go.Proofs.Try.f172) (code := code) Go.Proofs.Try.func172 (by kernel_rfl) (by decide) (C := cfg) (Φ := pick (cal n)) (Λ := lam n) (into := into) hT (cal_ok n) (by kernel_rfl) rfl (by decide) rfl (fun _ => rfl) (loops n)
    (fun x r h => by
      have e := F_eq n x.1.1 x.1.2.1 x.1.2.2.1 x.2.1
      exact e.symm.trans h)
end spec_l3Node
end
/-! ### loop.example/g01158/spec.WithoutNode -/
section
namespace spec_WithoutNode
noncomputable def code : Code := (Go.Proofs.Try.f81.body).getD .skip
abbrev shp : Shape := [(0, .agg [.int .i64, .row (.t3) false, .row (.int .i64) false]), (1, .one (.int .i64))]
abbrev outs : List KD := [.agg [.int .i64, .row (.t3) true, .row (.int .i64) true], .one (.bool)]
abbrev R : Type := Int × (List (Int × Int × Int)) × (List (Int)) × Bool
def out : R → denL outs := fun r => ((r.1, r.2.1, r.2.2.1, ()), r.2.2.2, ())
def into : denL outs → R := fun y => (y.1.1, y.1.2.1, y.1.2.2.1, y.2.1)
def cfg : Cfg := ⟨ty, 14, [], fun _ => .plain, fun _ => none⟩
def cal (n : Nat) : List (Nat × PFn) := [(115, spec_l2Node.pfn n), (172, spec_l3Node.pfn n)]
theorem cal_ok (n : Nat) : ∀ g, (pick (cal n) g).Ok Go.Proofs.Try.prog g := pick_ok (by
  intro p hp
  simp only [cal, List.mem_cons, List.not_mem_nil, or_false] at hp
  rcases hp with rfl | rfl
  · exact spec_l2Node.ok n
  · exact spec_l3Node.ok n)
def fin : St → Option R := finOf ty [.cell 4 27, .tmp 5] outs into
def lam (n : Nat) : Nat → (St → Option R) → St → Option R := fun _ => fun _ _ => none
theorem loops (n : Nat) : LoopsOk cfg (pick (cal n)) (lam n) fin (loopsOf cfg.blk code) := by
  have h : loopsOf cfg.blk code = [] := by kernel_rfl
  rw [h]
  intro p hp
  cases hp
theorem F_eq (n : Nat) (x0 : Int) (x1 : List (Int × Int × Int)) (x2 : List (Int)) (x3 : Int) : spec_WithoutNode.F n x0 x1 x2 x3 = exK cfg (pick (cal n)) (lam n) fin code (fun _ _ => none) (mkSt shp ((x0, x1, x2, ()), x3, ())) fin := by
  kernel_rfl
def pfn (n : Nat) : PFn := mkFn shp outs (fun x => spec_WithoutNode.F n x.1.1 x.1.2.1 x.1.2.2.1 x.2.1) out
theorem ok (n : Nat) : (pfn n).Ok Go.Proofs.Try.prog 81 :=
  mkFn_ok (fn := Go.Proofs.Try.f81) (code := code) Go.Proofs.Try.func81 (by kernel_rfl) (by decide) (C := cfg) (Φ := pick (cal n)) (Λ := lam n) (into := into) hT (cal_ok n) (by kernel_rfl) rfl (by decide) rfl (fun _ => rfl) (loops n)
    (fun x r h => by
      have e := F_eq n x.1.1 x.1.2.1 x.1.2.2.1 x.2.1
      exact e.symm.trans h)
end spec_WithoutNode
end
/-! ### loop.example/g01158/impl.put -/
section
namespace impl_put
noncomputable def code : Code := (Go.Proofs.Try.f134.body).getD .skip
abbrev shp : Shape := [(0, .agg [.int .i64, .row (.t3) false, .row (.int .i64) false]), (1, .one (.int .i64)), (2, .one (.int .i64))]
abbrev outs : List KD := [.agg [.int .i64, .row (.t3) true, .row (.int .i64) true]]
abbrev R : Type := Int × (List (Int × Int × Int)) × (List (Int))
def out : R → denL outs := fun r => ((r.1, r.2.1, r.2.2, ()), ())
def into : denL outs → R := fun y => (y.1.1, y.1.2.1, y.1.2.2.1)
def cfg : Cfg := ⟨ty, 16, [], fun _ => .plain, fun _ => none⟩
def cal (n : Nat) : List (Nat × PFn) := [(120, impl_own.pfn n)]
theorem cal_ok (n : Nat) : ∀ g, (pick (cal n) g).Ok Go.Proofs.Try.prog g := pick_ok (by
  intro p hp
  simp only [cal, List.mem_cons, List.not_mem_nil, or_false] at hp
  rcases hp with rfl
  · exact impl_own.ok n)
def fin : St → Option R := finOf ty [.cell 6 27] outs into
def lam (n : Nat) : Nat → (St → Option R) → St → Option R := fun _ => fun _ _ => none
theorem loops (n : Nat) : LoopsOk cfg (pick (cal n)) (lam n) fin (loopsOf cfg.blk code) := by
  have h : loopsOf cfg.blk code = [] := by kernel_rfl
  rw [h]
  intro p hp
  cases hp
theorem F_eq (n : Nat) (x0 : Int) (x1 : List (Int × Int × Int)) (x2 : List (Int)) (x3 : Int) (x4 : Int) : impl_put.F n x0 x1 x2 x3 x4 = exK cfg (pick (cal n)) (lam n) fin code (fun _ _ => none) (mkSt shp ((x0, x1, x2, ()), x3, x4, ())) fin := by
  kernel_rfl
def pfn (n : Nat) : PFn := mkFn shp outs (fun x => impl_put.F n x.1.1 x.1.2.1 x.1.2.2.1 x.2.1 x.2.2.1) out
theorem ok (n : Nat) : (pfn n).Ok Go.Proofs.Try.prog 134 :=
  mkFn_ok (fn := Go.Proofs.Try.f134) (code := code) Go.Proofs.Try.func134 (by kernel_rfl) (by decide) (C := cfg) (Φ := pick (cal n)) (Λ := lam n) (into := into) hT (cal_ok n) (by kernel_rfl) rfl (by decide) rfl (fun _ => rfl) (loops n)
    (fun x r h => by
      have e := F_eq n x.1.1 x.1.2.1 x.1.2.2.1 x.2.1 x.2.2.1
      exact e.symm.trans h)
end impl_put
end
/-! ### loop.example/g01158/impl.PutKeys -/
section
namespace impl_PutKeys
noncomputable def code : Code := (Go.Proofs.Try.f40.body).getD .skip
abbrev shp : Shape := [(0, .agg [.int .i64, .row (.t3) false, .row (.int .i64) false]), (1, .one (.int .i64)), (2, .one (.int .i64))]
abbrev outs : List KD := [.agg [.int .i64, .row (.t3) true, .row (.int .i64) true], .one (.bool)]
abbrev R : Type := Int × (List (Int × Int × Int)) × (List (Int)) × Bool
def out : R → denL outs := fun r => ((r.1, r.2.1, r.2.2.1, ()), r.2.2.2, ())
def into : denL outs → R := fun y => (y.1.1, y.1.2.1, y.1.2.2.1, y.2.1)
def cfg : Cfg := ⟨ty, 23, [], fun _ => .plain, fun _ => none⟩
def cal (n : Nat) : List (Nat × PFn) := [(109, impl_isSet.pfn n), (118, impl_isNode.pfn n), (134, impl_put.pfn n)]
theorem cal_ok (n : Nat) : ∀ g, (pick (cal n) g).Ok Go.Proofs.Try.prog g := pick_ok (by
  intro p hp
  simp only [cal, List.mem_cons, List.not_mem_nil, or_false] at hp
  rcases hp with rfl | rfl | rfl
  · exact impl_isSet.ok n
  · exact impl_isNode.ok n
  · exact impl_put.ok n)
def fin : St → Option R := finOf ty [.cell 6 27, .tmp 7] outs into
def lam (n : Nat) : Nat → (St → Option R) → St → Option R := fun _ => fun _ _ => none
theorem loops (n : Nat) : LoopsOk cfg (pick (cal n)) (lam n) fin (loopsOf cfg.blk code) := by
  have h : loopsOf cfg.blk code = [] := by kernel_rfl
  rw [h]
  intro p hp
  cases hp
theorem F_eq (n : Nat) (x0 : Int) (x1 : List (Int × Int × Int)) (x2 : List (Int)) (x3 : Int) (x4 : Int) : impl_PutKeys.F n x0 x1 x2 x3 x4 = exK cfg (pick (cal n)) (lam n) fin code (fun _ _ => none) (mkSt shp ((x0, x1, x2, ()), x3, x4, ())) fin := by
  kernel_rfl
def pfn (n : Nat) : PFn := mkFn shp outs (fun x => impl_PutKeys.F n x.1.1 x.1.2.1 x.1.2.2.1 x.2.1 x.2.2.1) out
theorem ok (n : Nat) : (pfn n).Ok Go.Proofs.Try.prog 40 :=
  mkFn_ok (fn := Go.Proofs.Try.f40) (code := code) Go.Proofs.Try.func40 (by kernel_rfl) (by decide) (C := cfg) (Φ := pick (cal n)) (Λ := lam n) (into := into) hT (cal_ok n) (by kernel_rfl) rfl (by decide) rfl (fun _ => rfl) (loops n)
    (fun x r h => by
      have e := F_eq n x.1.1 x.1.2.1 x.1.2.2.1 x.2.1 x.2.2.1
      exact e.symm.trans h)
end impl_PutKeys
end
/-! ### loop.example/g01158/impl.WithoutKeys -/
section
namespace impl_WithoutKeys
noncomputable def code : Code := (Go.Proofs.Try.f82.body).getD .skip
abbrev shp : Shape := [(0, .agg [.int .i64, .row (.t3) false, .row (.int .i64) false]), (1, .one (.int .i64))]
abbrev outs : List KD := [.agg [.int .i64, .row (.t3) true, .row (.int .i64) true], .one (.bool)]
abbrev R : Type := Int × (List (Int × Int × Int)) × (List (Int)) × Bool
def out : R → denL outs := fun r => ((r.1, r.2.1, r.2.2.1, ()), r.2.2.2, ())
def into : denL outs → R := fun y => (y.1.1, y.1.2.1, y.1.2.2.1, y.2.1)
def cfg : Cfg := ⟨ty, 11, [], fun _ => .plain, fun _ => none⟩
def cal (n : Nat) : List (Nat × PFn) := [(40, impl_PutKeys.pfn n)]
theorem cal_ok (n : Nat) : ∀ g, (pick (cal n) g).Ok Go.Proofs.Try.prog g := pick_ok (by
  intro p hp
  simp only [cal, List.mem_cons, List.not_mem_nil, or_false] at hp
  rcases hp with rfl
  · exact impl_PutKeys.ok n)
def fin : St → Option R := finOf ty [.cell 4 27, .tmp 5] outs into
def lam (n : Nat) : Nat → (St → Option R) → St → Option R := fun _ => fun _ _ => none
theorem loops (n : Nat) : LoopsOk cfg (pick (cal n)) (lam n) fin (loopsOf cfg.blk code) := by
  have h : loopsOf cfg.blk code = [] := by kernel_rfl
  rw [h]
  intro p hp
  cases hp
theorem F_eq (n : Nat) (x0 : Int) (x1 : List (Int × Int × Int)) (x2 : List (Int)) (x3 : Int) : impl_WithoutKeys.F n x0 x1 x2 x3 = exK cfg (pick (cal n)) (lam n) fin code (fun _ _ => none) (mkSt shp ((x0, x1, x2, ()), x3, ())) fin := by
  kernel_rfl
def pfn (n : Nat) : PFn := mkFn shp outs (fun x => impl_WithoutKeys.F n x.1.1 x.1.2.1 x.1.2.2.1 x.2.1) out
theorem ok (n : Nat) : (pfn n).Ok Go.Proofs.Try.prog 82 :=
  mkFn_ok (fn := Go.Proofs.Try.f82) (code := code) Go.Proofs.Try.func82 (by kernel_rfl) (by decide) (C := cfg) (Φ := pick (cal n)) (Λ := lam n) (into := into) hT (cal_ok n) (by kernel_rfl) rfl (by decide) rfl (fun _ => rfl) (loops n)
    (fun x r h => by
      have e := F_eq n x.1.1 x.1.2.1 x.1.2.2.1 x.2.1
      exact e.symm.trans h)
end impl_WithoutKeys
end
/-! ### loop.example/g01158/spec.l3Keys -/
section
namespace spec_l3Keys
noncomputable def code : Code := (Go.Proofs.Try.f173.body).getD .skip
abbrev shp : Shape := [(0, .agg [.int .i64, .row (.t3) false, .row (.int .i64) false]), (1, .one (.int .i64))]
abbrev outs : List KD := [.agg [.int .i64, .row (.t3) true, .row (.int .i64) true]]
abbrev R : Type := Int × (List (Int × Int × Int)) × (List (Int))
def out : R → denL outs := fun r => ((r.1, r.2.1, r.2.2, ()), ())
def into : denL outs → R := fun y => (y.1.1, y.1.2.1, y.1.2.2.1)
def cfg : Cfg := ⟨ty, 13, [], fun _ => .plain, fun _ => none⟩
def cal (n : Nat) : List (Nat × PFn) := [(116, spec_l2Own.pfn n)]
theorem cal_ok (n : Nat) : ∀ g, (pick (cal n) g).Ok Go.Proofs.Try.prog g := pick_ok (by
  intro p hp
  simp only [cal, List.mem_cons, List.not_mem_nil, or_false] at hp
  rcases hp with rfl
  · exact spec_l2Own.ok n)
def fin : St → Option R := finOf ty [.cell 4 27] outs into
def lam (n : Nat) : Nat → (St → Option R) → St → Option R := fun _ => fun _ _ => none
theorem loops (n : Nat) : LoopsOk cfg (pick (cal n)) (lam n) fin (loopsOf cfg.blk code) := by
  have h : loopsOf cfg.blk code = [] := by kernel_rfl
  rw [h]
  intro p hp
  cases hp
theorem F_eq (n : Nat) (x0 : Int) (x1 : List (Int × Int × Int)) (x2 : List (Int)) (x3 : Int) : spec_l3Keys.F n x0 x1 x2 x3 = exK cfg (pick (cal n)) (lam n) fin code (fun _ _ => none) (mkSt shp ((x0, x1, x2, ()), x3, ())) fin := by
  kernel_rfl
def pfn (n : Nat) : PFn := mkFn shp outs (fun x => spec_l3Keys.F n x.1.1 x.1.2.1 x.1.2.2.1 x.2.1) out
theorem ok (n : Nat) : (pfn n).Ok Go.Proofs.Try.prog 173 :=
  mkFn_ok (fn := Go.Proofs.Try.f173) (code := code) Go.Proofs.Try.func173 (by kernel_rfl) (by decide) (C := cfg) (Φ := pick (cal n)) (Λ := lam n) (into := into) hT (cal_ok n) (by kernel_rfl) rfl (by decide) rfl (fun _ => rfl) (loops n)
    (fun x r h => by
      have e := F_eq n x.1.1 x.1.2.1 x.1.2.2.1 x.2.1
      exact e.symm.trans h)
end spec_l3Keys
end
/-! ### loop.example/g01158/spec.WithoutKeys -/
section
namespace spec_WithoutKeys
noncomputable def code : Code := (Go.Proofs.Try.f83.body).getD .skip
abbrev shp : Shape := [(0, .agg [.int .i64, .row (.t3) false, .row (.int .i64) false]), (1, .one (.int .i64))]
abbrev outs : List KD := [.agg [.int .i64, .row (.t3) true, .row (.int .i64) true], .one (.bool)]
abbrev R : Type := Int × (List (Int × Int × Int)) × (List (Int)) × Bool
def out : R → denL outs := fun r => ((r.1, r.2.1, r.2.2.1, ()), r.2.2.2, ())
def into : denL outs → R := fun y => (y.1.1, y.1.2.1, y.1.2.2.1, y.2.1)
def cfg : Cfg := ⟨ty, 14, [], fun _ => .plain, fun _ => none⟩
def cal (n : Nat) : List (Nat × PFn) := [(115, spec_l2Node.pfn n), (173, spec_l3Keys.pfn n)]
theorem cal_ok (n : Nat) : ∀ g, (pick (cal n) g).Ok Go.Proofs.Try.prog g := pick_ok (by
  intro p hp
  simp only [cal, List.mem_cons, List.not_mem_nil, or_false] at hp
  rcases hp with rfl | rfl
  · exact spec_l2Node.ok n
  · exact spec_l3Keys.ok n)
def fin : St → Option R := finOf ty [.cell 4 27, .tmp 5] outs into
def lam (n : Nat) : Nat → (St → Option R) → St → Option R := fun _ => fun _ _ => none
theorem loops (n : Nat) : LoopsOk cfg (pick (cal n)) (lam n) fin (loopsOf cfg.blk code) := by
  have h : loopsOf cfg.blk code = [] := by kernel_rfl
  rw [h]
  intro p hp
  cases hp
theorem F_eq (n : Nat) (x0 : Int) (x1 : List (Int × Int × Int)) (x2 : List (Int)) (x3 : Int) : spec_WithoutKeys.F n x0 x1 x2 x3 = exK cfg (pick (cal n)) (lam n) fin code (fun _ _ => none) (mkSt shp ((x0, x1, x2, ()), x3, ())) fin := by
  kernel_rfl
def pfn (n : Nat) : PFn := mkFn shp outs (fun x => spec_WithoutKeys.F n x.1.1 x.1.2.1 x.1.2.2.1 x.2.1) out
theorem ok (n : Nat) : (pfn n).Ok Go.Proofs.Try.prog 83 :=
  mkFn_ok (fn := Go.Proofs.Try.f83) (code := code) Go.Proofs.Try.func83 (by kernel_rfl) (by decide) (C := cfg) (Φ := pick (cal n)) (Λ := lam n) (into := into) hT (cal_ok n) (by kernel_rfl) rfl (by decide) rfl (fun _ => rfl) (loops n)
    (fun x r h => by
      have e := F_eq n x.1.1 x.1.2.1 x.1.2.2.1 x.2.1
      exact e.symm.trans h)
end spec_WithoutKeys
end
/-! ### loop.example/g01158/laws.vCut -/
section
namespace laws_vCut
noncomputable def code : Code := (Go.Proofs.Try.f85.body).getD .skip
abbrev shp : Shape := [(0, .one (.row (.int .u8) false)), (1, .one (.int .i64))]
abbrev outs : List KD := [.one (.row (.int .u8) true)]
abbrev R : Type := (List (Int))
def out : R → denL outs := fun r => (r, ())
def into : denL outs → R := fun y => y.1
def cfg : Cfg := ⟨ty, 20, [], fun _ => .plain, fun _ => none⟩
def cal (n : Nat) : List (Nat × PFn) := []
theorem cal_ok (n : Nat) : ∀ g, (pick (cal n) g).Ok Go.Proofs.Try.prog g := pick_ok (by
  intro p hp
  cases hp)
def fin : St → Option R := finOf ty [.tmp 4] outs into
def lam (n : Nat) : Nat → (St → Option R) → St → Option R := fun _ => fun _ _ => none
theorem loops (n : Nat) : LoopsOk cfg (pick (cal n)) (lam n) fin (loopsOf cfg.blk code) := by
  have h : loopsOf cfg.blk code = [] := by kernel_rfl
  rw [h]
  intro p hp
  cases hp
theorem F_eq (n : Nat) (x0 : List (Int)) (x1 : Int) : laws_vCut.F n x0 x1 = exK cfg (pick (cal n)) (lam n) fin code (fun _ _ => none) (mkSt shp (x0, x1, ())) fin := by
  kernel_rfl
def pfn (n : Nat) : PFn := mkFn shp outs (fun x => laws_vCut.F n x.1 x.2.1) out
theorem ok (n : Nat) : (pfn n).Ok Go.Proofs.Try.prog 85 :=
  mkFn_ok (fn := Go.Proofs.Try.f85) (code := code) Go.Proofs.Try.func85 (by kernel_rfl) (by decide) (C := cfg) (Φ := pick (cal n)) (Λ := lam n) (into := into) hT (cal_ok n) (by kernel_rfl) rfl (by decide) rfl (fun _ => rfl) (loops n)
    (fun x r h => by
      have e := F_eq n x.1 x.2.1
      exact e.symm.trans h)
end laws_vCut
end
/-! ### loop.example/g01158/spec.DrawWithoutColour -/
section
namespace spec_DrawWithoutColour
noncomputable def code : Code := (Go.Proofs.Try.f84.body).getD .skip
abbrev shp : Shape := [(0, .one (.row (.int .u8) false))]
abbrev outs : List KD := [.agg [.int .i64, .row (.t3) true, .row (.int .i64) true], .one (.int .i64)]
abbrev R : Type := Int × (List (Int × Int × Int)) × (List (Int)) × Int
def out : R → denL outs := fun r => ((r.1, r.2.1, r.2.2.1, ()), r.2.2.2, ())
def into : denL outs → R := fun y => (y.1.1, y.1.2.1, y.1.2.2.1, y.2.1)
def cfg : Cfg := ⟨ty, 18, [], fun _ => .plain, fun _ => none⟩
def cal (n : Nat) : List (Nat × PFn) := [(126, spec_l1Cur_maze.pfn n), (129, spec_l1Cur_pick.pfn n), (136, spec_l1Cur_among.pfn n)]
theorem cal_ok (n : Nat) : ∀ g, (pick (cal n) g).Ok Go.Proofs.Try.prog g := pick_ok (by
  intro p hp
  simp only [cal, List.mem_cons, List.not_mem_nil, or_false] at hp
  rcases hp with rfl | rfl | rfl
  · exact spec_l1Cur_maze.ok n
  · exact spec_l1Cur_pick.ok n
  · exact spec_l1Cur_among.ok n)
def fin : St → Option R := finOf ty [.cell 2 27, .tmp 3] outs into
def lam (n : Nat) : Nat → (St → Option R) → St → Option R := fun _ => fun _ _ => none
theorem loops (n : Nat) : LoopsOk cfg (pick (cal n)) (lam n) fin (loopsOf cfg.blk code) := by
  have h : loopsOf cfg.blk code = [] := by kernel_rfl
  rw [h]
  intro p hp
  cases hp
theorem F_eq (n : Nat) (x0 : List (Int)) : spec_DrawWithoutColour.F n x0 = exK cfg (pick (cal n)) (lam n) fin code (fun _ _ => none) (mkSt shp (x0, ())) fin := by
  kernel_rfl
def pfn (n : Nat) : PFn := mkFn shp outs (fun x => spec_DrawWithoutColour.F n x.1) out
theorem ok (n : Nat) : (pfn n).Ok Go.Proofs.Try.prog 84 :=
  mkFn_ok (fn := Go.Proofs.Try.f84) (code := code) Go.Proofs.Try.func84 (by kernel_rfl) (by decide) (C := cfg) (Φ := pick (cal n)) (Λ := lam n) (into := into) hT (cal_ok n) (by kernel_rfl) rfl (by decide) rfl (fun _ => rfl) (loops n)
    (fun x r h => by
      have e := F_eq n x.1
      exact e.symm.trans h)
end spec_DrawWithoutColour
end
/-! ### loop.example/g01158/impl.withoutColour -/
section
namespace impl_withoutColour
noncomputable def code : Code := (Go.Proofs.Try.f174.body).getD .skip
abbrev shp : Shape := [(0, .agg [.int .i64, .row (.t3) false, .row (.int .i64) false]), (1, .one (.int .i64))]
abbrev outs : List KD := [.agg [.int .i64, .row (.t3) true, .row (.int .i64) true]]
abbrev R : Type := Int × (List (Int × Int × Int)) × (List (Int))
def out : R → denL outs := fun r => ((r.1, r.2.1, r.2.2, ()), ())
def into : denL outs → R := fun y => (y.1.1, y.1.2.1, y.1.2.2.1)
def cfg : Cfg := ⟨ty, 26, [], fun i => match Nat.beq i 0 with | true => .loop | false => .plain, fun _ => none⟩
def cal (n : Nat) : List (Nat × PFn) := [(120, impl_own.pfn n)]
theorem cal_ok (n : Nat) : ∀ g, (pick (cal n) g).Ok Go.Proofs.Try.prog g := pick_ok (by
  intro p hp
  simp only [cal, List.mem_cons, List.not_mem_nil, or_false] at hp
  rcases hp with rfl
  · exact impl_own.ok n)
def fin : St → Option R := finOf ty [.cell 4 27] outs into
abbrev sin0 : Shape := [(1, .one (.int .i64)), (4, .box true [.int .i64, .row (.t3) true, .row (.int .i64) true]), (5, .box true [.int .i64, .row (.t3) true, .row (.int .i64) true]), (11, .one (.int .i64)), (12, .one (.int .i64))]
abbrev sout0 : Shape := [(4, .box true [.int .i64, .row (.t3) true, .row (.int .i64) true]), (5, .box true [.int .i64, .row (.t3) true, .row (.int .i64) true])]
def lam (n : Nat) : Nat → (St → Option R) → St → Option R := fun i => match Nat.beq i 0 with | true => (fun K st => match absSt sin0 st with | some (x, _) => impl_withoutColour.l0 n (fun y0 y1 y2 y3 y4 y5 => K (mkSt sout0 ((y0, y1, y2, ()), (y3, y4, y5, ()), ()))) n x.1 x.2.1.1 x.2.1.2.1 x.2.1.2.2.1 x.2.2.1.1 x.2.2.1.2.1 x.2.2.1.2.2.1 x.2.2.2.1 x.2.2.2.2.1 | none => none) | false => fun _ _ => none
noncomputable def lps : List (Nat × Code) := loopsOf cfg.blk code
noncomputable def b0 : Code := bodyOf lps 0
theorem l0_eq (n : Nat) (K : St → Option R) : ∀ (j : Nat) (x0 : Int) (x1 : Int) (x2 : List (Int × Int × Int)) (x3 : List (Int)) (x4 : Int) (x5 : List (Int × Int × Int)) (x6 : List (Int)) (x7 : Int) (x8 : Int), impl_withoutColour.l0 n (fun y0 y1 y2 y3 y4 y5 => K (mkSt sout0 ((y0, y1, y2, ()), (y3, y4, y5, ()), ()))) j x0 x1 x2 x3 x4 x5 x6 x7 x8 = iter (roundK cfg (pick (cal n)) (lam n) fin 0 b0 sin0 sout0 K) j (mkSt sin0 (x0, (x1, x2, x3, ()), (x4, x5, x6, ()), x7, x8, ()))
  | 0, _, _, _, _, _, _, _, _, _ => rfl
  | j + 1, x0, x1, x2, x3, x4, x5, x6, x7, x8 => by
    have ih : impl_withoutColour.l0 n (fun y0 y1 y2 y3 y4 y5 => K (mkSt sout0 ((y0, y1, y2, ()), (y3, y4, y5, ()), ()))) j = fun x0 x1 x2 x3 x4 x5 x6 x7 x8 => iter (roundK cfg (pick (cal n)) (lam n) fin 0 b0 sin0 sout0 K) j (mkSt sin0 (x0, (x1, x2, x3, ()), (x4, x5, x6, ()), x7, x8, ())) := funext fun x0 => funext fun x1 => funext fun x2 => funext fun x3 => funext fun x4 => funext fun x5 => funext fun x6 => funext fun x7 => funext fun x8 => l0_eq n K j x0 x1 x2 x3 x4 x5 x6 x7 x8
    rw [impl_withoutColour.l0, ih]
    show _ = roundK cfg (pick (cal n)) (lam n) fin 0 b0 sin0 sout0 K (iter (roundK cfg (pick (cal n)) (lam n) fin 0 b0 sin0 sout0 K) j) (mkSt sin0 (x0, (x1, x2, x3, ()), (x4, x5, x6, ()), x7, x8, ()))
    kernel_rfl
theorem loops (n : Nat) : LoopsOk cfg (pick (cal n)) (lam n) fin (loopsOf cfg.blk code) := by
  have h : loopsOf cfg.blk code = [(0, b0)] := by kernel_rfl
  rw [h]
  intro p hp K st r hr
  simp only [List.mem_cons, List.not_mem_nil, or_false] at hp
  rcases hp with rfl
  · have hr' : (match absSt sin0 st with | some (x, _) => impl_withoutColour.l0 n (fun y0 y1 y2 y3 y4 y5 => K (mkSt sout0 ((y0, y1, y2, ()), (y3, y4, y5, ()), ()))) n x.1 x.2.1.1 x.2.1.2.1 x.2.1.2.2.1 x.2.2.1.1 x.2.2.1.2.1 x.2.2.1.2.2.1 x.2.2.2.1 x.2.2.2.2.1 | none => none) = some r := hr
    split at hr'
    · rename_i x es hx
      rw [l0_eq] at hr'
      exact ⟨sin0, sout0, n, x, es, hx, hr'⟩
    · cases hr'
theorem F_eq (n : Nat) (x0 : Int) (x1 : List (Int × Int × Int)) (x2 : List (Int)) (x3 : Int) : impl_withoutColour.F n x0 x1 x2 x3 = exK cfg (pick (cal n)) (lam n) fin code (fun _ _ => none) (mkSt shp ((x0, x1, x2, ()), x3, ())) fin := by
  kernel_rfl
def pfn (n : Nat) : PFn := mkFn shp outs (fun x => impl_withoutColour.F n x.1.1 x.1.2.1 x.1.2.2.1 x.2.1) out
theorem ok (n : Nat) : (pfn n).Ok Go.Proofs.Try.prog 174 :=
  mkFn_ok (fn := Go.Proofs.Try.f174) (code := code) Go.Proofs.Try.func174 (by kernel_rfl) (by decide) (C := cfg) (Φ := pick (cal n)) (Λ := lam n) (into := into) hT (cal_ok n) (by kernel_rfl) rfl (by decide) rfl (fun _ => rfl) (loops n)
    (fun x r h => by
      have e := F_eq n x.1.1 x.1.2.1 x.1.2.2.1 x.2.1
      exact e.symm.trans h)
end impl_withoutColour
end
/-! ### loop.example/g01158/impl.WithoutColour -/
section
namespace impl_WithoutColour
noncomputable def code : Code := (Go.Proofs.Try.f86.body).getD .skip
abbrev shp : Shape := [(0, .agg [.int .i64, .row (.t3) false, .row (.int .i64) false]), (1, .one (.int .i64))]
abbrev outs : List KD := [.agg [.int .i64, .row (.t3) true, .row (.int .i64) true], .one (.bool)]
abbrev R : Type := Int × (List (Int × Int × Int)) × (List (Int)) × Bool
def out : R → denL outs := fun r => ((r.1, r.2.1, r.2.2.1, ()), r.2.2.2, ())
def into : denL outs → R := fun y => (y.1.1, y.1.2.1, y.1.2.2.1, y.2.1)
def cfg : Cfg := ⟨ty, 18, [], fun _ => .plain, fun _ => none⟩
def cal (n : Nat) : List (Nat × PFn) := [(52, impl_IsMaze.pfn n), (130, impl_within.pfn n), (174, impl_withoutColour.pfn n)]
theorem cal_ok (n : Nat) : ∀ g, (pick (cal n) g).Ok Go.Proofs.Try.prog g := pick_ok (by
  intro p hp
  simp only [cal, List.mem_cons, List.not_mem_nil, or_false] at hp
  rcases hp with rfl | rfl | rfl
  · exact impl_IsMaze.ok n
  · exact impl_within.ok n
  · exact impl_withoutColour.ok n)
def fin : St → Option R := finOf ty [.cell 4 27, .tmp 5] outs into
def lam (n : Nat) : Nat → (St → Option R) → St → Option R := fun _ => fun _ _ => none
theorem loops (n : Nat) : LoopsOk cfg (pick (cal n)) (lam n) fin (loopsOf cfg.blk code) := by
  have h : loopsOf cfg.blk code = [] := by kernel_rfl
  rw [h]
  intro p hp
  cases hp
theorem F_eq (n : Nat) (x0 : Int) (x1 : List (Int × Int × Int)) (x2 : List (Int)) (x3 : Int) : impl_WithoutColour.F n x0 x1 x2 x3 = exK cfg (pick (cal n)) (lam n) fin code (fun _ _ => none) (mkSt shp ((x0, x1, x2, ()), x3, ())) fin := by
  kernel_rfl
def pfn (n : Nat) : PFn := mkFn shp outs (fun x => impl_WithoutColour.F n x.1.1 x.1.2.1 x.1.2.2.1 x.2.1) out
theorem ok (n : Nat) : (pfn n).Ok Go.Proofs.Try.prog 86 :=
  mkFn_ok (fn := Go.Proofs.Try.f86) (code := code) Go.Proofs.Try.func86 (by kernel_rfl) (by decide) (C := cfg) (Φ := pick (cal n)) (Λ := lam n) (into := into) hT (cal_ok n) (by kernel_rfl) rfl (by decide) rfl (fun _ => rfl) (loops n)
    (fun x r h => by
      have e := F_eq n x.1.1 x.1.2.1 x.1.2.2.1 x.2.1
      exact e.symm.trans h)
end impl_WithoutColour
end
/-! ### loop.example/g01158/spec.l3Colour -/
section
namespace spec_l3Colour
noncomputable def code : Code := (Go.Proofs.Try.f175.body).getD .skip
abbrev shp : Shape := [(0, .agg [.int .i64, .row (.t3) false, .row (.int .i64) false]), (1, .one (.int .i64))]
abbrev outs : List KD := [.agg [.int .i64, .row (.t3) true, .row (.int .i64) true]]
abbrev R : Type := Int × (List (Int × Int × Int)) × (List (Int))
def out : R → denL outs := fun r => ((r.1, r.2.1, r.2.2, ()), ())
def into : denL outs → R := fun y => (y.1.1, y.1.2.1, y.1.2.2.1)
def cfg : Cfg := ⟨ty, 28, [], fun i => match Nat.beq i 0 with | true => .loop | false => .plain, fun _ => none⟩
def cal (n : Nat) : List (Nat × PFn) := [(116, spec_l2Own.pfn n)]
theorem cal_ok (n : Nat) : ∀ g, (pick (cal n) g).Ok Go.Proofs.Try.prog g := pick_ok (by
  intro p hp
  simp only [cal, List.mem_cons, List.not_mem_nil, or_false] at hp
  rcases hp with rfl
  · exact spec_l2Own.ok n)
def fin : St → Option R := finOf ty [.cell 4 27] outs into
abbrev sin0 : Shape := [(1, .one (.int .i64)), (2, .box true [.int .i64, .row (.t3) false, .row (.int .i64) false]), (4, .box true [.int .i64, .row (.t3) true, .row (.int .i64) true]), (5, .box true [.int .i64, .row (.t3) true, .row (.int .i64) true]), (6, .one (.int .i64))]
abbrev sout0 : Shape := [(4, .box true [.int .i64, .row (.t3) true, .row (.int .i64) true]), (5, .box true [.int .i64, .row (.t3) true, .row (.int .i64) true])]
def lam (n : Nat) : Nat → (St → Option R) → St → Option R := fun i => match Nat.beq i 0 with | true => (fun K st => match absSt sin0 st with | some (x, _) => spec_l3Colour.l0 n (fun y0 y1 y2 y3 y4 y5 => K (mkSt sout0 ((y0, y1, y2, ()), (y3, y4, y5, ()), ()))) n x.1 x.2.1.1 x.2.1.2.1 x.2.1.2.2.1 x.2.2.1.1 x.2.2.1.2.1 x.2.2.1.2.2.1 x.2.2.2.1.1 x.2.2.2.1.2.1 x.2.2.2.1.2.2.1 x.2.2.2.2.1 | none => none) | false => fun _ _ => none
noncomputable def lps : List (Nat × Code) := loopsOf cfg.blk code
noncomputable def b0 : Code := bodyOf lps 0
theorem l0_eq (n : Nat) (K : St → Option R) : ∀ (j : Nat) (x0 : Int) (x1 : Int) (x2 : List (Int × Int × Int)) (x3 : List (Int)) (x4 : Int) (x5 : List (Int × Int × Int)) (x6 : List (Int)) (x7 : Int) (x8 : List (Int × Int × Int)) (x9 : List (Int)) (x10 : Int), spec_l3Colour.l0 n (fun y0 y1 y2 y3 y4 y5 => K (mkSt sout0 ((y0, y1, y2, ()), (y3, y4, y5, ()), ()))) j x0 x1 x2 x3 x4 x5 x6 x7 x8 x9 x10 = iter (roundK cfg (pick (cal n)) (lam n) fin 0 b0 sin0 sout0 K) j (mkSt sin0 (x0, (x1, x2, x3, ()), (x4, x5, x6, ()), (x7, x8, x9, ()), x10, ()))
  | 0, _, _, _, _, _, _, _, _, _, _, _ => rfl
  | j + 1, x0, x1, x2, x3, x4, x5, x6, x7, x8, x9, x10 => by
    have ih : spec_l3Colour.l0 n (fun y0 y1 y2 y3 y4 y5 => K (mkSt sout0 ((y0, y1, y2, ()), (y3, y4, y5, ()), ()))) j = fun x0 x1 x2 x3 x4 x5 x6 x7 x8 x9 x10 => iter (roundK cfg (pick (cal n)) (lam n) fin 0 b0 sin0 sout0 K) j (mkSt sin0 (x0, (x1, x2, x3, ()), (x4, x5, x6, ()), (x7, x8, x9, ()), x10, ())) := funext fun x0 => funext fun x1 => funext fun x2 => funext fun x3 => funext fun x4 => funext fun x5 => funext fun x6 => funext fun x7 => funext fun x8 => funext fun x9 => funext fun x10 => l0_eq n K j x0 x1 x2 x3 x4 x5 x6 x7 x8 x9 x10
    rw [spec_l3Colour.l0, ih]
    show _ = roundK cfg (pick (cal n)) (lam n) fin 0 b0 sin0 sout0 K (iter (roundK cfg (pick (cal n)) (lam n) fin 0 b0 sin0 sout0 K) j) (mkSt sin0 (x0, (x1, x2, x3, ()), (x4, x5, x6, ()), (x7, x8, x9, ()), x10, ()))
    kernel_rfl
theorem loops (n : Nat) : LoopsOk cfg (pick (cal n)) (lam n) fin (loopsOf cfg.blk code) := by
  have h : loopsOf cfg.blk code = [(0, b0)] := by kernel_rfl
  rw [h]
  intro p hp K st r hr
  simp only [List.mem_cons, List.not_mem_nil, or_false] at hp
  rcases hp with rfl
  · have hr' : (match absSt sin0 st with | some (x, _) => spec_l3Colour.l0 n (fun y0 y1 y2 y3 y4 y5 => K (mkSt sout0 ((y0, y1, y2, ()), (y3, y4, y5, ()), ()))) n x.1 x.2.1.1 x.2.1.2.1 x.2.1.2.2.1 x.2.2.1.1 x.2.2.1.2.1 x.2.2.1.2.2.1 x.2.2.2.1.1 x.2.2.2.1.2.1 x.2.2.2.1.2.2.1 x.2.2.2.2.1 | none => none) = some r := hr
    split at hr'
    · rename_i x es hx
      rw [l0_eq] at hr'
      exact ⟨sin0, sout0, n, x, es, hx, hr'⟩
    · cases hr'
theorem F_eq (n : Nat) (x0 : Int) (x1 : List (Int × Int × Int)) (x2 : List (Int)) (x3 : Int) : spec_l3Colour.F n x0 x1 x2 x3 = exK cfg (pick (cal n)) (lam n) fin code (fun _ _ => none) (mkSt shp ((x0, x1, x2, ()), x3, ())) fin := by
  kernel_rfl
def pfn (n : Nat) : PFn := mkFn shp outs (fun x => spec_l3Colour.F n x.1.1 x.1.2.1 x.1.2.2.1 x.2.1) out
theorem ok (n : Nat) : (pfn n).Ok Go.Proofs.Try.prog 175 :=
  mkFn_ok (fn := Go.Proofs.Try.f175) (code := code) Go.Proofs.Try.func175 (by kernel_rfl) (by decide) (C := cfg) (Φ := pick (cal n)) (Λ := lam n) (into := into) hT (cal_ok n) (by kernel_rfl) rfl (by decide) rfl (fun _ => rfl) (loops n)
    (fun x r h => by
      have e := F_eq n x.1.1 x.1.2.1 x.1.2.2.1 x.2.1
      exact e.symm.trans h)
end spec_l3Colour
end
/-! ### loop.example/g01158/spec.WithoutColour -/
section
namespace spec_WithoutColour
noncomputable def code : Code := (Go.Proofs.Try.f87.body).getD .skip
abbrev shp : Shape := [(0, .agg [.int .i64, .row (.t3) false, .row (.int .i64) false]), (1, .one (.int .i64))]
abbrev outs : List KD := [.agg [.int .i64, .row (.t3) true, .row (.int .i64) true], .one (.bool)]
abbrev R : Type := Int × (List (Int × Int × Int)) × (List (Int)) × Bool
def out : R → denL outs := fun r => ((r.1, r.2.1, r.2.2.1, ()), r.2.2.2, ())
def into : denL outs → R := fun y => (y.1.1, y.1.2.1, y.1.2.2.1, y.2.1)
def cfg : Cfg := ⟨ty, 18, [], fun _ => .plain, fun _ => none⟩
def cal (n : Nat) : List (Nat × PFn) := [(94, spec_l2Maze.pfn n), (132, spec_l1In.pfn n), (175, spec_l3Colour.pfn n)]
theorem cal_ok (n : Nat) : ∀ g, (pick (cal n) g).Ok Go.Proofs.Try.prog g := pick_ok (by
  intro p hp
  simp only [cal, List.mem_cons, List.not_mem_nil, or_false] at hp
  rcases hp with rfl | rfl | rfl
  · exact spec_l2Maze.ok n
  · exact spec_l1In.ok n
  · exact spec_l3Colour.ok n)
def fin : St → Option R := finOf ty [.cell 4 27, .tmp 5] outs into
def lam (n : Nat) : Nat → (St → Option R) → St → Option R := fun _ => fun _ _ => none
theorem loops (n : Nat) : LoopsOk cfg (pick (cal n)) (lam n) fin (loopsOf cfg.blk code) := by
  have h : loopsOf cfg.blk code = [] := by kernel_rfl
  rw [h]
  intro p hp
  cases hp
theorem F_eq (n : Nat) (x0 : Int) (x1 : List (Int × Int × Int)) (x2 : List (Int)) (x3 : Int) : spec_WithoutColour.F n x0 x1 x2 x3 = exK cfg (pick (cal n)) (lam n) fin code (fun _ _ => none) (mkSt shp ((x0, x1, x2, ()), x3, ())) fin := by
  kernel_rfl
def pfn (n : Nat) : PFn := mkFn shp outs (fun x => spec_WithoutColour.F n x.1.1 x.1.2.1 x.1.2.2.1 x.2.1) out
theorem ok (n : Nat) : (pfn n).Ok Go.Proofs.Try.prog 87 :=
  mkFn_ok (fn := Go.Proofs.Try.f87) (code := code) Go.Proofs.Try.func87 (by kernel_rfl) (by decide) (C := cfg) (Φ := pick (cal n)) (Λ := lam n) (into := into) hT (cal_ok n) (by kernel_rfl) rfl (by decide) rfl (fun _ => rfl) (loops n)
    (fun x r h => by
      have e := F_eq n x.1.1 x.1.2.1 x.1.2.2.1 x.2.1
      exact e.symm.trans h)
end spec_WithoutColour
end
/-! ### loop.example/g01158/laws.vInts -/
section
namespace laws_vInts
noncomputable def code : Code := (Go.Proofs.Try.f176.body).getD .skip
abbrev shp : Shape := [(0, .one (.row (.int .i64) false)), (1, .one (.row (.int .i64) false))]
abbrev outs : List KD := [.one (.bool)]
abbrev R : Type := Bool
def out : R → denL outs := fun r => (r, ())
def into : denL outs → R := fun y => y.1
def cfg : Cfg := ⟨ty, 26, [], fun i => match Nat.beq i 0 with | true => .loop | false => .plain, fun _ => none⟩
def cal (n : Nat) : List (Nat × PFn) := []
theorem cal_ok (n : Nat) : ∀ g, (pick (cal n) g).Ok Go.Proofs.Try.prog g := pick_ok (by
  intro p hp
  cases hp)
def fin : St → Option R := finOf ty [.tmp 4] outs into
abbrev sin0 : Shape := [(0, .one (.row (.int .i64) false)), (1, .one (.row (.int .i64) false)), (5, .one (.int .i64))]
abbrev sout0 : Shape := []
def lam (n : Nat) : Nat → (St → Option R) → St → Option R := fun i => match Nat.beq i 0 with | true => (fun K st => match absSt sin0 st with | some (x, _) => laws_vInts.l0 n (fun _ => K (mkSt sout0 ())) n x.1 x.2.1 x.2.2.1 | none => none) | false => fun _ _ => none
noncomputable def lps : List (Nat × Code) := loopsOf cfg.blk code
noncomputable def b0 : Code := bodyOf lps 0
theorem l0_eq (n : Nat) (K : St → Option R) : ∀ (j : Nat) (x0 : List (Int)) (x1 : List (Int)) (x2 : Int), laws_vInts.l0 n (fun _ => K (mkSt sout0 ())) j x0 x1 x2 = iter (roundK cfg (pick (cal n)) (lam n) fin 0 b0 sin0 sout0 K) j (mkSt sin0 (x0, x1, x2, ()))
  | 0, _, _, _ => rfl
  | j + 1, x0, x1, x2 => by
    have ih : laws_vInts.l0 n (fun _ => K (mkSt sout0 ())) j = fun x0 x1 x2 => iter (roundK cfg (pick (cal n)) (lam n) fin 0 b0 sin0 sout0 K) j (mkSt sin0 (x0, x1, x2, ())) := funext fun x0 => funext fun x1 => funext fun x2 => l0_eq n K j x0 x1 x2
    rw [laws_vInts.l0, ih]
    show _ = roundK cfg (pick (cal n)) (lam n) fin 0 b0 sin0 sout0 K (iter (roundK cfg (pick (cal n)) (lam n) fin 0 b0 sin0 sout0 K) j) (mkSt sin0 (x0, x1, x2, ()))
    kernel_rfl
theorem loops (n : Nat) : LoopsOk cfg (pick (cal n)) (lam n) fin (loopsOf cfg.blk code) := by
  have h : loopsOf cfg.blk code = [(0, b0)] := by kernel_rfl
  rw [h]
  intro p hp K st r hr
  simp only [List.mem_cons, List.not_mem_nil, or_false] at hp
  rcases hp with rfl
  · have hr' : (match absSt sin0 st with | some (x, _) => laws_vInts.l0 n (fun _ => K (mkSt sout0 ())) n x.1 x.2.1 x.2.2.1 | none => none) = some r := hr
    split at hr'
    · rename_i x es hx
      rw [l0_eq] at hr'
      exact ⟨sin0, sout0, n, x, es, hx, hr'⟩
    · cases hr'
theorem F_eq (n : Nat) (x0 : List (Int)) (x1 : List (Int)) : laws_vInts.F n x0 x1 = exK cfg (pick (cal n)) (lam n) fin code (fun _ _ => none) (mkSt shp (x0, x1, ())) fin := by
  kernel_rfl
def pfn (n : Nat) : PFn := mkFn shp outs (fun x => laws_vInts.F n x.1 x.2.1) out
theorem ok (n : Nat) : (pfn n).Ok Go.Proofs.Try.prog 176 :=
  mkFn_ok (fn := Go.Proofs.Try.f176) (code := code) Go.Proofs.Try.func176 (by kernel_rfl) (by decide) (C := cfg) (Φ := pick (cal n)) (Λ := lam n) (into := into) hT (cal_ok n) (by kernel_rfl) rfl (by decide) rfl (fun _ => rfl) (loops n)
    (fun x r h => by
      have e := F_eq n x.1 x.2.1
      exact e.symm.trans h)
end laws_vInts
end
/-! ### loop.example/g01158/laws.vMaze -/
section
namespace laws_vMaze
noncomputable def code : Code := (Go.Proofs.Try.f88.body).getD .skip
abbrev shp : Shape := [(0, .agg [.int .i64, .row (.t3) false, .row (.int .i64) false]), (1, .agg [.int .i64, .row (.t3) false, .row (.int .i64) false])]
abbrev outs : List KD := [.one (.bool)]
abbrev R : Type := Bool
def out : R → denL outs := fun r => (r, ())
def into : denL outs → R := fun y => y.1
def cfg : Cfg := ⟨ty, 46, [], fun i => match Nat.beq i 0 with | true => .loop | false => .plain, fun _ => none⟩
def cal (n : Nat) : List (Nat × PFn) := [(176, laws_vInts.pfn n)]
theorem cal_ok (n : Nat) : ∀ g, (pick (cal n) g).Ok Go.Proofs.Try.prog g := pick_ok (by
  intro p hp
  simp only [cal, List.mem_cons, List.not_mem_nil, or_false] at hp
  rcases hp with rfl
  · exact laws_vInts.ok n)
def fin : St → Option R := finOf ty [.tmp 4] outs into
abbrev sin0 : Shape := [(2, .box true [.int .i64, .row (.t3) false, .row (.int .i64) false]), (3, .box true [.int .i64, .row (.t3) false, .row (.int .i64) false]), (5, .one (.int .i64))]
abbrev sout0 : Shape := []
def lam (n : Nat) : Nat → (St → Option R) → St → Option R := fun i => match Nat.beq i 0 with | true => (fun K st => match absSt sin0 st with | some (x, _) => laws_vMaze.l0 n (fun _ => K (mkSt sout0 ())) n x.1.1 x.1.2.1 x.1.2.2.1 x.2.1.1 x.2.1.2.1 x.2.1.2.2.1 x.2.2.1 | none => none) | false => fun _ _ => none
noncomputable def lps : List (Nat × Code) := loopsOf cfg.blk code
noncomputable def b0 : Code := bodyOf lps 0
theorem l0_eq (n : Nat) (K : St → Option R) : ∀ (j : Nat) (x0 : Int) (x1 : List (Int × Int × Int)) (x2 : List (Int)) (x3 : Int) (x4 : List (Int × Int × Int)) (x5 : List (Int)) (x6 : Int), laws_vMaze.l0 n (fun _ => K (mkSt sout0 ())) j x0 x1 x2 x3 x4 x5 x6 = iter (roundK cfg (pick (cal n)) (lam n) fin 0 b0 sin0 sout0 K) j (mkSt sin0 ((x0, x1, x2, ()), (x3, x4, x5, ()), x6, ()))
  | 0, _, _, _, _, _, _, _ => rfl
  | j + 1, x0, x1, x2, x3, x4, x5, x6 => by
    have ih : laws_vMaze.l0 n (fun _ => K (mkSt sout0 ())) j = fun x0 x1 x2 x3 x4 x5 x6 => iter (roundK cfg (pick (cal n)) (lam n) fin 0 b0 sin0 sout0 K) j (mkSt sin0 ((x0, x1, x2, ()), (x3, x4, x5, ()), x6, ())) := funext fun x0 => funext fun x1 => funext fun x2 => funext fun x3 => funext fun x4 => funext fun x5 => funext fun x6 => l0_eq n K j x0 x1 x2 x3 x4 x5 x6
    rw [laws_vMaze.l0, ih]
    show _ = roundK cfg (pick (cal n)) (lam n) fin 0 b0 sin0 sout0 K (iter (roundK cfg (pick (cal n)) (lam n) fin 0 b0 sin0 sout0 K) j) (mkSt sin0 ((x0, x1, x2, ()), (x3, x4, x5, ()), x6, ()))
    kernel_rfl
theorem loops (n : Nat) : LoopsOk cfg (pick (cal n)) (lam n) fin (loopsOf cfg.blk code) := by
  have h : loopsOf cfg.blk code = [(0, b0)] := by kernel_rfl
  rw [h]
  intro p hp K st r hr
  simp only [List.mem_cons, List.not_mem_nil, or_false] at hp
  rcases hp with rfl
  · have hr' : (match absSt sin0 st with | some (x, _) => laws_vMaze.l0 n (fun _ => K (mkSt sout0 ())) n x.1.1 x.1.2.1 x.1.2.2.1 x.2.1.1 x.2.1.2.1 x.2.1.2.2.1 x.2.2.1 | none => none) = some r := hr
    split at hr'
    · rename_i x es hx
      rw [l0_eq] at hr'
      exact ⟨sin0, sout0, n, x, es, hx, hr'⟩
    · cases hr'
theorem F_eq (n : Nat) (x0 : Int) (x1 : List (Int × Int × Int)) (x2 : List (Int)) (x3 : Int) (x4 : List (Int × Int × Int)) (x5 : List (Int)) : laws_vMaze.F n x0 x1 x2 x3 x4 x5 = exK cfg (pick (cal n)) (lam n) fin code (fun _ _ => none) (mkSt shp ((x0, x1, x2, ()), (x3, x4, x5, ()), ())) fin := by
  kernel_rfl
def pfn (n : Nat) : PFn := mkFn shp outs (fun x => laws_vMaze.F n x.1.1 x.1.2.1 x.1.2.2.1 x.2.1.1 x.2.1.2.1 x.2.1.2.2.1) out
theorem ok (n : Nat) : (pfn n).Ok Go.Proofs.Try.prog 88 :=
  mkFn_ok (fn := Go.Proofs.Try.f88) (code := code) Go.Proofs.Try.func88 (by kernel_rfl) (by decide) (C := cfg) (Φ := pick (cal n)) (Λ := lam n) (into := into) hT (cal_ok n) (by kernel_rfl) rfl (by decide) rfl (fun _ => rfl) (loops n)
    (fun x r h => by
      have e := F_eq n x.1.1 x.1.2.1 x.1.2.2.1 x.2.1.1 x.2.1.2.1 x.2.1.2.2.1
      exact e.symm.trans h)
end laws_vMaze
end
/-! ### loop.example/g01158/impl.asked -/
section
namespace impl_asked
noncomputable def code : Code := (Go.Proofs.Try.f158.body).getD .skip
abbrev shp : Shape := [(0, .agg [.int .i64, .row (.t3) false, .row (.int .i64) false]), (1, .one (.int .i64))]
abbrev outs : List KD := [.one (.bool)]
abbrev R : Type := Bool
def out : R → denL outs := fun r => (r, ())
def into : denL outs → R := fun y => y.1
def cfg : Cfg := ⟨ty, 11, [], fun _ => .plain, fun _ => none⟩
def cal (n : Nat) : List (Nat × PFn) := [(52, impl_IsMaze.pfn n), (109, impl_isSet.pfn n)]
theorem cal_ok (n : Nat) : ∀ g, (pick (cal n) g).Ok Go.Proofs.Try.prog g := pick_ok (by
  intro p hp
  simp only [cal, List.mem_cons, List.not_mem_nil, or_false] at hp
  rcases hp with rfl | rfl
  · exact impl_IsMaze.ok n
  · exact impl_isSet.ok n)
def fin : St → Option R := finOf ty [.tmp 4] outs into
def lam (n : Nat) : Nat → (St → Option R) → St → Option R := fun _ => fun _ _ => none
theorem loops (n : Nat) : LoopsOk cfg (pick (cal n)) (lam n) fin (loopsOf cfg.blk code) := by
  have h : loopsOf cfg.blk code = [] := by kernel_rfl
  rw [h]
  intro p hp
  cases hp
theorem F_eq (n : Nat) (x0 : Int) (x1 : List (Int × Int × Int)) (x2 : List (Int)) (x3 : Int) : impl_asked.F n x0 x1 x2 x3 = exK cfg (pick (cal n)) (lam n) fin code (fun _ _ => none) (mkSt shp ((x0, x1, x2, ()), x3, ())) fin := by
  kernel_rfl
def pfn (n : Nat) : PFn := mkFn shp outs (fun x => impl_asked.F n x.1.1 x.1.2.1 x.1.2.2.1 x.2.1) out
theorem ok (n : Nat) : (pfn n).Ok Go.Proofs.Try.prog 158 :=
  mkFn_ok (fn := Go.Proofs.Try.f158) (code := code) Go.Proofs.Try.func158 (by kernel_rfl) (by decide) (C := cfg) (Φ := pick (cal n)) (Λ := lam n) (into := into) hT (cal_ok n) (by kernel_rfl) rfl (by decide) rfl (fun _ => rfl) (loops n)
    (fun x r h => by
      have e := F_eq n x.1.1 x.1.2.1 x.1.2.2.1 x.2.1
      exact e.symm.trans h)
end impl_asked
end
/-! ### loop.example/g01158/impl.has -/
section
namespace impl_has
noncomputable def code : Code := (Go.Proofs.Try.f162.body).getD .skip
abbrev shp : Shape := [(0, .one (.int .i64)), (1, .one (.int .i64))]
abbrev outs : List KD := [.one (.bool)]
abbrev R : Type := Bool
def out : R → denL outs := fun r => (r, ())
def into : denL outs → R := fun y => y.1
def cfg : Cfg := ⟨ty, 9, [], fun _ => .plain, fun _ => none⟩
def cal (n : Nat) : List (Nat × PFn) := []
theorem cal_ok (n : Nat) : ∀ g, (pick (cal n) g).Ok Go.Proofs.Try.prog g := pick_ok (by
  intro p hp
  cases hp)
def fin : St → Option R := finOf ty [.tmp 4] outs into
def lam (n : Nat) : Nat → (St → Option R) → St → Option R := fun _ => fun _ _ => none
theorem loops (n : Nat) : LoopsOk cfg (pick (cal n)) (lam n) fin (loopsOf cfg.blk code) := by
  have h : loopsOf cfg.blk code = [] := by kernel_rfl
  rw [h]
  intro p hp
  cases hp
theorem F_eq (n : Nat) (x0 : Int) (x1 : Int) : impl_has.F n x0 x1 = exK cfg (pick (cal n)) (lam n) fin code (fun _ _ => none) (mkSt shp (x0, x1, ())) fin := by
  kernel_rfl
def pfn (n : Nat) : PFn := mkFn shp outs (fun x => impl_has.F n x.1 x.2.1) out
theorem ok (n : Nat) : (pfn n).Ok Go.Proofs.Try.prog 162 :=
  mkFn_ok (fn := Go.Proofs.Try.f162) (code := code) Go.Proofs.Try.func162 (by kernel_rfl) (by decide) (C := cfg) (Φ := pick (cal n)) (Λ := lam n) (into := into) hT (cal_ok n) (by kernel_rfl) rfl (by decide) rfl (fun _ => rfl) (loops n)
    (fun x r h => by
      have e := F_eq n x.1 x.2.1
      exact e.symm.trans h)
end impl_has
end
/-! ### loop.example/g01158/impl.steps -/
section
namespace impl_steps
noncomputable def code : Code := (Go.Proofs.Try.f165.body).getD .skip
abbrev shp : Shape := [(0, .agg [.int .i64, .row (.t3) false, .row (.int .i64) false]), (1, .one (.int .i64)), (2, .one (.int .i64))]
abbrev outs : List KD := [.one (.int .i64)]
abbrev R : Type := Int
def out : R → denL outs := fun r => (r, ())
def into : denL outs → R := fun y => y.1
def cfg : Cfg := ⟨ty, 42, [], fun i => match Nat.beq i 0 with | true => .loop | false => .plain, fun _ => none⟩
def cal (n : Nat) : List (Nat × PFn) := [(162, impl_has.pfn n)]
theorem cal_ok (n : Nat) : ∀ g, (pick (cal n) g).Ok Go.Proofs.Try.prog g := pick_ok (by
  intro p hp
  simp only [cal, List.mem_cons, List.not_mem_nil, or_false] at hp
  rcases hp with rfl
  · exact impl_has.ok n)
def fin : St → Option R := finOf ty [.tmp 6] outs into
abbrev sin0 : Shape := [(1, .one (.int .i64)), (2, .one (.int .i64)), (7, .one (.int .i64)), (11, .one (.row (.t3) false)), (12, .one (.int .i64)), (13, .one (.int .i64))]
abbrev sout0 : Shape := [(7, .one (.int .i64))]
def lam (n : Nat) : Nat → (St → Option R) → St → Option R := fun i => match Nat.beq i 0 with | true => (fun K st => match absSt sin0 st with | some (x, _) => impl_steps.l0 n (fun y0 => K (mkSt sout0 (y0, ()))) n x.1 x.2.1 x.2.2.1 x.2.2.2.1 x.2.2.2.2.1 x.2.2.2.2.2.1 | none => none) | false => fun _ _ => none
noncomputable def lps : List (Nat × Code) := loopsOf cfg.blk code
noncomputable def b0 : Code := bodyOf lps 0
theorem l0_eq (n : Nat) (K : St → Option R) : ∀ (j : Nat) (x0 : Int) (x1 : Int) (x2 : Int) (x3 : List (Int × Int × Int)) (x4 : Int) (x5 : Int), impl_steps.l0 n (fun y0 => K (mkSt sout0 (y0, ()))) j x0 x1 x2 x3 x4 x5 = iter (roundK cfg (pick (cal n)) (lam n) fin 0 b0 sin0 sout0 K) j (mkSt sin0 (x0, x1, x2, x3, x4, x5, ()))
  | 0, _, _, _, _, _, _ => rfl
  | j + 1, x0, x1, x2, x3, x4, x5 => by
    have ih : impl_steps.l0 n (fun y0 => K (mkSt sout0 (y0, ()))) j = fun x0 x1 x2 x3 x4 x5 => iter (roundK cfg (pick (cal n)) (lam n) fin 0 b0 sin0 sout0 K) j (mkSt sin0 (x0, x1, x2, x3, x4, x5, ())) := funext fun x0 => funext fun x1 => funext fun x2 => funext fun x3 => funext fun x4 => funext fun x5 => l0_eq n K j x0 x1 x2 x3 x4 x5
    rw [impl_steps.l0, ih]
    show _ = roundK cfg (pick (cal n)) (lam n) fin 0 b0 sin0 sout0 K (iter (roundK cfg (pick (cal n)) (lam n) fin 0 b0 sin0 sout0 K) j) (mkSt sin0 (x0, x1, x2, x3, x4, x5, ()))
    kernel_rfl
theorem loops (n : Nat) : LoopsOk cfg (pick (cal n)) (lam n) fin (loopsOf cfg.blk code) := by
  have h : loopsOf cfg.blk code = [(0, b0)] := by kernel_rfl
  rw [h]
  intro p hp K st r hr
  simp only [List.mem_cons, List.not_mem_nil, or_false] at hp
  rcases hp with rfl
  · have hr' : (match absSt sin0 st with | some (x, _) => impl_steps.l0 n (fun y0 => K (mkSt sout0 (y0, ()))) n x.1 x.2.1 x.2.2.1 x.2.2.2.1 x.2.2.2.2.1 x.2.2.2.2.2.1 | none => none) = some r := hr
    split at hr'
    · rename_i x es hx
      rw [l0_eq] at hr'
      exact ⟨sin0, sout0, n, x, es, hx, hr'⟩
    · cases hr'
theorem F_eq (n : Nat) (x0 : Int) (x1 : List (Int × Int × Int)) (x2 : List (Int)) (x3 : Int) (x4 : Int) : impl_steps.F n x0 x1 x2 x3 x4 = exK cfg (pick (cal n)) (lam n) fin code (fun _ _ => none) (mkSt shp ((x0, x1, x2, ()), x3, x4, ())) fin := by
  kernel_rfl
def pfn (n : Nat) : PFn := mkFn shp outs (fun x => impl_steps.F n x.1.1 x.1.2.1 x.1.2.2.1 x.2.1 x.2.2.1) out
theorem ok (n : Nat) : (pfn n).Ok Go.Proofs.Try.prog 165 :=
  mkFn_ok (fn := Go.Proofs.Try.f165) (code := code) Go.Proofs.Try.func165 (by kernel_rfl) (by decide) (C := cfg) (Φ := pick (cal n)) (Λ := lam n) (into := into) hT (cal_ok n) (by kernel_rfl) rfl (by decide) rfl (fun _ => rfl) (loops n)
    (fun x r h => by
      have e := F_eq n x.1.1 x.1.2.1 x.1.2.2.1 x.2.1 x.2.2.1
      exact e.symm.trans h)
end impl_steps
end
/-! ### loop.example/g01158/impl.members -/
section
namespace impl_members
noncomputable def code : Code := (Go.Proofs.Try.f102.body).getD .skip
abbrev shp : Shape := [(0, .one (.int .i64))]
abbrev outs : List KD := [.one (.row (.int .i64) true)]
abbrev R : Type := (List (Int))
def out : R → denL outs := fun r => (r, ())
def into : denL outs → R := fun y => y.1
def cfg : Cfg := ⟨ty, 22, [], fun i => match Nat.beq i 0 with | true => .loop | false => .plain, fun _ => none⟩
def cal (n : Nat) : List (Nat × PFn) := []
theorem cal_ok (n : Nat) : ∀ g, (pick (cal n) g).Ok Go.Proofs.Try.prog g := pick_ok (by
  intro p hp
  cases hp)
def fin : St → Option R := finOf ty [.tmp 2] outs into
abbrev sin0 : Shape := [(0, .one (.int .i64)), (3, .one (.row (.int .i64) true)), (4, .one (.int .i64))]
abbrev sout0 : Shape := [(3, .one (.row (.int .i64) true))]
def lam (n : Nat) : Nat → (St → Option R) → St → Option R := fun i => match Nat.beq i 0 with | true => (fun K st => match absSt sin0 st with | some (x, _) => impl_members.l0 n (fun y0 => K (mkSt sout0 (y0, ()))) n x.1 x.2.1 x.2.2.1 | none => none) | false => fun _ _ => none
noncomputable def lps : List (Nat × Code) := loopsOf cfg.blk code
noncomputable def b0 : Code := bodyOf lps 0
theorem l0_eq (n : Nat) (K : St → Option R) : ∀ (j : Nat) (x0 : Int) (x1 : List (Int)) (x2 : Int), impl_members.l0 n (fun y0 => K (mkSt sout0 (y0, ()))) j x0 x1 x2 = iter (roundK cfg (pick (cal n)) (lam n) fin 0 b0 sin0 sout0 K) j (mkSt sin0 (x0, x1, x2, ()))
  | 0, _, _, _ => rfl
  | j + 1, x0, x1, x2 => by
    have ih : impl_members.l0 n (fun y0 => K (mkSt sout0 (y0, ()))) j = fun x0 x1 x2 => iter (roundK cfg (pick (cal n)) (lam n) fin 0 b0 sin0 sout0 K) j (mkSt sin0 (x0, x1, x2, ())) := funext fun x0 => funext fun x1 => funext fun x2 => l0_eq n K j x0 x1 x2
    rw [impl_members.l0, ih]
    show _ = roundK cfg (pick (cal n)) (lam n) fin 0 b0 sin0 sout0 K (iter (roundK cfg (pick (cal n)) (lam n) fin 0 b0 sin0 sout0 K) j) (mkSt sin0 (x0, x1, x2, ()))
    kernel_rfl
theorem loops (n : Nat) : LoopsOk cfg (pick (cal n)) (lam n) fin (loopsOf cfg.blk code) := by
  have h : loopsOf cfg.blk code = [(0, b0)] := by kernel_rfl
  rw [h]
  intro p hp K st r hr
  simp only [List.mem_cons, List.not_mem_nil, or_false] at hp
  rcases hp with rfl
  · have hr' : (match absSt sin0 st with | some (x, _) => impl_members.l0 n (fun y0 => K (mkSt sout0 (y0, ()))) n x.1 x.2.1 x.2.2.1 | none => none) = some r := hr
    split at hr'
    · rename_i x es hx
      rw [l0_eq] at hr'
      exact ⟨sin0, sout0, n, x, es, hx, hr'⟩
    · cases hr'
theorem F_eq (n : Nat) (x0 : Int) : impl_members.F n x0 = exK cfg (pick (cal n)) (lam n) fin code (fun _ _ => none) (mkSt shp (x0, ())) fin := by
  kernel_rfl
def pfn (n : Nat) : PFn := mkFn shp outs (fun x => impl_members.F n x.1) out
theorem ok (n : Nat) : (pfn n).Ok Go.Proofs.Try.prog 102 :=
  mkFn_ok (fn := Go.Proofs.Try.f102) (code := code) Go.Proofs.Try.func102 (by kernel_rfl) (by decide) (C := cfg) (Φ := pick (cal n)) (Λ := lam n) (into := into) hT (cal_ok n) (by kernel_rfl) rfl (by decide) rfl (fun _ => rfl) (loops n)
    (fun x r h => by
      have e := F_eq n x.1
      exact e.symm.trans h)
end impl_members
end
/-! ### loop.example/g01158/impl.reach -/
section
namespace impl_reach
noncomputable def code : Code := (Go.Proofs.Try.f214.body).getD .skip
abbrev shp : Shape := [(0, .agg [.int .i64, .row (.t3) false, .row (.int .i64) false]), (1, .one (.int .i64)), (2, .one (.int .i64))]
abbrev outs : List KD := [.one (.int .i64)]
abbrev R : Type := Int
def out : R → denL outs := fun r => (r, ())
def into : denL outs → R := fun y => y.1
def cfg : Cfg := ⟨ty, 34, [], fun i => match Nat.beq i 0 with | true => .loop | false => .plain, fun _ => none⟩
def cal (n : Nat) : List (Nat × PFn) := [(102, impl_members.pfn n), (165, impl_steps.pfn n)]
theorem cal_ok (n : Nat) : ∀ g, (pick (cal n) g).Ok Go.Proofs.Try.prog g := pick_ok (by
  intro p hp
  simp only [cal, List.mem_cons, List.not_mem_nil, or_false] at hp
  rcases hp with rfl | rfl
  · exact impl_members.ok n
  · exact impl_steps.ok n)
def fin : St → Option R := finOf ty [.tmp 6] outs into
abbrev sin0 : Shape := [(2, .one (.int .i64)), (3, .box true [.int .i64, .row (.t3) false, .row (.int .i64) false]), (7, .one (.int .i64)), (8, .one (.row (.int .i64) true))]
abbrev sout0 : Shape := [(7, .one (.int .i64))]
def lam (n : Nat) : Nat → (St → Option R) → St → Option R := fun i => match Nat.beq i 0 with | true => (fun K st => match absSt sin0 st with | some (x, _) => impl_reach.l0 n (fun y0 => K (mkSt sout0 (y0, ()))) n x.1 x.2.1.1 x.2.1.2.1 x.2.1.2.2.1 x.2.2.1 x.2.2.2.1 | none => none) | false => fun _ _ => none
noncomputable def lps : List (Nat × Code) := loopsOf cfg.blk code
noncomputable def b0 : Code := bodyOf lps 0
theorem l0_eq (n : Nat) (K : St → Option R) : ∀ (j : Nat) (x0 : Int) (x1 : Int) (x2 : List (Int × Int × Int)) (x3 : List (Int)) (x4 : Int) (x5 : List (Int)), impl_reach.l0 n (fun y0 => K (mkSt sout0 (y0, ()))) j x0 x1 x2 x3 x4 x5 = iter (roundK cfg (pick (cal n)) (lam n) fin 0 b0 sin0 sout0 K) j (mkSt sin0 (x0, (x1, x2, x3, ()), x4, x5, ()))
  | 0, _, _, _, _, _, _ => rfl
  | j + 1, x0, x1, x2, x3, x4, x5 => by
    have ih : impl_reach.l0 n (fun y0 => K (mkSt sout0 (y0, ()))) j = fun x0 x1 x2 x3 x4 x5 => iter (roundK cfg (pick (cal n)) (lam n) fin 0 b0 sin0 sout0 K) j (mkSt sin0 (x0, (x1, x2, x3, ()), x4, x5, ())) := funext fun x0 => funext fun x1 => funext fun x2 => funext fun x3 => funext fun x4 => funext fun x5 => l0_eq n K j x0 x1 x2 x3 x4 x5
    rw [impl_reach.l0, ih]
    show _ = roundK cfg (pick (cal n)) (lam n) fin 0 b0 sin0 sout0 K (iter (roundK cfg (pick (cal n)) (lam n) fin 0 b0 sin0 sout0 K) j) (mkSt sin0 (x0, (x1, x2, x3, ()), x4, x5, ()))
    kernel_rfl
theorem loops (n : Nat) : LoopsOk cfg (pick (cal n)) (lam n) fin (loopsOf cfg.blk code) := by
  have h : loopsOf cfg.blk code = [(0, b0)] := by kernel_rfl
  rw [h]
  intro p hp K st r hr
  simp only [List.mem_cons, List.not_mem_nil, or_false] at hp
  rcases hp with rfl
  · have hr' : (match absSt sin0 st with | some (x, _) => impl_reach.l0 n (fun y0 => K (mkSt sout0 (y0, ()))) n x.1 x.2.1.1 x.2.1.2.1 x.2.1.2.2.1 x.2.2.1 x.2.2.2.1 | none => none) = some r := hr
    split at hr'
    · rename_i x es hx
      rw [l0_eq] at hr'
      exact ⟨sin0, sout0, n, x, es, hx, hr'⟩
    · cases hr'
theorem F_eq (n : Nat) (x0 : Int) (x1 : List (Int × Int × Int)) (x2 : List (Int)) (x3 : Int) (x4 : Int) : impl_reach.F n x0 x1 x2 x3 x4 = exK cfg (pick (cal n)) (lam n) fin code (fun _ _ => none) (mkSt shp ((x0, x1, x2, ()), x3, x4, ())) fin := by
  kernel_rfl
def pfn (n : Nat) : PFn := mkFn shp outs (fun x => impl_reach.F n x.1.1 x.1.2.1 x.1.2.2.1 x.2.1 x.2.2.1) out
theorem ok (n : Nat) : (pfn n).Ok Go.Proofs.Try.prog 214 :=
  mkFn_ok (fn := Go.Proofs.Try.f214) (code := code) Go.Proofs.Try.func214 (by kernel_rfl) (by decide) (C := cfg) (Φ := pick (cal n)) (Λ := lam n) (into := into) hT (cal_ok n) (by kernel_rfl) rfl (by decide) rfl (fun _ => rfl) (loops n)
    (fun x r h => by
      have e := F_eq n x.1.1 x.1.2.1 x.1.2.2.1 x.2.1 x.2.2.1
      exact e.symm.trans h)
end impl_reach
end
/-! ### loop.example/g01158/impl.rounds -/
section
namespace impl_rounds
noncomputable def code : Code := (Go.Proofs.Try.f206.body).getD .skip
abbrev shp : Shape := [(0, .agg [.int .i64, .row (.t3) false, .row (.int .i64) false]), (1, .one (.int .i64))]
abbrev outs : List KD := [.one (.row (.p2) true)]
abbrev R : Type := (List (Int × Int))
def out : R → denL outs := fun r => (r, ())
def into : denL outs → R := fun y => y.1
def cfg : Cfg := ⟨ty, 43, [], fun i => match Nat.beq i 2 with | true => .loop | false => match Nat.beq i 0 with | true => .loop | false => .plain, fun _ => none⟩
def cal (n : Nat) : List (Nat × PFn) := [(102, impl_members.pfn n), (214, impl_reach.pfn n)]
theorem cal_ok (n : Nat) : ∀ g, (pick (cal n) g).Ok Go.Proofs.Try.prog g := pick_ok (by
  intro p hp
  simp only [cal, List.mem_cons, List.not_mem_nil, or_false] at hp
  rcases hp with rfl | rfl
  · exact impl_members.ok n
  · exact impl_reach.ok n)
def fin : St → Option R := finOf ty [.tmp 4] outs into
abbrev sin2 : Shape := [(2, .box true [.int .i64, .row (.t3) false, .row (.int .i64) false]), (5, .one (.row (.p2) true)), (6, .one (.int .i64)), (7, .one (.int .i64)), (8, .one (.int .i64)), (18, .one (.row (.int .i64) true)), (19, .one (.int .i64)), (20, .one (.int .i64))]
abbrev sout2 : Shape := [(2, .box true [.int .i64, .row (.t3) false, .row (.int .i64) false]), (5, .one (.row (.p2) true)), (6, .one (.int .i64)), (7, .one (.int .i64)), (8, .one (.int .i64))]
abbrev sin0 : Shape := [(2, .box true [.int .i64, .row (.t3) false, .row (.int .i64) false]), (5, .one (.row (.p2) true)), (6, .one (.int .i64))]
abbrev sout0 : Shape := []
def lam (n : Nat) : Nat → (St → Option R) → St → Option R := fun i => match Nat.beq i 2 with | true => (fun K st => match absSt sin2 st with | some (x, _) => impl_rounds.l2 n (fun y0 y1 y2 y3 y4 y5 y6 => K (mkSt sout2 ((y0, y1, y2, ()), y3, y4, y5, y6, ()))) n x.1.1 x.1.2.1 x.1.2.2.1 x.2.1 x.2.2.1 x.2.2.2.1 x.2.2.2.2.1 x.2.2.2.2.2.1 x.2.2.2.2.2.2.1 x.2.2.2.2.2.2.2.1 | none => none) | false => match Nat.beq i 0 with | true => (fun K st => match absSt sin0 st with | some (x, _) => impl_rounds.l0 n (fun _ => K (mkSt sout0 ())) n x.1.1 x.1.2.1 x.1.2.2.1 x.2.1 x.2.2.1 | none => none) | false => fun _ _ => none
noncomputable def lps : List (Nat × Code) := loopsOf cfg.blk code
noncomputable def b2 : Code := bodyOf lps 2
theorem l2_eq (n : Nat) (K : St → Option R) : ∀ (j : Nat) (x0 : Int) (x1 : List (Int × Int × Int)) (x2 : List (Int)) (x3 : List (Int × Int)) (x4 : Int) (x5 : Int) (x6 : Int) (x7 : List (Int)) (x8 : Int) (x9 : Int), impl_rounds.l2 n (fun y0 y1 y2 y3 y4 y5 y6 => K (mkSt sout2 ((y0, y1, y2, ()), y3, y4, y5, y6, ()))) j x0 x1 x2 x3 x4 x5 x6 x7 x8 x9 = iter (roundK cfg (pick (cal n)) (lam n) fin 2 b2 sin2 sout2 K) j (mkSt sin2 ((x0, x1, x2, ()), x3, x4, x5, x6, x7, x8, x9, ()))
  | 0, _, _, _, _, _, _, _, _, _, _ => rfl
  | j + 1, x0, x1, x2, x3, x4, x5, x6, x7, x8, x9 => by
    have ih : impl_rounds.l2 n (fun y0 y1 y2 y3 y4 y5 y6 => K (mkSt sout2 ((y0, y1, y2, ()), y3, y4, y5, y6, ()))) j = fun x0 x1 x2 x3 x4 x5 x6 x7 x8 x9 => iter (roundK cfg (pick (cal n)) (lam n) fin 2 b2 sin2 sout2 K) j (mkSt sin2 ((x0, x1, x2, ()), x3, x4, x5, x6, x7, x8, x9, ())) := funext fun x0 => funext fun x1 => funext fun x2 => funext fun x3 => funext fun x4 => funext fun x5 => funext fun x6 => funext fun x7 => funext fun x8 => funext fun x9 => l2_eq n K j x0 x1 x2 x3 x4 x5 x6 x7 x8 x9
    rw [impl_rounds.l2, ih]
    show _ = roundK cfg (pick (cal n)) (lam n) fin 2 b2 sin2 sout2 K (iter (roundK cfg (pick (cal n)) (lam n) fin 2 b2 sin2 sout2 K) j) (mkSt sin2 ((x0, x1, x2, ()), x3, x4, x5, x6, x7, x8, x9, ()))
    kernel_rfl
noncomputable def b0 : Code := bodyOf lps 0
theorem l0_eq (n : Nat) (K : St → Option R) : ∀ (j : Nat) (x0 : Int) (x1 : List (Int × Int × Int)) (x2 : List (Int)) (x3 : List (Int × Int)) (x4 : Int), impl_rounds.l0 n (fun _ => K (mkSt sout0 ())) j x0 x1 x2 x3 x4 = iter (roundK cfg (pick (cal n)) (lam n) fin 0 b0 sin0 sout0 K) j (mkSt sin0 ((x0, x1, x2, ()), x3, x4, ()))
  | 0, _, _, _, _, _ => rfl
  | j + 1, x0, x1, x2, x3, x4 => by
    have ih : impl_rounds.l0 n (fun _ => K (mkSt sout0 ())) j = fun x0 x1 x2 x3 x4 => iter (roundK cfg (pick (cal n)) (lam n) fin 0 b0 sin0 sout0 K) j (mkSt sin0 ((x0, x1, x2, ()), x3, x4, ())) := funext fun x0 => funext fun x1 => funext fun x2 => funext fun x3 => funext fun x4 => l0_eq n K j x0 x1 x2 x3 x4
    rw [impl_rounds.l0, ih]
    show _ = roundK cfg (pick (cal n)) (lam n) fin 0 b0 sin0 sout0 K (iter (roundK cfg (pick (cal n)) (lam n) fin 0 b0 sin0 sout0 K) j) (mkSt sin0 ((x0, x1, x2, ()), x3, x4, ()))
    kernel_rfl
theorem loops (n : Nat) : LoopsOk cfg (pick (cal n)) (lam n) fin (loopsOf cfg.blk code) := by
  have h : loopsOf cfg.blk code = [(0, b0), (2, b2)] := by kernel_rfl
  rw [h]
  intro p hp K st r hr
  simp only [List.mem_cons, List.not_mem_nil, or_false] at hp
  rcases hp with rfl | rfl
  · have hr' : (match absSt sin0 st with | some (x, _) => impl_rounds.l0 n (fun _ => K (mkSt sout0 ())) n x.1.1 x.1.2.1 x.1.2.2.1 x.2.1 x.2.2.1 | none => none) = some r := hr
    split at hr'
    · rename_i x es hx
      rw [l0_eq] at hr'
      exact ⟨sin0, sout0, n, x, es, hx, hr'⟩
    · cases hr'
  · have hr' : (match absSt sin2 st with | some (x, _) => impl_rounds.l2 n (fun y0 y1 y2 y3 y4 y5 y6 => K (mkSt sout2 ((y0, y1, y2, ()), y3, y4, y5, y6, ()))) n x.1.1 x.1.2.1 x.1.2.2.1 x.2.1 x.2.2.1 x.2.2.2.1 x.2.2.2.2.1 x.2.2.2.2.2.1 x.2.2.2.2.2.2.1 x.2.2.2.2.2.2.2.1 | none => none) = some r := hr
    split at hr'
    · rename_i x es hx
      rw [l2_eq] at hr'
      exact ⟨sin2, sout2, n, x, es, hx, hr'⟩
    · cases hr'
theorem F_eq (n : Nat) (x0 : Int) (x1 : List (Int × Int × Int)) (x2 : List (Int)) (x3 : Int) : impl_rounds.F n x0 x1 x2 x3 = exK cfg (pick (cal n)) (lam n) fin code (fun _ _ => none) (mkSt shp ((x0, x1, x2, ()), x3, ())) fin := by
  kernel_rfl
def pfn (n : Nat) : PFn := mkFn shp outs (fun x => impl_rounds.F n x.1.1 x.1.2.1 x.1.2.2.1 x.2.1) out
theorem ok (n : Nat) : (pfn n).Ok Go.Proofs.Try.prog 206 :=
  mkFn_ok (fn := Go.Proofs.Try.f206) (code := code) Go.Proofs.Try.func206 (by kernel_rfl) (by decide) (C := cfg) (Φ := pick (cal n)) (Λ := lam n) (into := into) hT (cal_ok n) (by kernel_rfl) rfl (by decide) rfl (fun _ => rfl) (loops n)
    (fun x r h => by
      have e := F_eq n x.1.1 x.1.2.1 x.1.2.2.1 x.2.1
      exact e.symm.trans h)
end impl_rounds
end
/-! ### loop.example/g01158/impl.atLast -/
section
namespace impl_atLast
noncomputable def code : Code := (Go.Proofs.Try.f177.body).getD .skip
abbrev shp : Shape := [(0, .agg [.int .i64, .row (.t3) false, .row (.int .i64) false]), (1, .one (.int .i64))]
abbrev outs : List KD := [.agg [.int .i64, .int .i64]]
abbrev R : Type := Int × Int
def out : R → denL outs := fun r => ((r.1, r.2, ()), ())
def into : denL outs → R := fun y => (y.1.1, y.1.2.1)
def cfg : Cfg := ⟨ty, 15, [], fun _ => .plain, fun _ => none⟩
def cal (n : Nat) : List (Nat × PFn) := [(206, impl_rounds.pfn n)]
theorem cal_ok (n : Nat) : ∀ g, (pick (cal n) g).Ok Go.Proofs.Try.prog g := pick_ok (by
  intro p hp
  simp only [cal, List.mem_cons, List.not_mem_nil, or_false] at hp
  rcases hp with rfl
  · exact impl_rounds.ok n)
def fin : St → Option R := finOf ty [.cell 4 129] outs into
def lam (n : Nat) : Nat → (St → Option R) → St → Option R := fun _ => fun _ _ => none
theorem loops (n : Nat) : LoopsOk cfg (pick (cal n)) (lam n) fin (loopsOf cfg.blk code) := by
  have h : loopsOf cfg.blk code = [] := by kernel_rfl
  rw [h]
  intro p hp
  cases hp
theorem F_eq (n : Nat) (x0 : Int) (x1 : List (Int × Int × Int)) (x2 : List (Int)) (x3 : Int) : impl_atLast.F n x0 x1 x2 x3 = exK cfg (pick (cal n)) (lam n) fin code (fun _ _ => none) (mkSt shp ((x0, x1, x2, ()), x3, ())) fin := by
  kernel_rfl
def pfn (n : Nat) : PFn := mkFn shp outs (fun x => impl_atLast.F n x.1.1 x.1.2.1 x.1.2.2.1 x.2.1) out
theorem ok (n : Nat) : (pfn n).Ok Go.Proofs.Try.prog 177 :=
  mkFn_ok (fn := Go.Proofs.Try.f177) (code := code) Go.Proofs.Try.func177 (by kernel_rfl) (by decide) (C := cfg) (Φ := pick (cal n)) (Λ := lam n) (into := into) hT (cal_ok n) (by kernel_rfl) rfl (by decide) rfl (fun _ => rfl) (loops n)
    (fun x r h => by
      have e := F_eq n x.1.1 x.1.2.1 x.1.2.2.1 x.2.1
      exact e.symm.trans h)
end impl_atLast
end
/-! ### loop.example/g01158/impl.GainAtLast -/
section
namespace impl_GainAtLast
noncomputable def code : Code := (Go.Proofs.Try.f89.body).getD .skip
abbrev shp : Shape := [(0, .agg [.int .i64, .row (.t3) false, .row (.int .i64) false]), (1, .one (.int .i64))]
abbrev outs : List KD := [.one (.int .i64), .one (.row (.int .i64) true), .one (.bool)]
abbrev R : Type := Int × (List (Int)) × Bool
def out : R → denL outs := fun r => (r.1, r.2.1, r.2.2, ())
def into : denL outs → R := fun y => (y.1, y.2.1, y.2.2.1)
def cfg : Cfg := ⟨ty, 20, [], fun _ => .plain, fun _ => none⟩
def cal (n : Nat) : List (Nat × PFn) := [(102, impl_members.pfn n), (158, impl_asked.pfn n), (177, impl_atLast.pfn n)]
theorem cal_ok (n : Nat) : ∀ g, (pick (cal n) g).Ok Go.Proofs.Try.prog g := pick_ok (by
  intro p hp
  simp only [cal, List.mem_cons, List.not_mem_nil, or_false] at hp
  rcases hp with rfl | rfl | rfl
  · exact impl_members.ok n
  · exact impl_asked.ok n
  · exact impl_atLast.ok n)
def fin : St → Option R := finOf ty [.tmp 4, .tmp 5, .tmp 6] outs into
def lam (n : Nat) : Nat → (St → Option R) → St → Option R := fun _ => fun _ _ => none
theorem loops (n : Nat) : LoopsOk cfg (pick (cal n)) (lam n) fin (loopsOf cfg.blk code) := by
  have h : loopsOf cfg.blk code = [] := by kernel_rfl
  rw [h]
  intro p hp
  cases hp
theorem F_eq (n : Nat) (x0 : Int) (x1 : List (Int × Int × Int)) (x2 : List (Int)) (x3 : Int) : impl_GainAtLast.F n x0 x1 x2 x3 = exK cfg (pick (cal n)) (lam n) fin code (fun _ _ => none) (mkSt shp ((x0, x1, x2, ()), x3, ())) fin := by
  kernel_rfl
def pfn (n : Nat) : PFn := mkFn shp outs (fun x => impl_GainAtLast.F n x.1.1 x.1.2.1 x.1.2.2.1 x.2.1) out
theorem ok (n : Nat) : (pfn n).Ok Go.Proofs.Try.prog 89 :=
  mkFn_ok (fn := Go.Proofs.Try.f89) (code := code) Go.Proofs.Try.func89 (by kernel_rfl) (by decide) (C := cfg) (Φ := pick (cal n)) (Λ := lam n) (into := into) hT (cal_ok n) (by kernel_rfl) rfl (by decide) rfl (fun _ => rfl) (loops n)
    (fun x r h => by
      have e := F_eq n x.1.1 x.1.2.1 x.1.2.2.1 x.2.1
      exact e.symm.trans h)
end impl_GainAtLast
end
end Go.Pf
