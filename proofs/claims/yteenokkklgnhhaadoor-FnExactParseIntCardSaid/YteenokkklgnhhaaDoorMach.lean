/- The Go functions of this seat do what their pure functions tell; printed by a program of mine (mach.py). -/
import Derived.Test.YteenokkklgnhhaaDoorProg
import Derived.Test.YteenokkklgnhhaaDoorGwE
import Derived.Test.YteenokkklgnhhaaDoorGwS
import Derived.Test.YteenokkklgnhhaaDoorLayT
import Derived.Test.YteenokkklgnhhaaDoorPure
import Derived.KernelRfl
set_option linter.unusedVariables false
set_option autoImplicit false
set_option maxRecDepth 100000
set_option maxHeartbeats 4000000
namespace Go.Pf
open Go Go.Fx

def tys : List (Nat × TI) := [(3, ⟨.int .i64, 1, [.int .i64 0], some (.int .i64), false⟩),
  (4, ⟨.bool, 1, [.bool false], some (.bool), false⟩),
  (5, ⟨.int .u8, 1, [.int .u8 0], some (.int .u8), false⟩),
  (9, ⟨.str, 1, [.str ByteArray.empty], some (.str), false⟩)]
def ty : Ty := tyOf tys
theorem hT : TyOk Go.Proofs.Tryd.prog ty := tyOf_ok (by kernel_rfl)

/-! ### loop.example/g01158/spec.l1In -/
section
namespace spec_l1In
noncomputable def code : Code := (Go.Proofs.Tryd.f46.body).getD .skip
abbrev shp : Shape := [(0, .one (.int .i64)), (1, .one (.int .i64)), (2, .one (.int .i64))]
abbrev outs : List KD := [.one (.bool)]
abbrev R : Type := Bool
def out : R → denL outs := fun r => (r, ())
def into : denL outs → R := fun y => y.1
def cfg : Cfg := ⟨ty, 15, [], fun _ => .plain, fun _ => none⟩
def cal (n : Nat) : List (Nat × PFn) := []
theorem cal_ok (n : Nat) : ∀ g, (pick (cal n) g).Ok Go.Proofs.Tryd.prog g := pick_ok (by
  intro p hp
  cases hp)
def fin : St → Option R := finOf ty [.tmp 6] outs into
def lam (n : Nat) : Nat → (St → Option R) → St → Option R := fun _ => fun _ _ => none
theorem loops (n : Nat) : LoopsOk cfg (pick (cal n)) (lam n) fin (loopsOf cfg.blk code) := by
  have h : loopsOf cfg.blk code = [] := by kernel_rfl
  rw [h]
  intro p hp
  cases hp
theorem F_eq (n : Nat) (x0 : Int) (x1 : Int) (x2 : Int) : spec_l1In.F n x0 x1 x2 = exK cfg (pick (cal n)) (lam n) fin code (fun _ _ => none) (mkSt shp (x0, x1, x2, ())) fin := by
  kernel_rfl
def pfn (n : Nat) : PFn := mkFn shp outs (fun x => spec_l1In.F n x.1 x.2.1 x.2.2.1) out
theorem ok (n : Nat) : (pfn n).Ok Go.Proofs.Tryd.prog 46 :=
  mkFn_ok (fn := Go.Proofs.Tryd.f46) (code := code) Go.Proofs.Tryd.func46 (by kernel_rfl) (by decide) (C := cfg) (Φ := pick (cal n)) (Λ := lam n) (into := into) hT (cal_ok n) (by kernel_rfl) rfl (by decide) rfl (fun _ => rfl) (loops n)
    (fun x r h => by
      have e := F_eq n x.1 x.2.1 x.2.2.1
      exact e.symm.trans h)
end spec_l1In
end
/-! ### loop.example/g01158/spec.l1Num -/
section
namespace spec_l1Num
noncomputable def code : Code := (Go.Proofs.Tryd.f47.body).getD .skip
abbrev shp : Shape := [(0, .one (.int .i64))]
abbrev outs : List KD := [.one (.str)]
abbrev R : Type := ByteArray
def out : R → denL outs := fun r => (r, ())
def into : denL outs → R := fun y => y.1
def cfg : Cfg := ⟨ty, 25, [], fun _ => .plain, fun _ => none⟩
def pfn (n : Nat) : PFn := mkFn shp outs (fun x => spec_l1Num.F n x.1) out
def cal (n : Nat) : List (Nat × PFn) := [(47, spec_l1Num.pfn n)]
theorem cal_ok (n : Nat) (ih : (spec_l1Num.pfn n).Ok Go.Proofs.Tryd.prog 47) : ∀ g, (pick (cal n) g).Ok Go.Proofs.Tryd.prog g := pick_ok (by
  intro p hp
  simp only [cal, List.mem_cons, List.not_mem_nil, or_false] at hp
  rcases hp with rfl
  · exact ih)
def fin : St → Option R := finOf ty [.tmp 2] outs into
def lam (n : Nat) : Nat → (St → Option R) → St → Option R := fun _ => fun _ _ => none
theorem loops (n : Nat) : LoopsOk cfg (pick (cal n)) (lam n) fin (loopsOf cfg.blk code) := by
  have h : loopsOf cfg.blk code = [] := by kernel_rfl
  rw [h]
  intro p hp
  cases hp
theorem F_eq (n : Nat) (x0 : Int) : spec_l1Num.F (n + 1) x0 = exK cfg (pick (cal n)) (lam n) fin code (fun _ _ => none) (mkSt shp (x0, ())) fin := by
  kernel_rfl
theorem ok : ∀ (n : Nat), (pfn n).Ok Go.Proofs.Tryd.prog 47
  | 0 => mkFn_none fun _ => rfl
  | n + 1 =>
  mkFn_ok (fn := Go.Proofs.Tryd.f47) (code := code) Go.Proofs.Tryd.func47 (by kernel_rfl) (by decide) (C := cfg) (Φ := pick (cal n)) (Λ := lam n) (into := into) hT (cal_ok n (ok n)) (by kernel_rfl) rfl (by decide) rfl (fun _ => rfl) (loops n)
    (fun x r h => by
      have e := F_eq n x.1
      exact e.symm.trans h)
end spec_l1Num
end
/-! ### loop.example/g01158/spec.l1Read -/
section
namespace spec_l1Read
noncomputable def code : Code := (Go.Proofs.Tryd.f57.body).getD .skip
abbrev shp : Shape := [(0, .one (.str))]
abbrev outs : List KD := [.one (.int .i64), .one (.bool)]
abbrev R : Type := Int × Bool
def out : R → denL outs := fun r => (r.1, r.2, ())
def into : denL outs → R := fun y => (y.1, y.2.1)
def cfg : Cfg := ⟨ty, 58, [], fun i => match Nat.beq i 0 with | true => .loop | false => .plain, fun i => match Nat.beq i 4 with | true => some [(0, .one (.str)), (4, .one (.str))] | false => none⟩
def cal (n : Nat) : List (Nat × PFn) := [(46, spec_l1In.pfn n), (47, spec_l1Num.pfn n)]
theorem cal_ok (n : Nat) : ∀ g, (pick (cal n) g).Ok Go.Proofs.Tryd.prog g := pick_ok (by
  intro p hp
  simp only [cal, List.mem_cons, List.not_mem_nil, or_false] at hp
  rcases hp with rfl | rfl
  · exact spec_l1In.ok n
  · exact spec_l1Num.ok n)
def fin : St → Option R := finOf ty [.tmp 2, .tmp 3] outs into
abbrev sin0 : Shape := [(0, .one (.str)), (4, .one (.str)), (5, .one (.int .i64)), (6, .one (.int .i64))]
abbrev sout0 : Shape := [(0, .one (.str)), (4, .one (.str)), (5, .one (.int .i64))]
def lam (n : Nat) : Nat → (St → Option R) → St → Option R := fun i => match Nat.beq i 0 with | true => (fun K st => match absSt sin0 st with | some (x, _) => spec_l1Read.l0 n (fun y0 y1 y2 => K (mkSt sout0 (y0, y1, y2, ()))) n x.1 x.2.1 x.2.2.1 x.2.2.2.1 | none => none) | false => fun _ _ => none
noncomputable def lps : List (Nat × Code) := loopsOf cfg.blk code
noncomputable def b0 : Code := bodyOf lps 0
theorem l0_eq (n : Nat) (K : St → Option R) : ∀ (j : Nat) (x0 : ByteArray) (x1 : ByteArray) (x2 : Int) (x3 : Int), spec_l1Read.l0 n (fun y0 y1 y2 => K (mkSt sout0 (y0, y1, y2, ()))) j x0 x1 x2 x3 = iter (roundK cfg (pick (cal n)) (lam n) fin 0 b0 sin0 sout0 K) j (mkSt sin0 (x0, x1, x2, x3, ()))
  | 0, _, _, _, _ => rfl
  | j + 1, x0, x1, x2, x3 => by
    have ih : spec_l1Read.l0 n (fun y0 y1 y2 => K (mkSt sout0 (y0, y1, y2, ()))) j = fun x0 x1 x2 x3 => iter (roundK cfg (pick (cal n)) (lam n) fin 0 b0 sin0 sout0 K) j (mkSt sin0 (x0, x1, x2, x3, ())) := funext fun x0 => funext fun x1 => funext fun x2 => funext fun x3 => l0_eq n K j x0 x1 x2 x3
    rw [spec_l1Read.l0, ih]
    show _ = roundK cfg (pick (cal n)) (lam n) fin 0 b0 sin0 sout0 K (iter (roundK cfg (pick (cal n)) (lam n) fin 0 b0 sin0 sout0 K) j) (mkSt sin0 (x0, x1, x2, x3, ()))
    kernel_rfl
theorem loops (n : Nat) : LoopsOk cfg (pick (cal n)) (lam n) fin (loopsOf cfg.blk code) := by
  have h : loopsOf cfg.blk code = [(0, b0)] := by kernel_rfl
  rw [h]
  intro p hp K st r hr
  simp only [List.mem_cons, List.not_mem_nil, or_false] at hp
  rcases hp with rfl
  · have hr' : (match absSt sin0 st with | some (x, _) => spec_l1Read.l0 n (fun y0 y1 y2 => K (mkSt sout0 (y0, y1, y2, ()))) n x.1 x.2.1 x.2.2.1 x.2.2.2.1 | none => none) = some r := hr
    split at hr'
    · rename_i x es hx
      rw [l0_eq] at hr'
      exact ⟨sin0, sout0, n, x, es, hx, hr'⟩
    · cases hr'
theorem F_eq (n : Nat) (x0 : ByteArray) : spec_l1Read.F n x0 = exK cfg (pick (cal n)) (lam n) fin code (fun _ _ => none) (mkSt shp (x0, ())) fin := by
  kernel_rfl
def pfn (n : Nat) : PFn := mkFn shp outs (fun x => spec_l1Read.F n x.1) out
theorem ok (n : Nat) : (pfn n).Ok Go.Proofs.Tryd.prog 57 :=
  mkFn_ok (fn := Go.Proofs.Tryd.f57) (code := code) Go.Proofs.Tryd.func57 (by kernel_rfl) (by decide) (C := cfg) (Φ := pick (cal n)) (Λ := lam n) (into := into) hT (cal_ok n) (by kernel_rfl) rfl (by decide) rfl (fun _ => rfl) (loops n)
    (fun x r h => by
      have e := F_eq n x.1
      exact e.symm.trans h)
end spec_l1Read
end
/-! ### loop.example/g01158/spec.ParseInt -/
section
namespace spec_ParseInt
noncomputable def code : Code := (Go.Proofs.Tryd.f23.body).getD .skip
abbrev shp : Shape := [(0, .one (.str))]
abbrev outs : List KD := [.one (.int .i64), .one (.bool)]
abbrev R : Type := Int × Bool
def out : R → denL outs := fun r => (r.1, r.2, ())
def into : denL outs → R := fun y => (y.1, y.2.1)
def cfg : Cfg := ⟨ty, 8, [], fun _ => .plain, fun _ => none⟩
def cal (n : Nat) : List (Nat × PFn) := [(57, spec_l1Read.pfn n)]
theorem cal_ok (n : Nat) : ∀ g, (pick (cal n) g).Ok Go.Proofs.Tryd.prog g := pick_ok (by
  intro p hp
  simp only [cal, List.mem_cons, List.not_mem_nil, or_false] at hp
  rcases hp with rfl
  · exact spec_l1Read.ok n)
def fin : St → Option R := finOf ty [.tmp 2, .tmp 3] outs into
def lam (n : Nat) : Nat → (St → Option R) → St → Option R := fun _ => fun _ _ => none
theorem loops (n : Nat) : LoopsOk cfg (pick (cal n)) (lam n) fin (loopsOf cfg.blk code) := by
  have h : loopsOf cfg.blk code = [] := by kernel_rfl
  rw [h]
  intro p hp
  cases hp
theorem F_eq (n : Nat) (x0 : ByteArray) : spec_ParseInt.F n x0 = exK cfg (pick (cal n)) (lam n) fin code (fun _ _ => none) (mkSt shp (x0, ())) fin := by
  kernel_rfl
def pfn (n : Nat) : PFn := mkFn shp outs (fun x => spec_ParseInt.F n x.1) out
theorem ok (n : Nat) : (pfn n).Ok Go.Proofs.Tryd.prog 23 :=
  mkFn_ok (fn := Go.Proofs.Tryd.f23) (code := code) Go.Proofs.Tryd.func23 (by kernel_rfl) (by decide) (C := cfg) (Φ := pick (cal n)) (Λ := lam n) (into := into) hT (cal_ok n) (by kernel_rfl) rfl (by decide) rfl (fun _ => rfl) (loops n)
    (fun x r h => by
      have e := F_eq n x.1
      exact e.symm.trans h)
end spec_ParseInt
end
/-! ### loop.example/g01158/impl.ParseInt -/
section
namespace strParse
def pfn (n : Nat) : PFn := parseFn
theorem ok (n : Nat) : (pfn n).Ok Go.Proofs.Tryd.prog 24 := LayT.parse
end strParse
end
/-! ### loop.example/g01158/laws.FnExactParseInt -/
section
namespace laws_FnExactParseInt
noncomputable def code : Code := (Go.Proofs.Tryd.f7.body).getD .skip
abbrev shp : Shape := [(0, .one (.str))]
abbrev outs : List KD := [.one (.bool)]
abbrev R : Type := Bool
def out : R → denL outs := fun r => (r, ())
def into : denL outs → R := fun y => y.1
def cfg : Cfg := ⟨ty, 28, [], fun _ => .plain, fun _ => none⟩
def cal (n : Nat) : List (Nat × PFn) := [(23, spec_ParseInt.pfn n), (24, strParse.pfn n)]
theorem cal_ok (n : Nat) : ∀ g, (pick (cal n) g).Ok Go.Proofs.Tryd.prog g := pick_ok (by
  intro p hp
  simp only [cal, List.mem_cons, List.not_mem_nil, or_false] at hp
  rcases hp with rfl | rfl
  · exact spec_ParseInt.ok n
  · exact strParse.ok n)
def fin : St → Option R := finOf ty [.tmp 2] outs into
def lam (n : Nat) : Nat → (St → Option R) → St → Option R := fun _ => fun _ _ => none
theorem loops (n : Nat) : LoopsOk cfg (pick (cal n)) (lam n) fin (loopsOf cfg.blk code) := by
  have h : loopsOf cfg.blk code = [] := by kernel_rfl
  rw [h]
  intro p hp
  cases hp
theorem F_eq (n : Nat) (x0 : ByteArray) : laws_FnExactParseInt.F n x0 = exK cfg (pick (cal n)) (lam n) fin code (fun _ _ => none) (mkSt shp (x0, ())) fin := by
  kernel_rfl
def pfn (n : Nat) : PFn := mkFn shp outs (fun x => laws_FnExactParseInt.F n x.1) out
theorem ok (n : Nat) : (pfn n).Ok Go.Proofs.Tryd.prog 7 :=
  mkFn_ok (fn := Go.Proofs.Tryd.f7) (code := code) Go.Proofs.Tryd.func7 (by kernel_rfl) (by decide) (C := cfg) (Φ := pick (cal n)) (Λ := lam n) (into := into) hT (cal_ok n) (by kernel_rfl) rfl (by decide) rfl (fun _ => rfl) (loops n)
    (fun x r h => by
      have e := F_eq n x.1
      exact e.symm.trans h)
end laws_FnExactParseInt
end
end Go.Pf
