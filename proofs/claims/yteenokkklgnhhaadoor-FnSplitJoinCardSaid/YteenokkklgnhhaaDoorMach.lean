/- The Go functions of this seat do what their pure functions tell; printed by a program of mine (mach.py). -/
import Derived.Test.YteenokkklgnhhaaDoorProg
import Derived.Test.YteenokkklgnhhaaDoorGwE
import Derived.Test.YteenokkklgnhhaaDoorGwS
import Derived.Test.YteenokkklgnhhaaDoorLayT
import Derived.Test.YteenokkklgnhhaaDoorPure
import Derived.KernelRfl
set_option linter.unusedVariables false
set_option autoImplicit false
set_option maxRecDepth 100000
set_option maxHeartbeats 4000000
namespace Go.Pf
open Go Go.Fx

def tys : List (Nat × TI) := [(3, ⟨.int .i64, 1, [.int .i64 0], some (.int .i64), false⟩),
  (4, ⟨.bool, 1, [.bool false], some (.bool), false⟩),
  (5, ⟨.int .u8, 1, [.int .u8 0], some (.int .u8), false⟩),
  (9, ⟨.str, 1, [.str ByteArray.empty], some (.str), false⟩),
  (25, ⟨.slice 9, 1, [.nil], none, false⟩),
  (35, ⟨.slice 5, 1, [.nil], none, false⟩),
  (72, ⟨.int .u64, 1, [.int .u64 0], some (.int .u64), false⟩),
  (74, ⟨.struct [(35, 0), (3, 1), (72, 2)], 3, [.nil, .int .i64 0, .int .u64 0], none, false⟩)]
def ty : Ty := tyOf tys
theorem hT : TyOk Go.Proofs.Tryd.prog ty := tyOf_ok (by kernel_rfl)

/-! ### loop.example/g01158/spec.l1Split -/
section
namespace spec_l1Split
noncomputable def code : Code := (Go.Proofs.Tryd.f49.body).getD .skip
abbrev shp : Shape := [(0, .one (.str)), (1, .one (.int .u8))]
abbrev outs : List KD := [.one (.row (.str) true)]
abbrev R : Type := (List (ByteArray))
def out : R → denL outs := fun r => (r, ())
def into : denL outs → R := fun y => y.1
def cfg : Cfg := ⟨ty, 35, [], fun i => match Nat.beq i 0 with | true => .loop | false => .plain, fun _ => none⟩
def cal (n : Nat) : List (Nat × PFn) := []
theorem cal_ok (n : Nat) : ∀ g, (pick (cal n) g).Ok Go.Proofs.Tryd.prog g := pick_ok (by
  intro p hp
  cases hp)
def fin : St → Option R := finOf ty [.tmp 4] outs into
abbrev sin0 : Shape := [(0, .one (.str)), (1, .one (.int .u8)), (5, .one (.row (.str) true)), (6, .one (.int .i64)), (7, .one (.int .i64))]
abbrev sout0 : Shape := [(0, .one (.str)), (5, .one (.row (.str) true)), (6, .one (.int .i64))]
def lam (n : Nat) : Nat → (St → Option R) → St → Option R := fun i => match Nat.beq i 0 with | true => (fun K st => match absSt sin0 st with | some (x, _) => spec_l1Split.l0 n (fun y0 y1 y2 => K (mkSt sout0 (y0, y1, y2, ()))) n x.1 x.2.1 x.2.2.1 x.2.2.2.1 x.2.2.2.2.1 | none => none) | false => fun _ _ => none
noncomputable def lps : List (Nat × Code) := loopsOf cfg.blk code
noncomputable def b0 : Code := bodyOf lps 0
theorem l0_eq (n : Nat) (K : St → Option R) : ∀ (j : Nat) (x0 : ByteArray) (x1 : Int) (x2 : List (ByteArray)) (x3 : Int) (x4 : Int), spec_l1Split.l0 n (fun y0 y1 y2 => K (mkSt sout0 (y0, y1, y2, ()))) j x0 x1 x2 x3 x4 = iter (roundK cfg (pick (cal n)) (lam n) fin 0 b0 sin0 sout0 K) j (mkSt sin0 (x0, x1, x2, x3, x4, ()))
  | 0, _, _, _, _, _ => rfl
  | j + 1, x0, x1, x2, x3, x4 => by
    have ih : spec_l1Split.l0 n (fun y0 y1 y2 => K (mkSt sout0 (y0, y1, y2, ()))) j = fun x0 x1 x2 x3 x4 => iter (roundK cfg (pick (cal n)) (lam n) fin 0 b0 sin0 sout0 K) j (mkSt sin0 (x0, x1, x2, x3, x4, ())) := funext fun x0 => funext fun x1 => funext fun x2 => funext fun x3 => funext fun x4 => l0_eq n K j x0 x1 x2 x3 x4
    rw [spec_l1Split.l0, ih]
    show _ = roundK cfg (pick (cal n)) (lam n) fin 0 b0 sin0 sout0 K (iter (roundK cfg (pick (cal n)) (lam n) fin 0 b0 sin0 sout0 K) j) (mkSt sin0 (x0, x1, x2, x3, x4, ()))
    kernel_rfl
theorem loops (n : Nat) : LoopsOk cfg (pick (cal n)) (lam n) fin (loopsOf cfg.blk code) := by
  have h : loopsOf cfg.blk code = [(0, b0)] := by kernel_rfl
  rw [h]
  intro p hp K st r hr
  simp only [List.mem_cons, List.not_mem_nil, or_false] at hp
  rcases hp with rfl
  · have hr' : (match absSt sin0 st with | some (x, _) => spec_l1Split.l0 n (fun y0 y1 y2 => K (mkSt sout0 (y0, y1, y2, ()))) n x.1 x.2.1 x.2.2.1 x.2.2.2.1 x.2.2.2.2.1 | none => none) = some r := hr
    split at hr'
    · rename_i x es hx
      rw [l0_eq] at hr'
      exact ⟨sin0, sout0, n, x, es, hx, hr'⟩
    · cases hr'
theorem F_eq (n : Nat) (x0 : ByteArray) (x1 : Int) : spec_l1Split.F n x0 x1 = exK cfg (pick (cal n)) (lam n) fin code (fun _ _ => none) (mkSt shp (x0, x1, ())) fin := by
  kernel_rfl
def pfn (n : Nat) : PFn := mkFn shp outs (fun x => spec_l1Split.F n x.1 x.2.1) out
theorem ok (n : Nat) : (pfn n).Ok Go.Proofs.Tryd.prog 49 :=
  mkFn_ok (fn := Go.Proofs.Tryd.f49) (code := code) Go.Proofs.Tryd.func49 (by kernel_rfl) (by decide) (C := cfg) (Φ := pick (cal n)) (Λ := lam n) (into := into) hT (cal_ok n) (by kernel_rfl) rfl (by decide) rfl (fun _ => rfl) (loops n)
    (fun x r h => by
      have e := F_eq n x.1 x.2.1
      exact e.symm.trans h)
end spec_l1Split
end
/-! ### loop.example/g01158/spec.SplitString -/
section
namespace spec_SplitString
noncomputable def code : Code := (Go.Proofs.Tryd.f14.body).getD .skip
abbrev shp : Shape := [(0, .one (.str)), (1, .one (.str))]
abbrev outs : List KD := [.one (.row (.str) true), .one (.bool)]
abbrev R : Type := (List (ByteArray)) × Bool
def out : R → denL outs := fun r => (r.1, r.2, ())
def into : denL outs → R := fun y => (y.1, y.2.1)
def cfg : Cfg := ⟨ty, 19, [], fun _ => .plain, fun _ => none⟩
def cal (n : Nat) : List (Nat × PFn) := [(49, spec_l1Split.pfn n)]
theorem cal_ok (n : Nat) : ∀ g, (pick (cal n) g).Ok Go.Proofs.Tryd.prog g := pick_ok (by
  intro p hp
  simp only [cal, List.mem_cons, List.not_mem_nil, or_false] at hp
  rcases hp with rfl
  · exact spec_l1Split.ok n)
def fin : St → Option R := finOf ty [.tmp 4, .tmp 5] outs into
def lam (n : Nat) : Nat → (St → Option R) → St → Option R := fun _ => fun _ _ => none
theorem loops (n : Nat) : LoopsOk cfg (pick (cal n)) (lam n) fin (loopsOf cfg.blk code) := by
  have h : loopsOf cfg.blk code = [] := by kernel_rfl
  rw [h]
  intro p hp
  cases hp
theorem F_eq (n : Nat) (x0 : ByteArray) (x1 : ByteArray) : spec_SplitString.F n x0 x1 = exK cfg (pick (cal n)) (lam n) fin code (fun _ _ => none) (mkSt shp (x0, x1, ())) fin := by
  kernel_rfl
def pfn (n : Nat) : PFn := mkFn shp outs (fun x => spec_SplitString.F n x.1 x.2.1) out
theorem ok (n : Nat) : (pfn n).Ok Go.Proofs.Tryd.prog 14 :=
  mkFn_ok (fn := Go.Proofs.Tryd.f14) (code := code) Go.Proofs.Tryd.func14 (by kernel_rfl) (by decide) (C := cfg) (Φ := pick (cal n)) (Λ := lam n) (into := into) hT (cal_ok n) (by kernel_rfl) rfl (by decide) rfl (fun _ => rfl) (loops n)
    (fun x r h => by
      have e := F_eq n x.1 x.2.1
      exact e.symm.trans h)
end spec_SplitString
end
/-! ### strings.Split -/
section
namespace strSplit
def pfn (n : Nat) : PFn := splitFn
theorem ok (n : Nat) : (pfn n).Ok Go.Proofs.Tryd.prog 50 := LayT.split
end strSplit
end
/-! ### loop.example/g01158/impl.SplitString -/
section
namespace impl_SplitString
noncomputable def code : Code := (Go.Proofs.Tryd.f15.body).getD .skip
abbrev shp : Shape := [(0, .one (.str)), (1, .one (.str))]
abbrev outs : List KD := [.one (.row (.str) true), .one (.bool)]
abbrev R : Type := (List (ByteArray)) × Bool
def out : R → denL outs := fun r => (r.1, r.2, ())
def into : denL outs → R := fun y => (y.1, y.2.1)
def cfg : Cfg := ⟨ty, 17, [], fun _ => .plain, fun _ => none⟩
def cal (n : Nat) : List (Nat × PFn) := [(50, strSplit.pfn n)]
theorem cal_ok (n : Nat) : ∀ g, (pick (cal n) g).Ok Go.Proofs.Tryd.prog g := pick_ok (by
  intro p hp
  simp only [cal, List.mem_cons, List.not_mem_nil, or_false] at hp
  rcases hp with rfl
  · exact strSplit.ok n)
def fin : St → Option R := finOf ty [.tmp 4, .tmp 5] outs into
def lam (n : Nat) : Nat → (St → Option R) → St → Option R := fun _ => fun _ _ => none
theorem loops (n : Nat) : LoopsOk cfg (pick (cal n)) (lam n) fin (loopsOf cfg.blk code) := by
  have h : loopsOf cfg.blk code = [] := by kernel_rfl
  rw [h]
  intro p hp
  cases hp
theorem F_eq (n : Nat) (x0 : ByteArray) (x1 : ByteArray) : impl_SplitString.F n x0 x1 = exK cfg (pick (cal n)) (lam n) fin code (fun _ _ => none) (mkSt shp (x0, x1, ())) fin := by
  kernel_rfl
def pfn (n : Nat) : PFn := mkFn shp outs (fun x => impl_SplitString.F n x.1 x.2.1) out
theorem ok (n : Nat) : (pfn n).Ok Go.Proofs.Tryd.prog 15 :=
  mkFn_ok (fn := Go.Proofs.Tryd.f15) (code := code) Go.Proofs.Tryd.func15 (by kernel_rfl) (by decide) (C := cfg) (Φ := pick (cal n)) (Λ := lam n) (into := into) hT (cal_ok n) (by kernel_rfl) rfl (by decide) rfl (fun _ => rfl) (loops n)
    (fun x r h => by
      have e := F_eq n x.1 x.2.1
      exact e.symm.trans h)
end impl_SplitString
end
/-! ### loop.example/g01158/laws.eqStringS -/
section
namespace laws_eqStringS
noncomputable def code : Code := (Go.Proofs.Tryd.f16.body).getD .skip
abbrev shp : Shape := [(0, .one (.row (.str) false)), (1, .one (.row (.str) false))]
abbrev outs : List KD := [.one (.bool)]
abbrev R : Type := Bool
def out : R → denL outs := fun r => (r, ())
def into : denL outs → R := fun y => y.1
def cfg : Cfg := ⟨ty, 26, [], fun i => match Nat.beq i 0 with | true => .loop | false => .plain, fun _ => none⟩
def cal (n : Nat) : List (Nat × PFn) := []
theorem cal_ok (n : Nat) : ∀ g, (pick (cal n) g).Ok Go.Proofs.Tryd.prog g := pick_ok (by
  intro p hp
  cases hp)
def fin : St → Option R := finOf ty [.tmp 4] outs into
abbrev sin0 : Shape := [(0, .one (.row (.str) false)), (1, .one (.row (.str) false)), (5, .one (.int .i64))]
abbrev sout0 : Shape := []
def lam (n : Nat) : Nat → (St → Option R) → St → Option R := fun i => match Nat.beq i 0 with | true => (fun K st => match absSt sin0 st with | some (x, _) => laws_eqStringS.l0 n (fun _ => K (mkSt sout0 ())) n x.1 x.2.1 x.2.2.1 | none => none) | false => fun _ _ => none
noncomputable def lps : List (Nat × Code) := loopsOf cfg.blk code
noncomputable def b0 : Code := bodyOf lps 0
theorem l0_eq (n : Nat) (K : St → Option R) : ∀ (j : Nat) (x0 : List (ByteArray)) (x1 : List (ByteArray)) (x2 : Int), laws_eqStringS.l0 n (fun _ => K (mkSt sout0 ())) j x0 x1 x2 = iter (roundK cfg (pick (cal n)) (lam n) fin 0 b0 sin0 sout0 K) j (mkSt sin0 (x0, x1, x2, ()))
  | 0, _, _, _ => rfl
  | j + 1, x0, x1, x2 => by
    have ih : laws_eqStringS.l0 n (fun _ => K (mkSt sout0 ())) j = fun x0 x1 x2 => iter (roundK cfg (pick (cal n)) (lam n) fin 0 b0 sin0 sout0 K) j (mkSt sin0 (x0, x1, x2, ())) := funext fun x0 => funext fun x1 => funext fun x2 => l0_eq n K j x0 x1 x2
    rw [laws_eqStringS.l0, ih]
    show _ = roundK cfg (pick (cal n)) (lam n) fin 0 b0 sin0 sout0 K (iter (roundK cfg (pick (cal n)) (lam n) fin 0 b0 sin0 sout0 K) j) (mkSt sin0 (x0, x1, x2, ()))
    kernel_rfl
theorem loops (n : Nat) : LoopsOk cfg (pick (cal n)) (lam n) fin (loopsOf cfg.blk code) := by
  have h : loopsOf cfg.blk code = [(0, b0)] := by kernel_rfl
  rw [h]
  intro p hp K st r hr
  simp only [List.mem_cons, List.not_mem_nil, or_false] at hp
  rcases hp with rfl
  · have hr' : (match absSt sin0 st with | some (x, _) => laws_eqStringS.l0 n (fun _ => K (mkSt sout0 ())) n x.1 x.2.1 x.2.2.1 | none => none) = some r := hr
    split at hr'
    · rename_i x es hx
      rw [l0_eq] at hr'
      exact ⟨sin0, sout0, n, x, es, hx, hr'⟩
    · cases hr'
theorem F_eq (n : Nat) (x0 : List (ByteArray)) (x1 : List (ByteArray)) : laws_eqStringS.F n x0 x1 = exK cfg (pick (cal n)) (lam n) fin code (fun _ _ => none) (mkSt shp (x0, x1, ())) fin := by
  kernel_rfl
def pfn (n : Nat) : PFn := mkFn shp outs (fun x => laws_eqStringS.F n x.1 x.2.1) out
theorem ok (n : Nat) : (pfn n).Ok Go.Proofs.Tryd.prog 16 :=
  mkFn_ok (fn := Go.Proofs.Tryd.f16) (code := code) Go.Proofs.Tryd.func16 (by kernel_rfl) (by decide) (C := cfg) (Φ := pick (cal n)) (Λ := lam n) (into := into) hT (cal_ok n) (by kernel_rfl) rfl (by decide) rfl (fun _ => rfl) (loops n)
    (fun x r h => by
      have e := F_eq n x.1 x.2.1
      exact e.symm.trans h)
end laws_eqStringS
end
/-! ### loop.example/g01158/laws.markText -/
section
namespace laws_markText
noncomputable def code : Code := (Go.Proofs.Tryd.f51.body).getD .skip
abbrev shp : Shape := [(0, .one (.int .i64))]
abbrev outs : List KD := [.one (.str)]
abbrev R : Type := ByteArray
def out : R → denL outs := fun r => (r, ())
def into : denL outs → R := fun y => y.1
def cfg : Cfg := ⟨ty, 20, [], fun i => match Nat.beq i 0 with | true => .loop | false => .plain, fun _ => none⟩
def cal (n : Nat) : List (Nat × PFn) := []
theorem cal_ok (n : Nat) : ∀ g, (pick (cal n) g).Ok Go.Proofs.Tryd.prog g := pick_ok (by
  intro p hp
  cases hp)
def fin : St → Option R := finOf ty [.tmp 2] outs into
abbrev sin0 : Shape := [(0, .one (.int .i64)), (3, .one (.str))]
abbrev sout0 : Shape := [(3, .one (.str))]
def lam (n : Nat) : Nat → (St → Option R) → St → Option R := fun i => match Nat.beq i 0 with | true => (fun K st => match absSt sin0 st with | some (x, _) => laws_markText.l0 n (fun y0 => K (mkSt sout0 (y0, ()))) n x.1 x.2.1 | none => none) | false => fun _ _ => none
noncomputable def lps : List (Nat × Code) := loopsOf cfg.blk code
noncomputable def b0 : Code := bodyOf lps 0
theorem l0_eq (n : Nat) (K : St → Option R) : ∀ (j : Nat) (x0 : Int) (x1 : ByteArray), laws_markText.l0 n (fun y0 => K (mkSt sout0 (y0, ()))) j x0 x1 = iter (roundK cfg (pick (cal n)) (lam n) fin 0 b0 sin0 sout0 K) j (mkSt sin0 (x0, x1, ()))
  | 0, _, _ => rfl
  | j + 1, x0, x1 => by
    have ih : laws_markText.l0 n (fun y0 => K (mkSt sout0 (y0, ()))) j = fun x0 x1 => iter (roundK cfg (pick (cal n)) (lam n) fin 0 b0 sin0 sout0 K) j (mkSt sin0 (x0, x1, ())) := funext fun x0 => funext fun x1 => l0_eq n K j x0 x1
    rw [laws_markText.l0, ih]
    show _ = roundK cfg (pick (cal n)) (lam n) fin 0 b0 sin0 sout0 K (iter (roundK cfg (pick (cal n)) (lam n) fin 0 b0 sin0 sout0 K) j) (mkSt sin0 (x0, x1, ()))
    kernel_rfl
theorem loops (n : Nat) : LoopsOk cfg (pick (cal n)) (lam n) fin (loopsOf cfg.blk code) := by
  have h : loopsOf cfg.blk code = [(0, b0)] := by kernel_rfl
  rw [h]
  intro p hp K st r hr
  simp only [List.mem_cons, List.not_mem_nil, or_false] at hp
  rcases hp with rfl
  · have hr' : (match absSt sin0 st with | some (x, _) => laws_markText.l0 n (fun y0 => K (mkSt sout0 (y0, ()))) n x.1 x.2.1 | none => none) = some r := hr
    split at hr'
    · rename_i x es hx
      rw [l0_eq] at hr'
      exact ⟨sin0, sout0, n, x, es, hx, hr'⟩
    · cases hr'
theorem F_eq (n : Nat) (x0 : Int) : laws_markText.F n x0 = exK cfg (pick (cal n)) (lam n) fin code (fun _ _ => none) (mkSt shp (x0, ())) fin := by
  kernel_rfl
def pfn (n : Nat) : PFn := mkFn shp outs (fun x => laws_markText.F n x.1) out
theorem ok (n : Nat) : (pfn n).Ok Go.Proofs.Tryd.prog 51 :=
  mkFn_ok (fn := Go.Proofs.Tryd.f51) (code := code) Go.Proofs.Tryd.func51 (by kernel_rfl) (by decide) (C := cfg) (Φ := pick (cal n)) (Λ := lam n) (into := into) hT (cal_ok n) (by kernel_rfl) rfl (by decide) rfl (fun _ => rfl) (loops n)
    (fun x r h => by
      have e := F_eq n x.1
      exact e.symm.trans h)
end laws_markText
end
/-! ### loop.example/g01158/laws.markStringS -/
section
namespace laws_markStringS
noncomputable def code : Code := (Go.Proofs.Tryd.f17.body).getD .skip
abbrev shp : Shape := [(0, .one (.row (.str) true)), (1, .one (.int .i64))]
abbrev outs : List KD := [.one (.int .i64)]
abbrev R : Type := Int × (List (ByteArray))
abbrev k0 : KD := .one (.row (.str) true)
abbrev rshp : Shape := [(1, .one (.int .i64))]
def out : R → denL outs := fun r => (r.1, ())
def up : R → k0.den := fun r => r.2
def into : denL outs → k0.den → R := fun y z => (y.1, z)
def cfg : Cfg := ⟨ty, 20, [0], fun i => match Nat.beq i 0 with | true => .loop | false => .plain, fun _ => none⟩
def cal (n : Nat) : List (Nat × PFn) := [(51, laws_markText.pfn n)]
theorem cal_ok (n : Nat) : ∀ g, (pick (cal n) g).Ok Go.Proofs.Tryd.prog g := pick_ok (by
  intro p hp
  simp only [cal, List.mem_cons, List.not_mem_nil, or_false] at hp
  rcases hp with rfl
  · exact laws_markText.ok n)
def fin : St → Option R := finMut ty [.tmp 4] outs k0 into
abbrev sin0 : Shape := [(0, .one (.row (.str) true)), (1, .one (.int .i64)), (5, .one (.int .i64))]
abbrev sout0 : Shape := [(0, .one (.row (.str) true)), (1, .one (.int .i64))]
def lam (n : Nat) : Nat → (St → Option R) → St → Option R := fun i => match Nat.beq i 0 with | true => (fun K st => match absSt sin0 st with | some (x, _) => laws_markStringS.l0 n (fun y0 y1 => K (mkSt sout0 (y0, y1, ()))) n x.1 x.2.1 x.2.2.1 | none => none) | false => fun _ _ => none
noncomputable def lps : List (Nat × Code) := loopsOf cfg.blk code
noncomputable def b0 : Code := bodyOf lps 0
theorem l0_eq (n : Nat) (K : St → Option R) : ∀ (j : Nat) (x0 : List (ByteArray)) (x1 : Int) (x2 : Int), laws_markStringS.l0 n (fun y0 y1 => K (mkSt sout0 (y0, y1, ()))) j x0 x1 x2 = iter (roundK cfg (pick (cal n)) (lam n) fin 0 b0 sin0 sout0 K) j (mkSt sin0 (x0, x1, x2, ()))
  | 0, _, _, _ => rfl
  | j + 1, x0, x1, x2 => by
    have ih : laws_markStringS.l0 n (fun y0 y1 => K (mkSt sout0 (y0, y1, ()))) j = fun x0 x1 x2 => iter (roundK cfg (pick (cal n)) (lam n) fin 0 b0 sin0 sout0 K) j (mkSt sin0 (x0, x1, x2, ())) := funext fun x0 => funext fun x1 => funext fun x2 => l0_eq n K j x0 x1 x2
    rw [laws_markStringS.l0, ih]
    show _ = roundK cfg (pick (cal n)) (lam n) fin 0 b0 sin0 sout0 K (iter (roundK cfg (pick (cal n)) (lam n) fin 0 b0 sin0 sout0 K) j) (mkSt sin0 (x0, x1, x2, ()))
    kernel_rfl
theorem loops (n : Nat) : LoopsOk cfg (pick (cal n)) (lam n) fin (loopsOf cfg.blk code) := by
  have h : loopsOf cfg.blk code = [(0, b0)] := by kernel_rfl
  rw [h]
  intro p hp K st r hr
  simp only [List.mem_cons, List.not_mem_nil, or_false] at hp
  rcases hp with rfl
  · have hr' : (match absSt sin0 st with | some (x, _) => laws_markStringS.l0 n (fun y0 y1 => K (mkSt sout0 (y0, y1, ()))) n x.1 x.2.1 x.2.2.1 | none => none) = some r := hr
    split at hr'
    · rename_i x es hx
      rw [l0_eq] at hr'
      exact ⟨sin0, sout0, n, x, es, hx, hr'⟩
    · cases hr'
theorem F_eq (n : Nat) (x0 : List (ByteArray)) (x1 : Int) : laws_markStringS.F n x0 x1 = exK cfg (pick (cal n)) (lam n) fin code (fun _ _ => none) (mkSt shp (x0, x1, ())) fin := by
  kernel_rfl
def pfn (n : Nat) : PFn := mkMut k0 rshp.ks outs (fun x xs => laws_markStringS.F n x xs.1) out up
theorem ok (n : Nat) : (pfn n).Ok Go.Proofs.Tryd.prog 17 :=
  mkMut_ok (rshp := rshp) (fn := Go.Proofs.Tryd.f17) (code := code) Go.Proofs.Tryd.func17 (by kernel_rfl) (by decide) (C := cfg) (Φ := pick (cal n)) (Λ := lam n) (into := into) hT (cal_ok n) (by kernel_rfl) rfl (by decide) rfl rfl (by decide) (int1_loc .i64) (int1_ext .i64) (fun _ _ => rfl) (fun _ _ => rfl) (loops n)
    (fun x xs r h => by
      have e := F_eq n x xs.1
      exact e.symm.trans h)
end laws_markStringS
end
/-! ### loop.example/g01158/laws.heldStringS -/
section
namespace laws_heldStringS
noncomputable def code : Code := (Go.Proofs.Tryd.f18.body).getD .skip
abbrev shp : Shape := [(0, .one (.row (.str) false)), (1, .one (.int .i64))]
abbrev outs : List KD := [.one (.int .i64)]
abbrev R : Type := Int
def out : R → denL outs := fun r => (r, ())
def into : denL outs → R := fun y => y.1
def cfg : Cfg := ⟨ty, 22, [], fun i => match Nat.beq i 0 with | true => .loop | false => .plain, fun _ => none⟩
def cal (n : Nat) : List (Nat × PFn) := [(51, laws_markText.pfn n)]
theorem cal_ok (n : Nat) : ∀ g, (pick (cal n) g).Ok Go.Proofs.Tryd.prog g := pick_ok (by
  intro p hp
  simp only [cal, List.mem_cons, List.not_mem_nil, or_false] at hp
  rcases hp with rfl
  · exact laws_markText.ok n)
def fin : St → Option R := finOf ty [.tmp 4] outs into
abbrev sin0 : Shape := [(0, .one (.row (.str) false)), (1, .one (.int .i64)), (5, .one (.int .i64))]
abbrev sout0 : Shape := [(1, .one (.int .i64))]
def lam (n : Nat) : Nat → (St → Option R) → St → Option R := fun i => match Nat.beq i 0 with | true => (fun K st => match absSt sin0 st with | some (x, _) => laws_heldStringS.l0 n (fun y0 => K (mkSt sout0 (y0, ()))) n x.1 x.2.1 x.2.2.1 | none => none) | false => fun _ _ => none
noncomputable def lps : List (Nat × Code) := loopsOf cfg.blk code
noncomputable def b0 : Code := bodyOf lps 0
theorem l0_eq (n : Nat) (K : St → Option R) : ∀ (j : Nat) (x0 : List (ByteArray)) (x1 : Int) (x2 : Int), laws_heldStringS.l0 n (fun y0 => K (mkSt sout0 (y0, ()))) j x0 x1 x2 = iter (roundK cfg (pick (cal n)) (lam n) fin 0 b0 sin0 sout0 K) j (mkSt sin0 (x0, x1, x2, ()))
  | 0, _, _, _ => rfl
  | j + 1, x0, x1, x2 => by
    have ih : laws_heldStringS.l0 n (fun y0 => K (mkSt sout0 (y0, ()))) j = fun x0 x1 x2 => iter (roundK cfg (pick (cal n)) (lam n) fin 0 b0 sin0 sout0 K) j (mkSt sin0 (x0, x1, x2, ())) := funext fun x0 => funext fun x1 => funext fun x2 => l0_eq n K j x0 x1 x2
    rw [laws_heldStringS.l0, ih]
    show _ = roundK cfg (pick (cal n)) (lam n) fin 0 b0 sin0 sout0 K (iter (roundK cfg (pick (cal n)) (lam n) fin 0 b0 sin0 sout0 K) j) (mkSt sin0 (x0, x1, x2, ()))
    kernel_rfl
theorem loops (n : Nat) : LoopsOk cfg (pick (cal n)) (lam n) fin (loopsOf cfg.blk code) := by
  have h : loopsOf cfg.blk code = [(0, b0)] := by kernel_rfl
  rw [h]
  intro p hp K st r hr
  simp only [List.mem_cons, List.not_mem_nil, or_false] at hp
  rcases hp with rfl
  · have hr' : (match absSt sin0 st with | some (x, _) => laws_heldStringS.l0 n (fun y0 => K (mkSt sout0 (y0, ()))) n x.1 x.2.1 x.2.2.1 | none => none) = some r := hr
    split at hr'
    · rename_i x es hx
      rw [l0_eq] at hr'
      exact ⟨sin0, sout0, n, x, es, hx, hr'⟩
    · cases hr'
theorem F_eq (n : Nat) (x0 : List (ByteArray)) (x1 : Int) : laws_heldStringS.F n x0 x1 = exK cfg (pick (cal n)) (lam n) fin code (fun _ _ => none) (mkSt shp (x0, x1, ())) fin := by
  kernel_rfl
def pfn (n : Nat) : PFn := mkFn shp outs (fun x => laws_heldStringS.F n x.1 x.2.1) out
theorem ok (n : Nat) : (pfn n).Ok Go.Proofs.Tryd.prog 18 :=
  mkFn_ok (fn := Go.Proofs.Tryd.f18) (code := code) Go.Proofs.Tryd.func18 (by kernel_rfl) (by decide) (C := cfg) (Φ := pick (cal n)) (Λ := lam n) (into := into) hT (cal_ok n) (by kernel_rfl) rfl (by decide) rfl (fun _ => rfl) (loops n)
    (fun x r h => by
      have e := F_eq n x.1 x.2.1
      exact e.symm.trans h)
end laws_heldStringS
end
/-! ### loop.example/g01158/laws.FnExactSplitString -/
section
namespace laws_FnExactSplitString
noncomputable def code : Code := (Go.Proofs.Tryd.f4.body).getD .skip
abbrev shp : Shape := [(0, .one (.str)), (1, .one (.str))]
abbrev outs : List KD := [.one (.bool)]
abbrev R : Type := Bool
def out : R → denL outs := fun r => (r, ())
def into : denL outs → R := fun y => y.1
def cfg : Cfg := ⟨ty, 74, [], fun _ => .plain, fun i => match Nat.beq i 9 with | true => some [(0, .one (.str)), (1, .one (.str)), (5, .one (.row (.str) true)), (6, .one (.bool)), (7, .one (.row (.str) true))] | false => none⟩
def cal (n : Nat) : List (Nat × PFn) := [(14, spec_SplitString.pfn n), (15, impl_SplitString.pfn n), (16, laws_eqStringS.pfn n), (17, laws_markStringS.pfn n), (18, laws_heldStringS.pfn n)]
theorem cal_ok (n : Nat) : ∀ g, (pick (cal n) g).Ok Go.Proofs.Tryd.prog g := pick_ok (by
  intro p hp
  simp only [cal, List.mem_cons, List.not_mem_nil, or_false] at hp
  rcases hp with rfl | rfl | rfl | rfl | rfl
  · exact spec_SplitString.ok n
  · exact impl_SplitString.ok n
  · exact laws_eqStringS.ok n
  · exact laws_markStringS.ok n
  · exact laws_heldStringS.ok n)
def fin : St → Option R := finOf ty [.tmp 4] outs into
def lam (n : Nat) : Nat → (St → Option R) → St → Option R := fun _ => fun _ _ => none
theorem loops (n : Nat) : LoopsOk cfg (pick (cal n)) (lam n) fin (loopsOf cfg.blk code) := by
  have h : loopsOf cfg.blk code = [] := by kernel_rfl
  rw [h]
  intro p hp
  cases hp
theorem F_eq (n : Nat) (x0 : ByteArray) (x1 : ByteArray) : laws_FnExactSplitString.F n x0 x1 = exK cfg (pick (cal n)) (lam n) fin code (fun _ _ => none) (mkSt shp (x0, x1, ())) fin := by
  kernel_rfl
def pfn (n : Nat) : PFn := mkFn shp outs (fun x => laws_FnExactSplitString.F n x.1 x.2.1) out
theorem ok (n : Nat) : (pfn n).Ok Go.Proofs.Tryd.prog 4 :=
  mkFn_ok (fn := Go.Proofs.Tryd.f4) (code := code) Go.Proofs.Tryd.func4 (by kernel_rfl) (by decide) (C := cfg) (Φ := pick (cal n)) (Λ := lam n) (into := into) hT (cal_ok n) (by kernel_rfl) rfl (by decide) rfl (fun _ => rfl) (loops n)
    (fun x r h => by
      have e := F_eq n x.1 x.2.1
      exact e.symm.trans h)
end laws_FnExactSplitString
end
/-! ### loop.example/g01158/laws.vBig -/
section
namespace laws_vBig
noncomputable def code : Code := (Go.Proofs.Tryd.f25.body).getD .skip
abbrev shp : Shape := [(0, .one (.row (.int .u8) false))]
abbrev outs : List KD := [.one (.bool)]
abbrev R : Type := Bool
def out : R → denL outs := fun r => (r, ())
def into : denL outs → R := fun y => y.1
def cfg : Cfg := ⟨ty, 6, [], fun _ => .plain, fun _ => none⟩
def cal (n : Nat) : List (Nat × PFn) := []
theorem cal_ok (n : Nat) : ∀ g, (pick (cal n) g).Ok Go.Proofs.Tryd.prog g := pick_ok (by
  intro p hp
  cases hp)
def fin : St → Option R := finOf ty [.tmp 2] outs into
def lam (n : Nat) : Nat → (St → Option R) → St → Option R := fun _ => fun _ _ => none
theorem loops (n : Nat) : LoopsOk cfg (pick (cal n)) (lam n) fin (loopsOf cfg.blk code) := by
  have h : loopsOf cfg.blk code = [] := by kernel_rfl
  rw [h]
  intro p hp
  cases hp
theorem F_eq (n : Nat) (x0 : List (Int)) : laws_vBig.F n x0 = exK cfg (pick (cal n)) (lam n) fin code (fun _ _ => none) (mkSt shp (x0, ())) fin := by
  kernel_rfl
def pfn (n : Nat) : PFn := mkFn shp outs (fun x => laws_vBig.F n x.1) out
theorem ok (n : Nat) : (pfn n).Ok Go.Proofs.Tryd.prog 25 :=
  mkFn_ok (fn := Go.Proofs.Tryd.f25) (code := code) Go.Proofs.Tryd.func25 (by kernel_rfl) (by decide) (C := cfg) (Φ := pick (cal n)) (Λ := lam n) (into := into) hT (cal_ok n) (by kernel_rfl) rfl (by decide) rfl (fun _ => rfl) (loops n)
    (fun x r h => by
      have e := F_eq n x.1
      exact e.symm.trans h)
end laws_vBig
end
/-! ### (*loop.example/g01158/spec.l1Cur).next -/
section
namespace spec_l1Cur_next
noncomputable def code : Code := (Go.Proofs.Tryd.f88.body).getD .skip
abbrev shp : Shape := [(0, .box true [.row (.int .u8) false, .int .i64, .int .u64])]
abbrev outs : List KD := [.one (.int .i64)]
abbrev R : Type := (List (Int)) × Int × Int × Int
abbrev bs : List BK := [.row (.int .u8) false, .int .i64, .int .u64]
abbrev rshp : Shape := []
def out : R → denB bs × denL outs := fun r => ((r.1, r.2.1, r.2.2.1, ()), (r.2.2.2, ()))
def into : denB bs → denL outs → R := fun z y => (z.1, z.2.1, z.2.2.1, y.1)
def cfg : Cfg := ⟨ty, 62, [0], fun _ => .plain, fun i => match Nat.beq i 4 with | true => some [(0, .box true [.row (.int .u8) false, .int .i64, .int .u64]), (3, .one (.int .i64))] | false => none⟩
def cal (n : Nat) : List (Nat × PFn) := []
theorem cal_ok (n : Nat) : ∀ g, (pick (cal n) g).Ok Go.Proofs.Tryd.prog g := pick_ok (by
  intro p hp
  cases hp)
def fin : St → Option R := finBox ty [.tmp 2] bs outs into
def lam (n : Nat) : Nat → (St → Option R) → St → Option R := fun _ => fun _ _ => none
theorem loops (n : Nat) : LoopsOk cfg (pick (cal n)) (lam n) fin (loopsOf cfg.blk code) := by
  have h : loopsOf cfg.blk code = [] := by kernel_rfl
  rw [h]
  intro p hp
  cases hp
theorem F_eq (n : Nat) (x0 : List (Int)) (x1 : Int) (x2 : Int) : spec_l1Cur_next.F n x0 x1 x2 = exK cfg (pick (cal n)) (lam n) fin code (fun _ _ => none) (mkSt shp ((x0, x1, x2, ()), ())) fin := by
  kernel_rfl
def pfn (n : Nat) : PFn := mkBox bs rshp.ks outs (fun x xs => spec_l1Cur_next.F n x.1 x.2.1 x.2.2.1) out
theorem ok (n : Nat) : (pfn n).Ok Go.Proofs.Tryd.prog 88 :=
  mkBox_ok (rshp := rshp) (fn := Go.Proofs.Tryd.f88) (code := code) Go.Proofs.Tryd.func88 (by kernel_rfl) (by decide) (C := cfg) (Φ := pick (cal n)) (Λ := lam n) (into := into) hT (cal_ok n) (by kernel_rfl) rfl (by decide) rfl rfl rfl (by decide) (fun _ _ => rfl) (loops n)
    (fun x xs r h => by
      have e := F_eq n x.1 x.2.1 x.2.2.1
      exact e.symm.trans h)
end spec_l1Cur_next
end
/-! ### (*loop.example/g01158/spec.l1Cur).pick -/
section
namespace spec_l1Cur_pick
noncomputable def code : Code := (Go.Proofs.Tryd.f61.body).getD .skip
abbrev shp : Shape := [(0, .box true [.row (.int .u8) false, .int .i64, .int .u64]), (1, .one (.int .i64))]
abbrev outs : List KD := [.one (.int .i64)]
abbrev R : Type := (List (Int)) × Int × Int × Int
abbrev bs : List BK := [.row (.int .u8) false, .int .i64, .int .u64]
abbrev rshp : Shape := [(1, .one (.int .i64))]
def out : R → denB bs × denL outs := fun r => ((r.1, r.2.1, r.2.2.1, ()), (r.2.2.2, ()))
def into : denB bs → denL outs → R := fun z y => (z.1, z.2.1, z.2.2.1, y.1)
def cfg : Cfg := ⟨ty, 20, [0], fun _ => .plain, fun _ => none⟩
def cal (n : Nat) : List (Nat × PFn) := [(88, spec_l1Cur_next.pfn n)]
theorem cal_ok (n : Nat) : ∀ g, (pick (cal n) g).Ok Go.Proofs.Tryd.prog g := pick_ok (by
  intro p hp
  simp only [cal, List.mem_cons, List.not_mem_nil, or_false] at hp
  rcases hp with rfl
  · exact spec_l1Cur_next.ok n)
def fin : St → Option R := finBox ty [.tmp 4] bs outs into
def lam (n : Nat) : Nat → (St → Option R) → St → Option R := fun _ => fun _ _ => none
theorem loops (n : Nat) : LoopsOk cfg (pick (cal n)) (lam n) fin (loopsOf cfg.blk code) := by
  have h : loopsOf cfg.blk code = [] := by kernel_rfl
  rw [h]
  intro p hp
  cases hp
theorem F_eq (n : Nat) (x0 : List (Int)) (x1 : Int) (x2 : Int) (x3 : Int) : spec_l1Cur_pick.F n x0 x1 x2 x3 = exK cfg (pick (cal n)) (lam n) fin code (fun _ _ => none) (mkSt shp ((x0, x1, x2, ()), x3, ())) fin := by
  kernel_rfl
def pfn (n : Nat) : PFn := mkBox bs rshp.ks outs (fun x xs => spec_l1Cur_pick.F n x.1 x.2.1 x.2.2.1 xs.1) out
theorem ok (n : Nat) : (pfn n).Ok Go.Proofs.Tryd.prog 61 :=
  mkBox_ok (rshp := rshp) (fn := Go.Proofs.Tryd.f61) (code := code) Go.Proofs.Tryd.func61 (by kernel_rfl) (by decide) (C := cfg) (Φ := pick (cal n)) (Λ := lam n) (into := into) hT (cal_ok n) (by kernel_rfl) rfl (by decide) rfl rfl rfl (by decide) (fun _ _ => rfl) (loops n)
    (fun x xs r h => by
      have e := F_eq n x.1 x.2.1 x.2.2.1 xs.1
      exact e.symm.trans h)
end spec_l1Cur_pick
end
/-! ### (*loop.example/g01158/spec.l1Cur).of -/
section
namespace spec_l1Cur_of
noncomputable def code : Code := (Go.Proofs.Tryd.f60.body).getD .skip
abbrev shp : Shape := [(0, .box true [.row (.int .u8) false, .int .i64, .int .u64]), (1, .one (.row (.str) false))]
abbrev outs : List KD := [.one (.str)]
abbrev R : Type := (List (Int)) × Int × Int × ByteArray
abbrev bs : List BK := [.row (.int .u8) false, .int .i64, .int .u64]
abbrev rshp : Shape := [(1, .one (.row (.str) false))]
def out : R → denB bs × denL outs := fun r => ((r.1, r.2.1, r.2.2.1, ()), (r.2.2.2, ()))
def into : denB bs → denL outs → R := fun z y => (z.1, z.2.1, z.2.2.1, y.1)
def cfg : Cfg := ⟨ty, 12, [0], fun _ => .plain, fun _ => none⟩
def cal (n : Nat) : List (Nat × PFn) := [(61, spec_l1Cur_pick.pfn n)]
theorem cal_ok (n : Nat) : ∀ g, (pick (cal n) g).Ok Go.Proofs.Tryd.prog g := pick_ok (by
  intro p hp
  simp only [cal, List.mem_cons, List.not_mem_nil, or_false] at hp
  rcases hp with rfl
  · exact spec_l1Cur_pick.ok n)
def fin : St → Option R := finBox ty [.tmp 4] bs outs into
def lam (n : Nat) : Nat → (St → Option R) → St → Option R := fun _ => fun _ _ => none
theorem loops (n : Nat) : LoopsOk cfg (pick (cal n)) (lam n) fin (loopsOf cfg.blk code) := by
  have h : loopsOf cfg.blk code = [] := by kernel_rfl
  rw [h]
  intro p hp
  cases hp
theorem F_eq (n : Nat) (x0 : List (Int)) (x1 : Int) (x2 : Int) (x3 : List (ByteArray)) : spec_l1Cur_of.F n x0 x1 x2 x3 = exK cfg (pick (cal n)) (lam n) fin code (fun _ _ => none) (mkSt shp ((x0, x1, x2, ()), x3, ())) fin := by
  kernel_rfl
def pfn (n : Nat) : PFn := mkBox bs rshp.ks outs (fun x xs => spec_l1Cur_of.F n x.1 x.2.1 x.2.2.1 xs.1) out
theorem ok (n : Nat) : (pfn n).Ok Go.Proofs.Tryd.prog 60 :=
  mkBox_ok (rshp := rshp) (fn := Go.Proofs.Tryd.f60) (code := code) Go.Proofs.Tryd.func60 (by kernel_rfl) (by decide) (C := cfg) (Φ := pick (cal n)) (Λ := lam n) (into := into) hT (cal_ok n) (by kernel_rfl) rfl (by decide) rfl rfl rfl (by decide) (fun _ _ => rfl) (loops n)
    (fun x xs r h => by
      have e := F_eq n x.1 x.2.1 x.2.2.1 xs.1
      exact e.symm.trans h)
end spec_l1Cur_of
end
/-! ### (*loop.example/g01158/spec.l1Cur).any1 -/
section
namespace spec_l1Cur_any1
noncomputable def code : Code := (Go.Proofs.Tryd.f59.body).getD .skip
abbrev shp : Shape := [(0, .box true [.row (.int .u8) false, .int .i64, .int .u64])]
abbrev outs : List KD := [.one (.str)]
abbrev R : Type := (List (Int)) × Int × Int × ByteArray
abbrev bs : List BK := [.row (.int .u8) false, .int .i64, .int .u64]
abbrev rshp : Shape := []
def out : R → denB bs × denL outs := fun r => ((r.1, r.2.1, r.2.2.1, ()), (r.2.2.2, ()))
def into : denB bs → denL outs → R := fun z y => (z.1, z.2.1, z.2.2.1, y.1)
def cfg : Cfg := ⟨ty, 6, [0], fun _ => .plain, fun _ => none⟩
def cal (n : Nat) : List (Nat × PFn) := [(60, spec_l1Cur_of.pfn n)]
theorem cal_ok (n : Nat) : ∀ g, (pick (cal n) g).Ok Go.Proofs.Tryd.prog g := pick_ok (by
  intro p hp
  simp only [cal, List.mem_cons, List.not_mem_nil, or_false] at hp
  rcases hp with rfl
  · exact spec_l1Cur_of.ok n)
def fin : St → Option R := finBox ty [.tmp 2] bs outs into
def lam (n : Nat) : Nat → (St → Option R) → St → Option R := fun _ => fun _ _ => none
theorem loops (n : Nat) : LoopsOk cfg (pick (cal n)) (lam n) fin (loopsOf cfg.blk code) := by
  have h : loopsOf cfg.blk code = [] := by kernel_rfl
  rw [h]
  intro p hp
  cases hp
theorem F_eq (n : Nat) (x0 : List (Int)) (x1 : Int) (x2 : Int) : spec_l1Cur_any1.F n x0 x1 x2 = exK cfg (pick (cal n)) (lam n) fin code (fun _ _ => none) (mkSt shp ((x0, x1, x2, ()), ())) fin := by
  kernel_rfl
def pfn (n : Nat) : PFn := mkBox bs rshp.ks outs (fun x xs => spec_l1Cur_any1.F n x.1 x.2.1 x.2.2.1) out
theorem ok (n : Nat) : (pfn n).Ok Go.Proofs.Tryd.prog 59 :=
  mkBox_ok (rshp := rshp) (fn := Go.Proofs.Tryd.f59) (code := code) Go.Proofs.Tryd.func59 (by kernel_rfl) (by decide) (C := cfg) (Φ := pick (cal n)) (Λ := lam n) (into := into) hT (cal_ok n) (by kernel_rfl) rfl (by decide) rfl rfl rfl (by decide) (fun _ _ => rfl) (loops n)
    (fun x xs r h => by
      have e := F_eq n x.1 x.2.1 x.2.2.1
      exact e.symm.trans h)
end spec_l1Cur_any1
end
/-! ### loop.example/g01158/spec.DrawSplitString -/
section
namespace spec_DrawSplitString
noncomputable def code : Code := (Go.Proofs.Tryd.f26.body).getD .skip
abbrev shp : Shape := [(0, .one (.row (.int .u8) false))]
abbrev outs : List KD := [.one (.str), .one (.str)]
abbrev R : Type := ByteArray × ByteArray
def out : R → denL outs := fun r => (r.1, r.2, ())
def into : denL outs → R := fun y => (y.1, y.2.1)
def cfg : Cfg := ⟨ty, 15, [], fun _ => .plain, fun _ => none⟩
def cal (n : Nat) : List (Nat × PFn) := [(59, spec_l1Cur_any1.pfn n), (60, spec_l1Cur_of.pfn n)]
theorem cal_ok (n : Nat) : ∀ g, (pick (cal n) g).Ok Go.Proofs.Tryd.prog g := pick_ok (by
  intro p hp
  simp only [cal, List.mem_cons, List.not_mem_nil, or_false] at hp
  rcases hp with rfl | rfl
  · exact spec_l1Cur_any1.ok n
  · exact spec_l1Cur_of.ok n)
def fin : St → Option R := finOf ty [.tmp 2, .tmp 3] outs into
def lam (n : Nat) : Nat → (St → Option R) → St → Option R := fun _ => fun _ _ => none
theorem loops (n : Nat) : LoopsOk cfg (pick (cal n)) (lam n) fin (loopsOf cfg.blk code) := by
  have h : loopsOf cfg.blk code = [] := by kernel_rfl
  rw [h]
  intro p hp
  cases hp
theorem F_eq (n : Nat) (x0 : List (Int)) : spec_DrawSplitString.F n x0 = exK cfg (pick (cal n)) (lam n) fin code (fun _ _ => none) (mkSt shp (x0, ())) fin := by
  kernel_rfl
def pfn (n : Nat) : PFn := mkFn shp outs (fun x => spec_DrawSplitString.F n x.1) out
theorem ok (n : Nat) : (pfn n).Ok Go.Proofs.Tryd.prog 26 :=
  mkFn_ok (fn := Go.Proofs.Tryd.f26) (code := code) Go.Proofs.Tryd.func26 (by kernel_rfl) (by decide) (C := cfg) (Φ := pick (cal n)) (Λ := lam n) (into := into) hT (cal_ok n) (by kernel_rfl) rfl (by decide) rfl (fun _ => rfl) (loops n)
    (fun x r h => by
      have e := F_eq n x.1
      exact e.symm.trans h)
end spec_DrawSplitString
end
/-! ### (*loop.example/g01158/spec.l1Cur).one -/
section
namespace spec_l1Cur_one
noncomputable def code : Code := (Go.Proofs.Tryd.f62.body).getD .skip
abbrev shp : Shape := [(0, .box true [.row (.int .u8) false, .int .i64, .int .u64]), (1, .one (.int .i64))]
abbrev outs : List KD := [.one (.bool)]
abbrev R : Type := (List (Int)) × Int × Int × Bool
abbrev bs : List BK := [.row (.int .u8) false, .int .i64, .int .u64]
abbrev rshp : Shape := [(1, .one (.int .i64))]
def out : R → denB bs × denL outs := fun r => ((r.1, r.2.1, r.2.2.1, ()), (r.2.2.2, ()))
def into : denB bs → denL outs → R := fun z y => (z.1, z.2.1, z.2.2.1, y.1)
def cfg : Cfg := ⟨ty, 9, [0], fun _ => .plain, fun _ => none⟩
def cal (n : Nat) : List (Nat × PFn) := [(61, spec_l1Cur_pick.pfn n)]
theorem cal_ok (n : Nat) : ∀ g, (pick (cal n) g).Ok Go.Proofs.Tryd.prog g := pick_ok (by
  intro p hp
  simp only [cal, List.mem_cons, List.not_mem_nil, or_false] at hp
  rcases hp with rfl
  · exact spec_l1Cur_pick.ok n)
def fin : St → Option R := finBox ty [.tmp 4] bs outs into
def lam (n : Nat) : Nat → (St → Option R) → St → Option R := fun _ => fun _ _ => none
theorem loops (n : Nat) : LoopsOk cfg (pick (cal n)) (lam n) fin (loopsOf cfg.blk code) := by
  have h : loopsOf cfg.blk code = [] := by kernel_rfl
  rw [h]
  intro p hp
  cases hp
theorem F_eq (n : Nat) (x0 : List (Int)) (x1 : Int) (x2 : Int) (x3 : Int) : spec_l1Cur_one.F n x0 x1 x2 x3 = exK cfg (pick (cal n)) (lam n) fin code (fun _ _ => none) (mkSt shp ((x0, x1, x2, ()), x3, ())) fin := by
  kernel_rfl
def pfn (n : Nat) : PFn := mkBox bs rshp.ks outs (fun x xs => spec_l1Cur_one.F n x.1 x.2.1 x.2.2.1 xs.1) out
theorem ok (n : Nat) : (pfn n).Ok Go.Proofs.Tryd.prog 62 :=
  mkBox_ok (rshp := rshp) (fn := Go.Proofs.Tryd.f62) (code := code) Go.Proofs.Tryd.func62 (by kernel_rfl) (by decide) (C := cfg) (Φ := pick (cal n)) (Λ := lam n) (into := into) hT (cal_ok n) (by kernel_rfl) rfl (by decide) rfl rfl rfl (by decide) (fun _ _ => rfl) (loops n)
    (fun x xs r h => by
      have e := F_eq n x.1 x.2.1 x.2.2.1 xs.1
      exact e.symm.trans h)
end spec_l1Cur_one
end
/-! ### loop.example/g01158/spec.DrawJoinStrings -/
section
namespace spec_DrawJoinStrings
noncomputable def code : Code := (Go.Proofs.Tryd.f27.body).getD .skip
abbrev shp : Shape := [(0, .one (.row (.int .u8) false))]
abbrev outs : List KD := [.one (.row (.str) true), .one (.str)]
abbrev R : Type := (List (ByteArray)) × ByteArray
def out : R → denL outs := fun r => (r.1, r.2, ())
def into : denL outs → R := fun y => (y.1, y.2.1)
def cfg : Cfg := ⟨ty, 38, [], fun i => match Nat.beq i 0 with | true => .loop | false => .plain, fun _ => none⟩
def cal (n : Nat) : List (Nat × PFn) := [(59, spec_l1Cur_any1.pfn n), (60, spec_l1Cur_of.pfn n), (61, spec_l1Cur_pick.pfn n), (62, spec_l1Cur_one.pfn n)]
theorem cal_ok (n : Nat) : ∀ g, (pick (cal n) g).Ok Go.Proofs.Tryd.prog g := pick_ok (by
  intro p hp
  simp only [cal, List.mem_cons, List.not_mem_nil, or_false] at hp
  rcases hp with rfl | rfl | rfl | rfl
  · exact spec_l1Cur_any1.ok n
  · exact spec_l1Cur_of.ok n
  · exact spec_l1Cur_pick.ok n
  · exact spec_l1Cur_one.ok n)
def fin : St → Option R := finOf ty [.tmp 2, .tmp 3] outs into
abbrev sin0 : Shape := [(4, .box true [.row (.int .u8) false, .int .i64, .int .u64]), (5, .one (.row (.str) true)), (6, .one (.int .i64)), (7, .one (.int .i64))]
abbrev sout0 : Shape := [(4, .box true [.row (.int .u8) false, .int .i64, .int .u64]), (5, .one (.row (.str) true))]
def lam (n : Nat) : Nat → (St → Option R) → St → Option R := fun i => match Nat.beq i 0 with | true => (fun K st => match absSt sin0 st with | some (x, _) => spec_DrawJoinStrings.l0 n (fun y0 y1 y2 y3 => K (mkSt sout0 ((y0, y1, y2, ()), y3, ()))) n x.1.1 x.1.2.1 x.1.2.2.1 x.2.1 x.2.2.1 x.2.2.2.1 | none => none) | false => fun _ _ => none
noncomputable def lps : List (Nat × Code) := loopsOf cfg.blk code
noncomputable def b0 : Code := bodyOf lps 0
theorem l0_eq (n : Nat) (K : St → Option R) : ∀ (j : Nat) (x0 : List (Int)) (x1 : Int) (x2 : Int) (x3 : List (ByteArray)) (x4 : Int) (x5 : Int), spec_DrawJoinStrings.l0 n (fun y0 y1 y2 y3 => K (mkSt sout0 ((y0, y1, y2, ()), y3, ()))) j x0 x1 x2 x3 x4 x5 = iter (roundK cfg (pick (cal n)) (lam n) fin 0 b0 sin0 sout0 K) j (mkSt sin0 ((x0, x1, x2, ()), x3, x4, x5, ()))
  | 0, _, _, _, _, _, _ => rfl
  | j + 1, x0, x1, x2, x3, x4, x5 => by
    have ih : spec_DrawJoinStrings.l0 n (fun y0 y1 y2 y3 => K (mkSt sout0 ((y0, y1, y2, ()), y3, ()))) j = fun x0 x1 x2 x3 x4 x5 => iter (roundK cfg (pick (cal n)) (lam n) fin 0 b0 sin0 sout0 K) j (mkSt sin0 ((x0, x1, x2, ()), x3, x4, x5, ())) := funext fun x0 => funext fun x1 => funext fun x2 => funext fun x3 => funext fun x4 => funext fun x5 => l0_eq n K j x0 x1 x2 x3 x4 x5
    rw [spec_DrawJoinStrings.l0, ih]
    show _ = roundK cfg (pick (cal n)) (lam n) fin 0 b0 sin0 sout0 K (iter (roundK cfg (pick (cal n)) (lam n) fin 0 b0 sin0 sout0 K) j) (mkSt sin0 ((x0, x1, x2, ()), x3, x4, x5, ()))
    kernel_rfl
theorem loops (n : Nat) : LoopsOk cfg (pick (cal n)) (lam n) fin (loopsOf cfg.blk code) := by
  have h : loopsOf cfg.blk code = [(0, b0)] := by kernel_rfl
  rw [h]
  intro p hp K st r hr
  simp only [List.mem_cons, List.not_mem_nil, or_false] at hp
  rcases hp with rfl
  · have hr' : (match absSt sin0 st with | some (x, _) => spec_DrawJoinStrings.l0 n (fun y0 y1 y2 y3 => K (mkSt sout0 ((y0, y1, y2, ()), y3, ()))) n x.1.1 x.1.2.1 x.1.2.2.1 x.2.1 x.2.2.1 x.2.2.2.1 | none => none) = some r := hr
    split at hr'
    · rename_i x es hx
      rw [l0_eq] at hr'
      exact ⟨sin0, sout0, n, x, es, hx, hr'⟩
    · cases hr'
theorem F_eq (n : Nat) (x0 : List (Int)) : spec_DrawJoinStrings.F n x0 = exK cfg (pick (cal n)) (lam n) fin code (fun _ _ => none) (mkSt shp (x0, ())) fin := by
  kernel_rfl
def pfn (n : Nat) : PFn := mkFn shp outs (fun x => spec_DrawJoinStrings.F n x.1) out
theorem ok (n : Nat) : (pfn n).Ok Go.Proofs.Tryd.prog 27 :=
  mkFn_ok (fn := Go.Proofs.Tryd.f27) (code := code) Go.Proofs.Tryd.func27 (by kernel_rfl) (by decide) (C := cfg) (Φ := pick (cal n)) (Λ := lam n) (into := into) hT (cal_ok n) (by kernel_rfl) rfl (by decide) rfl (fun _ => rfl) (loops n)
    (fun x r h => by
      have e := F_eq n x.1
      exact e.symm.trans h)
end spec_DrawJoinStrings
end
/-! ### strings.Contains -/
section
namespace strContains
def pfn (n : Nat) : PFn := containsFn
theorem ok (n : Nat) : (pfn n).Ok Go.Proofs.Tryd.prog 54 := LayT.contains
end strContains
end
/-! ### strings.Join -/
section
namespace strJoin
def pfn (n : Nat) : PFn := joinFn
theorem ok (n : Nat) : (pfn n).Ok Go.Proofs.Tryd.prog 63 := LayT.join
end strJoin
end
/-! ### loop.example/g01158/impl.JoinStrings -/
section
namespace impl_JoinStrings
noncomputable def code : Code := (Go.Proofs.Tryd.f28.body).getD .skip
abbrev shp : Shape := [(0, .one (.row (.str) false)), (1, .one (.str))]
abbrev outs : List KD := [.one (.str), .one (.bool)]
abbrev R : Type := ByteArray × Bool
def out : R → denL outs := fun r => (r.1, r.2, ())
def into : denL outs → R := fun y => (y.1, y.2.1)
def cfg : Cfg := ⟨ty, 41, [], fun i => match Nat.beq i 0 with | true => .loop | false => .plain, fun _ => none⟩
def cal (n : Nat) : List (Nat × PFn) := [(54, strContains.pfn n), (63, strJoin.pfn n)]
theorem cal_ok (n : Nat) : ∀ g, (pick (cal n) g).Ok Go.Proofs.Tryd.prog g := pick_ok (by
  intro p hp
  simp only [cal, List.mem_cons, List.not_mem_nil, or_false] at hp
  rcases hp with rfl | rfl
  · exact strContains.ok n
  · exact strJoin.ok n)
def fin : St → Option R := finOf ty [.tmp 4, .tmp 5] outs into
abbrev sin0 : Shape := [(0, .one (.row (.str) false)), (1, .one (.str)), (6, .one (.int .i64)), (20, .one (.ref 0)), (21, .one (.int .i64)), (22, .one (.int .i64))]
abbrev sout0 : Shape := [(0, .one (.row (.str) false)), (1, .one (.str))]
def lam (n : Nat) : Nat → (St → Option R) → St → Option R := fun i => match Nat.beq i 0 with | true => (fun K st => match absSt sin0 st with | some (x, _) => impl_JoinStrings.l0 n (fun y0 y1 => K (mkSt sout0 (y0, y1, ()))) n x.1 x.2.1 x.2.2.1 x.2.2.2.2.1 x.2.2.2.2.2.1 | none => none) | false => fun _ _ => none
noncomputable def lps : List (Nat × Code) := loopsOf cfg.blk code
noncomputable def b0 : Code := bodyOf lps 0
theorem l0_eq (n : Nat) (K : St → Option R) : ∀ (j : Nat) (x0 : List (ByteArray)) (x1 : ByteArray) (x2 : Int) (x3 : Int) (x4 : Int), impl_JoinStrings.l0 n (fun y0 y1 => K (mkSt sout0 (y0, y1, ()))) j x0 x1 x2 x3 x4 = iter (roundK cfg (pick (cal n)) (lam n) fin 0 b0 sin0 sout0 K) j (mkSt sin0 (x0, x1, x2, (), x3, x4, ()))
  | 0, _, _, _, _, _ => rfl
  | j + 1, x0, x1, x2, x3, x4 => by
    have ih : impl_JoinStrings.l0 n (fun y0 y1 => K (mkSt sout0 (y0, y1, ()))) j = fun x0 x1 x2 x3 x4 => iter (roundK cfg (pick (cal n)) (lam n) fin 0 b0 sin0 sout0 K) j (mkSt sin0 (x0, x1, x2, (), x3, x4, ())) := funext fun x0 => funext fun x1 => funext fun x2 => funext fun x3 => funext fun x4 => l0_eq n K j x0 x1 x2 x3 x4
    rw [impl_JoinStrings.l0, ih]
    show _ = roundK cfg (pick (cal n)) (lam n) fin 0 b0 sin0 sout0 K (iter (roundK cfg (pick (cal n)) (lam n) fin 0 b0 sin0 sout0 K) j) (mkSt sin0 (x0, x1, x2, (), x3, x4, ()))
    kernel_rfl
theorem loops (n : Nat) : LoopsOk cfg (pick (cal n)) (lam n) fin (loopsOf cfg.blk code) := by
  have h : loopsOf cfg.blk code = [(0, b0)] := by kernel_rfl
  rw [h]
  intro p hp K st r hr
  simp only [List.mem_cons, List.not_mem_nil, or_false] at hp
  rcases hp with rfl
  · have hr' : (match absSt sin0 st with | some (x, _) => impl_JoinStrings.l0 n (fun y0 y1 => K (mkSt sout0 (y0, y1, ()))) n x.1 x.2.1 x.2.2.1 x.2.2.2.2.1 x.2.2.2.2.2.1 | none => none) = some r := hr
    split at hr'
    · rename_i x es hx
      rw [l0_eq] at hr'
      exact ⟨sin0, sout0, n, x, es, hx, hr'⟩
    · cases hr'
theorem F_eq (n : Nat) (x0 : List (ByteArray)) (x1 : ByteArray) : impl_JoinStrings.F n x0 x1 = exK cfg (pick (cal n)) (lam n) fin code (fun _ _ => none) (mkSt shp (x0, x1, ())) fin := by
  kernel_rfl
def pfn (n : Nat) : PFn := mkFn shp outs (fun x => impl_JoinStrings.F n x.1 x.2.1) out
theorem ok (n : Nat) : (pfn n).Ok Go.Proofs.Tryd.prog 28 :=
  mkFn_ok (fn := Go.Proofs.Tryd.f28) (code := code) Go.Proofs.Tryd.func28 (by kernel_rfl) (by decide) (C := cfg) (Φ := pick (cal n)) (Λ := lam n) (into := into) hT (cal_ok n) (by kernel_rfl) rfl (by decide) rfl (fun _ => rfl) (loops n)
    (fun x r h => by
      have e := F_eq n x.1 x.2.1
      exact e.symm.trans h)
end impl_JoinStrings
end
/-! ### loop.example/g01158/spec.l1Stands -/
section
namespace spec_l1Stands
noncomputable def code : Code := (Go.Proofs.Tryd.f52.body).getD .skip
abbrev shp : Shape := [(0, .one (.str)), (1, .one (.int .u8))]
abbrev outs : List KD := [.one (.bool)]
abbrev R : Type := Bool
def out : R → denL outs := fun r => (r, ())
def into : denL outs → R := fun y => y.1
def cfg : Cfg := ⟨ty, 17, [], fun i => match Nat.beq i 0 with | true => .loop | false => .plain, fun _ => none⟩
def cal (n : Nat) : List (Nat × PFn) := []
theorem cal_ok (n : Nat) : ∀ g, (pick (cal n) g).Ok Go.Proofs.Tryd.prog g := pick_ok (by
  intro p hp
  cases hp)
def fin : St → Option R := finOf ty [.tmp 4] outs into
abbrev sin0 : Shape := [(0, .one (.str)), (1, .one (.int .u8)), (5, .one (.int .i64))]
abbrev sout0 : Shape := []
def lam (n : Nat) : Nat → (St → Option R) → St → Option R := fun i => match Nat.beq i 0 with | true => (fun K st => match absSt sin0 st with | some (x, _) => spec_l1Stands.l0 n (fun _ => K (mkSt sout0 ())) n x.1 x.2.1 x.2.2.1 | none => none) | false => fun _ _ => none
noncomputable def lps : List (Nat × Code) := loopsOf cfg.blk code
noncomputable def b0 : Code := bodyOf lps 0
theorem l0_eq (n : Nat) (K : St → Option R) : ∀ (j : Nat) (x0 : ByteArray) (x1 : Int) (x2 : Int), spec_l1Stands.l0 n (fun _ => K (mkSt sout0 ())) j x0 x1 x2 = iter (roundK cfg (pick (cal n)) (lam n) fin 0 b0 sin0 sout0 K) j (mkSt sin0 (x0, x1, x2, ()))
  | 0, _, _, _ => rfl
  | j + 1, x0, x1, x2 => by
    have ih : spec_l1Stands.l0 n (fun _ => K (mkSt sout0 ())) j = fun x0 x1 x2 => iter (roundK cfg (pick (cal n)) (lam n) fin 0 b0 sin0 sout0 K) j (mkSt sin0 (x0, x1, x2, ())) := funext fun x0 => funext fun x1 => funext fun x2 => l0_eq n K j x0 x1 x2
    rw [spec_l1Stands.l0, ih]
    show _ = roundK cfg (pick (cal n)) (lam n) fin 0 b0 sin0 sout0 K (iter (roundK cfg (pick (cal n)) (lam n) fin 0 b0 sin0 sout0 K) j) (mkSt sin0 (x0, x1, x2, ()))
    kernel_rfl
theorem loops (n : Nat) : LoopsOk cfg (pick (cal n)) (lam n) fin (loopsOf cfg.blk code) := by
  have h : loopsOf cfg.blk code = [(0, b0)] := by kernel_rfl
  rw [h]
  intro p hp K st r hr
  simp only [List.mem_cons, List.not_mem_nil, or_false] at hp
  rcases hp with rfl
  · have hr' : (match absSt sin0 st with | some (x, _) => spec_l1Stands.l0 n (fun _ => K (mkSt sout0 ())) n x.1 x.2.1 x.2.2.1 | none => none) = some r := hr
    split at hr'
    · rename_i x es hx
      rw [l0_eq] at hr'
      exact ⟨sin0, sout0, n, x, es, hx, hr'⟩
    · cases hr'
theorem F_eq (n : Nat) (x0 : ByteArray) (x1 : Int) : spec_l1Stands.F n x0 x1 = exK cfg (pick (cal n)) (lam n) fin code (fun _ _ => none) (mkSt shp (x0, x1, ())) fin := by
  kernel_rfl
def pfn (n : Nat) : PFn := mkFn shp outs (fun x => spec_l1Stands.F n x.1 x.2.1) out
theorem ok (n : Nat) : (pfn n).Ok Go.Proofs.Tryd.prog 52 :=
  mkFn_ok (fn := Go.Proofs.Tryd.f52) (code := code) Go.Proofs.Tryd.func52 (by kernel_rfl) (by decide) (C := cfg) (Φ := pick (cal n)) (Λ := lam n) (into := into) hT (cal_ok n) (by kernel_rfl) rfl (by decide) rfl (fun _ => rfl) (loops n)
    (fun x r h => by
      have e := F_eq n x.1 x.2.1
      exact e.symm.trans h)
end spec_l1Stands
end
/-! ### loop.example/g01158/spec.JoinStrings -/
section
namespace spec_JoinStrings
noncomputable def code : Code := (Go.Proofs.Tryd.f29.body).getD .skip
abbrev shp : Shape := [(0, .one (.row (.str) false)), (1, .one (.str))]
abbrev outs : List KD := [.one (.str), .one (.bool)]
abbrev R : Type := ByteArray × Bool
def out : R → denL outs := fun r => (r.1, r.2, ())
def into : denL outs → R := fun y => (y.1, y.2.1)
def cfg : Cfg := ⟨ty, 44, [], fun i => match Nat.beq i 0 with | true => .loop | false => .plain, fun _ => none⟩
def cal (n : Nat) : List (Nat × PFn) := [(52, spec_l1Stands.pfn n)]
theorem cal_ok (n : Nat) : ∀ g, (pick (cal n) g).Ok Go.Proofs.Tryd.prog g := pick_ok (by
  intro p hp
  simp only [cal, List.mem_cons, List.not_mem_nil, or_false] at hp
  rcases hp with rfl
  · exact spec_l1Stands.ok n)
def fin : St → Option R := finOf ty [.tmp 4, .tmp 5] outs into
abbrev sin0 : Shape := [(0, .one (.row (.str) false)), (1, .one (.str)), (6, .one (.str)), (7, .one (.int .i64))]
abbrev sout0 : Shape := [(6, .one (.str))]
def lam (n : Nat) : Nat → (St → Option R) → St → Option R := fun i => match Nat.beq i 0 with | true => (fun K st => match absSt sin0 st with | some (x, _) => spec_JoinStrings.l0 n (fun y0 => K (mkSt sout0 (y0, ()))) n x.1 x.2.1 x.2.2.1 x.2.2.2.1 | none => none) | false => fun _ _ => none
noncomputable def lps : List (Nat × Code) := loopsOf cfg.blk code
noncomputable def b0 : Code := bodyOf lps 0
theorem l0_eq (n : Nat) (K : St → Option R) : ∀ (j : Nat) (x0 : List (ByteArray)) (x1 : ByteArray) (x2 : ByteArray) (x3 : Int), spec_JoinStrings.l0 n (fun y0 => K (mkSt sout0 (y0, ()))) j x0 x1 x2 x3 = iter (roundK cfg (pick (cal n)) (lam n) fin 0 b0 sin0 sout0 K) j (mkSt sin0 (x0, x1, x2, x3, ()))
  | 0, _, _, _, _ => rfl
  | j + 1, x0, x1, x2, x3 => by
    have ih : spec_JoinStrings.l0 n (fun y0 => K (mkSt sout0 (y0, ()))) j = fun x0 x1 x2 x3 => iter (roundK cfg (pick (cal n)) (lam n) fin 0 b0 sin0 sout0 K) j (mkSt sin0 (x0, x1, x2, x3, ())) := funext fun x0 => funext fun x1 => funext fun x2 => funext fun x3 => l0_eq n K j x0 x1 x2 x3
    rw [spec_JoinStrings.l0, ih]
    show _ = roundK cfg (pick (cal n)) (lam n) fin 0 b0 sin0 sout0 K (iter (roundK cfg (pick (cal n)) (lam n) fin 0 b0 sin0 sout0 K) j) (mkSt sin0 (x0, x1, x2, x3, ()))
    kernel_rfl
theorem loops (n : Nat) : LoopsOk cfg (pick (cal n)) (lam n) fin (loopsOf cfg.blk code) := by
  have h : loopsOf cfg.blk code = [(0, b0)] := by kernel_rfl
  rw [h]
  intro p hp K st r hr
  simp only [List.mem_cons, List.not_mem_nil, or_false] at hp
  rcases hp with rfl
  · have hr' : (match absSt sin0 st with | some (x, _) => spec_JoinStrings.l0 n (fun y0 => K (mkSt sout0 (y0, ()))) n x.1 x.2.1 x.2.2.1 x.2.2.2.1 | none => none) = some r := hr
    split at hr'
    · rename_i x es hx
      rw [l0_eq] at hr'
      exact ⟨sin0, sout0, n, x, es, hx, hr'⟩
    · cases hr'
theorem F_eq (n : Nat) (x0 : List (ByteArray)) (x1 : ByteArray) : spec_JoinStrings.F n x0 x1 = exK cfg (pick (cal n)) (lam n) fin code (fun _ _ => none) (mkSt shp (x0, x1, ())) fin := by
  kernel_rfl
def pfn (n : Nat) : PFn := mkFn shp outs (fun x => spec_JoinStrings.F n x.1 x.2.1) out
theorem ok (n : Nat) : (pfn n).Ok Go.Proofs.Tryd.prog 29 :=
  mkFn_ok (fn := Go.Proofs.Tryd.f29) (code := code) Go.Proofs.Tryd.func29 (by kernel_rfl) (by decide) (C := cfg) (Φ := pick (cal n)) (Λ := lam n) (into := into) hT (cal_ok n) (by kernel_rfl) rfl (by decide) rfl (fun _ => rfl) (loops n)
    (fun x r h => by
      have e := F_eq n x.1 x.2.1
      exact e.symm.trans h)
end spec_JoinStrings
end
/-! ### loop.example/g01158/spec.DrawLessString -/
section
namespace spec_DrawLessString
noncomputable def code : Code := (Go.Proofs.Tryd.f30.body).getD .skip
abbrev shp : Shape := [(0, .one (.row (.int .u8) false))]
abbrev outs : List KD := [.one (.str), .one (.str)]
abbrev R : Type := ByteArray × ByteArray
def out : R → denL outs := fun r => (r.1, r.2, ())
def into : denL outs → R := fun y => (y.1, y.2.1)
def cfg : Cfg := ⟨ty, 14, [], fun _ => .plain, fun _ => none⟩
def cal (n : Nat) : List (Nat × PFn) := [(59, spec_l1Cur_any1.pfn n)]
theorem cal_ok (n : Nat) : ∀ g, (pick (cal n) g).Ok Go.Proofs.Tryd.prog g := pick_ok (by
  intro p hp
  simp only [cal, List.mem_cons, List.not_mem_nil, or_false] at hp
  rcases hp with rfl
  · exact spec_l1Cur_any1.ok n)
def fin : St → Option R := finOf ty [.tmp 2, .tmp 3] outs into
def lam (n : Nat) : Nat → (St → Option R) → St → Option R := fun _ => fun _ _ => none
theorem loops (n : Nat) : LoopsOk cfg (pick (cal n)) (lam n) fin (loopsOf cfg.blk code) := by
  have h : loopsOf cfg.blk code = [] := by kernel_rfl
  rw [h]
  intro p hp
  cases hp
theorem F_eq (n : Nat) (x0 : List (Int)) : spec_DrawLessString.F n x0 = exK cfg (pick (cal n)) (lam n) fin code (fun _ _ => none) (mkSt shp (x0, ())) fin := by
  kernel_rfl
def pfn (n : Nat) : PFn := mkFn shp outs (fun x => spec_DrawLessString.F n x.1) out
theorem ok (n : Nat) : (pfn n).Ok Go.Proofs.Tryd.prog 30 :=
  mkFn_ok (fn := Go.Proofs.Tryd.f30) (code := code) Go.Proofs.Tryd.func30 (by kernel_rfl) (by decide) (C := cfg) (Φ := pick (cal n)) (Λ := lam n) (into := into) hT (cal_ok n) (by kernel_rfl) rfl (by decide) rfl (fun _ => rfl) (loops n)
    (fun x r h => by
      have e := F_eq n x.1
      exact e.symm.trans h)
end spec_DrawLessString
end
/-! ### loop.example/g01158/impl.LessString -/
section
namespace impl_LessString
noncomputable def code : Code := (Go.Proofs.Tryd.f31.body).getD .skip
abbrev shp : Shape := [(0, .one (.str)), (1, .one (.str))]
abbrev outs : List KD := [.one (.bool)]
abbrev R : Type := Bool
def out : R → denL outs := fun r => (r, ())
def into : denL outs → R := fun y => y.1
def cfg : Cfg := ⟨ty, 8, [], fun _ => .plain, fun _ => none⟩
def cal (n : Nat) : List (Nat × PFn) := []
theorem cal_ok (n : Nat) : ∀ g, (pick (cal n) g).Ok Go.Proofs.Tryd.prog g := pick_ok (by
  intro p hp
  cases hp)
def fin : St → Option R := finOf ty [.tmp 4] outs into
def lam (n : Nat) : Nat → (St → Option R) → St → Option R := fun _ => fun _ _ => none
theorem loops (n : Nat) : LoopsOk cfg (pick (cal n)) (lam n) fin (loopsOf cfg.blk code) := by
  have h : loopsOf cfg.blk code = [] := by kernel_rfl
  rw [h]
  intro p hp
  cases hp
theorem F_eq (n : Nat) (x0 : ByteArray) (x1 : ByteArray) : impl_LessString.F n x0 x1 = exK cfg (pick (cal n)) (lam n) fin code (fun _ _ => none) (mkSt shp (x0, x1, ())) fin := by
  kernel_rfl
def pfn (n : Nat) : PFn := mkFn shp outs (fun x => impl_LessString.F n x.1 x.2.1) out
theorem ok (n : Nat) : (pfn n).Ok Go.Proofs.Tryd.prog 31 :=
  mkFn_ok (fn := Go.Proofs.Tryd.f31) (code := code) Go.Proofs.Tryd.func31 (by kernel_rfl) (by decide) (C := cfg) (Φ := pick (cal n)) (Λ := lam n) (into := into) hT (cal_ok n) (by kernel_rfl) rfl (by decide) rfl (fun _ => rfl) (loops n)
    (fun x r h => by
      have e := F_eq n x.1 x.2.1
      exact e.symm.trans h)
end impl_LessString
end
/-! ### loop.example/g01158/spec.LessString -/
section
namespace spec_LessString
noncomputable def code : Code := (Go.Proofs.Tryd.f32.body).getD .skip
abbrev shp : Shape := [(0, .one (.str)), (1, .one (.str))]
abbrev outs : List KD := [.one (.bool)]
abbrev R : Type := Bool
def out : R → denL outs := fun r => (r, ())
def into : denL outs → R := fun y => y.1
def cfg : Cfg := ⟨ty, 8, [], fun _ => .plain, fun _ => none⟩
def cal (n : Nat) : List (Nat × PFn) := []
theorem cal_ok (n : Nat) : ∀ g, (pick (cal n) g).Ok Go.Proofs.Tryd.prog g := pick_ok (by
  intro p hp
  cases hp)
def fin : St → Option R := finOf ty [.tmp 4] outs into
def lam (n : Nat) : Nat → (St → Option R) → St → Option R := fun _ => fun _ _ => none
theorem loops (n : Nat) : LoopsOk cfg (pick (cal n)) (lam n) fin (loopsOf cfg.blk code) := by
  have h : loopsOf cfg.blk code = [] := by kernel_rfl
  rw [h]
  intro p hp
  cases hp
theorem F_eq (n : Nat) (x0 : ByteArray) (x1 : ByteArray) : spec_LessString.F n x0 x1 = exK cfg (pick (cal n)) (lam n) fin code (fun _ _ => none) (mkSt shp (x0, x1, ())) fin := by
  kernel_rfl
def pfn (n : Nat) : PFn := mkFn shp outs (fun x => spec_LessString.F n x.1 x.2.1) out
theorem ok (n : Nat) : (pfn n).Ok Go.Proofs.Tryd.prog 32 :=
  mkFn_ok (fn := Go.Proofs.Tryd.f32) (code := code) Go.Proofs.Tryd.func32 (by kernel_rfl) (by decide) (C := cfg) (Φ := pick (cal n)) (Λ := lam n) (into := into) hT (cal_ok n) (by kernel_rfl) rfl (by decide) rfl (fun _ => rfl) (loops n)
    (fun x r h => by
      have e := F_eq n x.1 x.2.1
      exact e.symm.trans h)
end spec_LessString
end
/-! ### loop.example/g01158/laws.FnSplitJoin -/
section
namespace laws_FnSplitJoin
noncomputable def code : Code := (Go.Proofs.Tryd.f8.body).getD .skip
abbrev shp : Shape := [(0, .one (.row (.int .u8) false))]
abbrev outs : List KD := [.one (.bool)]
abbrev R : Type := Bool
def out : R → denL outs := fun r => (r, ())
def into : denL outs → R := fun y => y.1
def cfg : Cfg := ⟨ty, 104, [], fun _ => .plain, fun i => match Nat.beq i 7 with | true => some [(0, .one (.row (.int .u8) false)), (3, .one (.str)), (4, .one (.str)), (5, .one (.row (.str) true)), (6, .one (.bool)), (7, .one (.row (.str) true)), (8, .one (.str)), (9, .one (.str)), (10, .one (.bool))] | false => match Nat.beq i 11 with | true => some [(3, .one (.str)), (4, .one (.str)), (5, .one (.row (.str) true)), (6, .one (.bool))] | false => none⟩
def cal (n : Nat) : List (Nat × PFn) := [(15, impl_SplitString.pfn n), (25, laws_vBig.pfn n), (26, spec_DrawSplitString.pfn n), (27, spec_DrawJoinStrings.pfn n), (28, impl_JoinStrings.pfn n), (29, spec_JoinStrings.pfn n), (30, spec_DrawLessString.pfn n), (31, impl_LessString.pfn n), (32, spec_LessString.pfn n)]
theorem cal_ok (n : Nat) : ∀ g, (pick (cal n) g).Ok Go.Proofs.Tryd.prog g := pick_ok (by
  intro p hp
  simp only [cal, List.mem_cons, List.not_mem_nil, or_false] at hp
  rcases hp with rfl | rfl | rfl | rfl | rfl | rfl | rfl | rfl | rfl
  · exact impl_SplitString.ok n
  · exact laws_vBig.ok n
  · exact spec_DrawSplitString.ok n
  · exact spec_DrawJoinStrings.ok n
  · exact impl_JoinStrings.ok n
  · exact spec_JoinStrings.ok n
  · exact spec_DrawLessString.ok n
  · exact impl_LessString.ok n
  · exact spec_LessString.ok n)
def fin : St → Option R := finOf ty [.tmp 2] outs into
def lam (n : Nat) : Nat → (St → Option R) → St → Option R := fun _ => fun _ _ => none
theorem loops (n : Nat) : LoopsOk cfg (pick (cal n)) (lam n) fin (loopsOf cfg.blk code) := by
  have h : loopsOf cfg.blk code = [] := by kernel_rfl
  rw [h]
  intro p hp
  cases hp
noncomputable def code7 : Code := spineAt 6 code
abbrev cut7 : Shape := [(0, .one (.row (.int .u8) false)), (3, .one (.str)), (4, .one (.str)), (5, .one (.row (.str) true)), (6, .one (.bool)), (7, .one (.row (.str) true)), (8, .one (.str)), (9, .one (.str)), (10, .one (.bool))]
noncomputable def code11 : Code := spineAt 3 code7
abbrev cut11 : Shape := [(3, .one (.str)), (4, .one (.str)), (5, .one (.row (.str) true)), (6, .one (.bool))]
theorem c11_eq (n : Nat) (x0 : ByteArray) (x1 : ByteArray) (x2 : List (ByteArray)) (x3 : Bool) : laws_FnSplitJoin.c11 n x0 x1 x2 x3 = exK cfg (pick (cal n)) (lam n) fin code11 (fun _ _ => none) (mkSt cut11 (x0, x1, x2, x3, ())) fin := by
  kernel_rfl
theorem c7_seg (n : Nat) (x0 : List (Int)) (x1 : ByteArray) (x2 : ByteArray) (x3 : List (ByteArray)) (x4 : Bool) (x5 : List (ByteArray)) (x6 : ByteArray) (x7 : ByteArray) (x8 : Bool) : laws_FnSplitJoin.c7 n x0 x1 x2 x3 x4 x5 x6 x7 x8 = exSeg cfg (pick (cal n)) (lam n) fin (fun _ _ => none) cut11 (fun x => laws_FnSplitJoin.c11 n x.1 x.2.1 x.2.2.1 x.2.2.2.1) 2 code7 (mkSt cut7 (x0, x1, x2, x3, x4, x5, x6, x7, x8, ())) := by
  kernel_rfl
theorem c7_eq (n : Nat) (x0 : List (Int)) (x1 : ByteArray) (x2 : ByteArray) (x3 : List (ByteArray)) (x4 : Bool) (x5 : List (ByteArray)) (x6 : ByteArray) (x7 : ByteArray) (x8 : Bool) : laws_FnSplitJoin.c7 n x0 x1 x2 x3 x4 x5 x6 x7 x8 = exK cfg (pick (cal n)) (lam n) fin code7 (fun _ _ => none) (mkSt cut7 (x0, x1, x2, x3, x4, x5, x6, x7, x8, ())) fin := 
  (c7_seg n x0 x1 x2 x3 x4 x5 x6 x7 x8).trans (seg_eq 2 (by kernel_rfl) rfl (by kernel_rfl) (fun x => c11_eq n x.1 x.2.1 x.2.2.1 x.2.2.2.1))
theorem F_seg (n : Nat) (x0 : List (Int)) : laws_FnSplitJoin.F n x0 = exSeg cfg (pick (cal n)) (lam n) fin (fun _ _ => none) cut7 (fun x => laws_FnSplitJoin.c7 n x.1 x.2.1 x.2.2.1 x.2.2.2.1 x.2.2.2.2.1 x.2.2.2.2.2.1 x.2.2.2.2.2.2.1 x.2.2.2.2.2.2.2.1 x.2.2.2.2.2.2.2.2.1) 5 code (mkSt shp (x0, ())) := by
  kernel_rfl
theorem F_eq (n : Nat) (x0 : List (Int)) : laws_FnSplitJoin.F n x0 = exK cfg (pick (cal n)) (lam n) fin code (fun _ _ => none) (mkSt shp (x0, ())) fin :=
  (F_seg n x0).trans (seg_eq 5 (by kernel_rfl) rfl (by kernel_rfl) (fun x => c7_eq n x.1 x.2.1 x.2.2.1 x.2.2.2.1 x.2.2.2.2.1 x.2.2.2.2.2.1 x.2.2.2.2.2.2.1 x.2.2.2.2.2.2.2.1 x.2.2.2.2.2.2.2.2.1))
def pfn (n : Nat) : PFn := mkFn shp outs (fun x => laws_FnSplitJoin.F n x.1) out
theorem ok (n : Nat) : (pfn n).Ok Go.Proofs.Tryd.prog 8 :=
  mkFn_ok (fn := Go.Proofs.Tryd.f8) (code := code) Go.Proofs.Tryd.func8 (by kernel_rfl) (by decide) (C := cfg) (Φ := pick (cal n)) (Λ := lam n) (into := into) hT (cal_ok n) (by kernel_rfl) rfl (by decide) rfl (fun _ => rfl) (loops n)
    (fun x r h => by
      have e := F_eq n x.1
      exact e.symm.trans h)
end laws_FnSplitJoin
end
end Go.Pf
