/- The reflective executor: functions of the library over texts, as callees. -/
import Derived.Test.YtfgncboicamdjaaGreatDoorGwE
import Derived.Test.YtfgncboicamdjaaGreatDoorGwT
import Derived.Sort.Grow
import Derived.Deep.Draws
import Derived.Shelf.Strings.Shaped
import Derived.Shelf.Strings.SplitShaped
import Derived.Shelf.Strings.OnBuilder
import Derived.Shelf.Strconv.Itoa3
import Derived.Lib.AtoiErrMem
noncomputable section
set_option linter.unusedVariables false
set_option linter.unusedSimpArgs false
set_option autoImplicit false
namespace Go.Fx
open Go

/-- A world that only grew. -/
structure Grew (w w' : World) : Prop where
  os : w'.os = w.os
  tape : w'.tape = w.tape ∧ DrawOk w w'
  output : w'.output = w.output
  size : w.heap.size ≤ w'.heap.size
  keep : ∀ b, b < w.heap.size → w'.heap[b]? = w.heap[b]?
theorem Grew.refl (w : World) : Grew w w := ⟨rfl, ⟨rfl, .of (Nat.le_refl _)⟩, rfl, Nat.le_refl _, fun _ _ => rfl⟩
theorem Grew.drew (w : World) (n : Nat) : Grew w (w.drewN n) := ⟨rfl, ⟨rfl, .of (Nat.le_add_right _ _)⟩, rfl, Nat.le_refl _, fun _ _ => rfl⟩
theorem Grew.grow (w : World) (n : Nat) (os : Array Obj) : Grew w (Sort.grow (w.drewN n) os) :=
  ⟨rfl, ⟨rfl, .of (Nat.le_add_right _ _)⟩, rfl, by simp [Sort.grow, World.drewN], fun b hb => Sort.heap_grow_old (w.drewN n) os hb⟩

/-- Numbers, truth values and texts. -/
def scK : KD → Bool
  | .one (.int _) => true
  | .one .bool => true
  | .one .str => true
  | _ => false
def scV : (k : KD) → k.den → Value
  | .one (.int k), n => .int k n
  | .one .bool, b => .bool b
  | .one .str, s => .string s
  | _, _ => undef
def scL : (ks : List KD) → denL ks → List Value
  | [], _ => []
  | k :: ks, x => scV k x.1 :: scL ks x.2

theorem scK_ext {look : Nat → Option AO} {k : KD} (hs : scK k = true) {v : SV} {x : k.den} {es es1 : List Ent} {Γ : Ctx} {u : Value} (h : extK look k v es = some (x, es1)) (hu : v.rep Γ u) : es1 = es ∧ u = scV k x := by
  cases k with
  | one b =>
    cases b with
    | int k =>
      cases v <;> simp only [extK, extB] at h <;> try (simp at h; done)
      split at h
      · rename_i hk
        subst hk
        simp only [Option.some.injEq, Prod.mk.injEq] at h
        obtain ⟨rfl, rfl⟩ := h
        exact ⟨rfl, hu⟩
      · simp at h
    | bool =>
      cases v <;> simp only [extK, extB] at h <;> try (simp at h; done)
      simp only [Option.some.injEq, Prod.mk.injEq] at h
      obtain ⟨rfl, rfl⟩ := h
      exact ⟨rfl, hu⟩
    | str =>
      cases v <;> simp only [extK, extB] at h <;> try (simp at h; done)
      simp only [Option.some.injEq, Prod.mk.injEq] at h
      obtain ⟨rfl, rfl⟩ := h
      exact ⟨rfl, hu⟩
    | _ => cases hs
  | _ => cases hs
theorem scL_ext {look : Nat → Option AO} : ∀ {ks : List KD} (hs : ks.all scK = true) {vs : List SV} {x : denL ks} {es es1 : List Ent} {Γ : Ctx} {us : List Value} (h : extL look ks vs es = some (x, es1)) (hu : SV.repL Γ vs us), es1 = es ∧ us = scL ks x
  | [], _, vs, x, es, es1, Γ, us, h, hu => by
    cases vs with
    | nil =>
      simp only [extL, Option.some.injEq, Prod.mk.injEq] at h
      exact ⟨h.2.symm, hu⟩
    | cons v vs => simp [extL] at h
  | k :: ks, hs, vs, x, es, es1, Γ, us, h, hu => by
    cases vs with
    | nil => simp [extL] at h
    | cons v vs =>
      simp only [List.all_cons, Bool.and_eq_true] at hs
      obtain ⟨u, us', rfl, h1, h2⟩ := hu
      simp only [extL] at h
      split at h
      · rename_i x1 es2 hx
        split at h
        · rename_i xs es3 hxs
          simp only [Option.some.injEq, Prod.mk.injEq] at h
          obtain ⟨rfl, rfl⟩ := h
          obtain ⟨rfl, rfl⟩ := scK_ext hs.1 hx h1
          obtain ⟨rfl, rfl⟩ := scL_ext hs.2 hxs h2
          exact ⟨rfl, rfl⟩
        · simp at h
      · simp at h
theorem scK_bld {k : KD} (hs : scK k = true) (base : Nat) (x : k.den) (os : List AO) (Γ : Ctx) : (bldK base k x os).2 = os ∧ (bldK base k x os).1.rep Γ (scV k x) := by
  cases k with
  | one b =>
    cases b with
    | int k => exact ⟨rfl, rfl⟩
    | bool => exact ⟨rfl, rfl⟩
    | str => exact ⟨rfl, rfl⟩
    | _ => cases hs
  | _ => cases hs
theorem scL_bld : ∀ {ks : List KD} (hs : ks.all scK = true) (base : Nat) (x : denL ks) (os : List AO) (Γ : Ctx), (bldL base ks x os).2 = os ∧ SV.repL Γ (bldL base ks x os).1 (scL ks x)
  | [], _, base, x, os, Γ => ⟨rfl, rfl⟩
  | k :: ks, hs, base, x, os, Γ => by
    simp only [List.all_cons, Bool.and_eq_true] at hs
    obtain ⟨h1, h2⟩ := scK_bld hs.1 base x.1 os Γ
    obtain ⟨h3, h4⟩ := scL_bld hs.2 base x.2 (bldK base k x.1 os).2 Γ
    refine ⟨?_, ⟨_, _, rfl, h2, h4⟩⟩
    show (bldL base ks x.2 (bldK base k x.1 os).2).2 = os
    rw [h3, h1]

/-- The caller behind a call that leaves all its memory alone. -/
theorem grew_ok {w0 : World} {W0 : Nat → Option (Option EK) → Prop} {objs : Nat → Option AO} {φ : Nat → Option (Nat × Nat)} {seen : Nat → Bool} {w : World} (H : Heap w0 W0 (G objs φ seen w) w) {w' : World} (g : Grew w w') (v : SV) (t : List Nat) :
    Heap w0 W0 (Af objs seen ⟨v, [], t⟩ φ w') w' ∧ (G objs φ seen w).le (Af objs seen ⟨v, [], t⟩ φ w') :=
  turned_ok H (es := []) (wr := []) (fun z hz => by cases hz) g.os g.tape g.output g.size (fun b hb _ => g.keep b hb) (fun b cur T fz hb hw => ⟨cur, by rw [g.keep b hb]; exact hw, rfl⟩) (fun p hp => by cases hp) (fun m hm => by cases hm) v t

theorem mkFn_ok_told {P : Program} {g : Nat} {fn : Func} {code : Code} (hf : P.funcs[g]? = some fn) (hb : fn.body = some code) (hname : (fn.name == "runtime.NumGoroutine") = false)
    {R : Type} {shp : Shape} {outs : List KD} {F : shp.den → Option R} {out : R → denL outs} (hs : shp.ks.all scK = true) (ho : outs.all scK = true)
    (hcon : ∀ x r, F x = some r → ∀ w, Gl P w → Calls P g (scL shp.ks x).toArray w fun e w' => e = .returned (valC (scL outs (out r))) ∧ Grew w w') : (mkFn shp outs F out).Ok P g where
  nat := mkFn_nat
  loc := mkFn_loc
  calls := by
    intro w0 W0 objs φ seen w args vals d e h H hv hG
    obtain ⟨x, es, r, h1, h2, h3, h4, rfl⟩ := mkFn_run h
    obtain ⟨rfl, rfl⟩ := scL_ext hs h1 hv
    refine ⟨fn, code, hf, hb, hname, Calls.mono (hcon x r h4 w (hG.now H)) ?_⟩
    rintro e w' ⟨rfl, g'⟩
    obtain ⟨b1, b2⟩ := scL_bld ho (nm d 0) (out r) [] (Af objs seen ⟨valOf (bldL (nm d 0) outs (out r) []).1, [], []⟩ φ w')
    refine ⟨φ, ?_⟩
    have e1 : (⟨valOf (bldL (nm d 0) outs (out r) []).1, killL [] ++ newL (nm d 0) (bldL (nm d 0) outs (out r) []).2, entHs []⟩ : Eff) = ⟨valOf (bldL (nm d 0) outs (out r) []).1, [], []⟩ := by
      rw [b1]
      rfl
    rw [e1]
    exact ⟨valOf_rep b2, grew_ok H g' _ _⟩
end Go.Fx
end

noncomputable section
set_option linter.unusedVariables false
set_option linter.unusedSimpArgs false
set_option autoImplicit false
namespace Go.Fx
open Go Go.Pf

section
variable {P : Program} {ρ : Go.Shelf.Ren} {fn : Func} {code : Code}
abbrev ss2 : Shape := [(0, .one .str), (1, .one .str)]
def containsFn : PFn := mkFn ss2 [.one .bool] (fun x => strContains.F 0 x.1 x.2.1) (fun r => (r, ()))
theorem contains_ok (L : Go.Proofs.LaysM.n144 P ρ) (hS : ∀ w, Gl P w → w.ShapedOpen P) (hf : P.funcs[ρ.f 144]? = some fn) (hb : fn.body = some code) (hname : (fn.name == "runtime.NumGoroutine") = false) : containsFn.Ok P (ρ.f 144) := by
  refine mkFn_ok_told hf hb hname rfl rfl ?_
  rintro ⟨s, sub, u⟩ r h w hG
  have h' : strContains.F 0 s sub = some r := h
  unfold strContains.F at h'
  split at h'
  · rename_i hs
    simp only [Option.some.injEq] at h'
    subst h'
    refine Calls.mono (Go.Proofs.Any.strings_Contains_shaped L s sub w (hS w hG) hs) ?_
    rintro e w' ⟨rfl, rfl⟩
    exact ⟨rfl, Grew.refl _⟩
  · cases h'
def cutFn : PFn := mkFn ss2 [.one .str, .one .str, .one .bool] (fun x => strCut.F 0 x.1 x.2.1) (fun r => (r.1, r.2.1, r.2.2, ()))
theorem cut_ok (L : Go.Proofs.LaysM.n145 P ρ) (hS : ∀ w, Gl P w → w.ShapedOpen P) (hf : P.funcs[ρ.f 145]? = some fn) (hb : fn.body = some code) (hname : (fn.name == "runtime.NumGoroutine") = false) : cutFn.Ok P (ρ.f 145) := by
  refine mkFn_ok_told hf hb hname rfl rfl ?_
  rintro ⟨s, sep, u⟩ r h w hG
  have h' : strCut.F 0 s sep = some r := h
  unfold strCut.F at h'
  split at h'
  · rename_i hs
    simp only [Option.some.injEq] at h'
    subst h'
    refine Calls.mono (Go.Proofs.Any.strings_Cut_shaped L s sep w (hS w hG) hs) ?_
    rintro e w' ⟨rfl, n, rfl⟩
    exact ⟨rfl, Grew.drew _ _⟩
  · cases h'
def itoaFn : PFn := mkFn [(0, .one (.int .i64))] [.one .str] (fun x => strItoa.F 0 x.1) (fun r => (r, ()))
theorem itoa_ok (L : Go.Proofs.LaysM.n171 P ρ) (hT : ∀ w, Gl P w → Lib.TabIs P w "internal/strconv.uint64pow10" .u64 Lib.pow10Tab) (hf : P.funcs[ρ.f 171]? = some fn) (hb : fn.body = some code) (hname : (fn.name == "runtime.NumGoroutine") = false) : itoaFn.Ok P (ρ.f 171) := by
  refine mkFn_ok_told hf hb hname rfl rfl ?_
  rintro ⟨x, u⟩ r h w hG
  have h' : strItoa.F 0 x = some r := h
  unfold strItoa.F at h'
  split at h'
  · rename_i hs
    simp only [Option.some.injEq] at h'
    subst h'
    refine Calls.mono (Go.Proofs.Any.strconv_Itoa L x hs.1 hs.2 w (hT w hG)) ?_
    rintro e w' ⟨rfl, n, os, rfl⟩
    exact ⟨rfl, Grew.grow _ _ _⟩
  · cases h'
/-! ### A text is split -/
def splitFn : PFn := mkFn ss2 [.one (.row .str true)] (fun x => strSplit.F 0 x.1 x.2.1) (fun r => (r, ()))
theorem str_cells (l : List ByteArray) : encAll .str l = l.map Value.string := by
  induction l with
  | nil => rfl
  | cons x l ih =>
    have : encAll .str (x :: l) = [Value.string x] ++ encAll .str l := by
      rw [show x :: l = [x] ++ l from rfl, encAll_append]
      rfl
    rw [this, ih]
    rfl
theorem split_ok (L : Go.Proofs.LaysM.n146 P ρ) (hS : ∀ w, Gl P w → w.ShapedOpen P) (hf : P.funcs[ρ.f 146]? = some fn) (hb : fn.body = some code) (hname : (fn.name == "runtime.NumGoroutine") = false) : splitFn.Ok P (ρ.f 146) where
  nat := mkFn_nat
  loc := mkFn_loc
  calls := by
    intro w0 W0 objs φ seen w args vals d e h H hv hG
    obtain ⟨⟨s, sep, u⟩, es, r, h1, h2, h3, h4, rfl⟩ := mkFn_run h
    obtain ⟨rfl, rfl⟩ := scL_ext (ks := ss2.ks) rfl h1 hv
    have h' : strSplit.F 0 s sep = some r := h4
    unfold strSplit.F at h'
    split at h'
    · rename_i hs
      simp only [Option.some.injEq] at h'
      subst h'
      refine ⟨fn, code, hf, hb, hname, Calls.mono (Go.Proofs.Any.strings_Split_shaped L s sep w (hS w (hG.now H)) hs.1 hs.2) ?_⟩
      rintro e w' ⟨rfl, rfl⟩
      have hlen := Lib.splitB_all sep hs.2 0 (Lib.countB s sep) s rfl
      have hseen : seen (nm d 0) = false := by
        have h3' : (!seen (nm d 0) && true) = true := h3
        simpa using h3'
      have hle : (Lib.countB s sep + 1) ≤ maxLen := by
        have := Lib.countB_le sep hs.2 s.size s (Nat.le_refl _)
        unfold maxLen
        omega
      obtain ⟨q1, q2, q3⟩ := row_new (e := .str) (l := Lib.splitB sep 0 (Lib.countB s sep) s) (m := nm d 0) (cap := Lib.countB s sep + 1) (n := Lib.countB s sep + 1) (T := ρ.t 9) (cur := ((Lib.splitB sep 0 (Lib.countB s sep) s).map Value.string).toArray) H hseen hlen.symm (Nat.le_refl _) hle (by simp [EK.sz, hlen]) (fun i v hi => by
        rw [str_cells] at hi
        rw [List.getElem?_toArray]
        exact hi)
      exact ⟨_, q1, q2, q3⟩
    · cases h'
/-! ### Texts are joined -/
def joinFn : PFn := mkFn [(0, .one (.row .str false)), (1, .one .str)] [.one .str] (fun x => strJoin.F 0 x.1 x.2.1) (fun r => (r, ()))
theorem below_grew {w w' : World} (h : Go.RowKit.Below w.heap.size w w') (hd : DrawOk w w') : Grew w w' := ⟨h.os, ⟨h.tape, hd⟩, h.output, h.size, h.block⟩
theorem join_ok (hD : ∀ w w' : World, DrawOk w w') (L : Go.Proofs.Lays.n156 P ρ) (X : Go.Proofs.Builder.Extra P ρ) (hf : P.funcs[ρ.f 156]? = some fn) (hb : fn.body = some code) (hname : (fn.name == "runtime.NumGoroutine") = false) : joinFn.Ok P (ρ.f 156) where
  nat := mkFn_nat
  loc := mkFn_loc
  calls := by
    intro w0 W0 objs φ seen w args vals d e h H hv hG
    obtain ⟨⟨xs, sep, u⟩, es, r, h1, h2, h3, h4, rfl⟩ := mkFn_run h
    cases u
    have h' : strJoin.F 0 xs sep = some r := h4
    unfold strJoin.F at h'
    split at h'
    · rename_i hs
      simp only [Option.some.injEq] at h'
      subst h'
      have h1' : extL objs [.one (.row .str false), .one .str] args [] = some ((xs, sep, ()), es) := h1
      cases args with
      | nil => simp [extL] at h1'
      | cons a0 rest =>
        obtain ⟨V0, Vs, rfl, hv0, hvs⟩ := hv
        simp only [extL] at h1'
        split at h1'
        · rename_i x1 es1 hx
          split at h1'
          · rename_i y1 es2 hy
            simp only [Option.some.injEq, Prod.mk.injEq] at h1'
            obtain ⟨⟨rfl, hy1⟩, rfl⟩ := h1'
            have hx' : extB objs (.row .str false) a0 [] = some (x1, es1) := by simpa only [extK] using hx
            have hy' : extL objs [.one .str] rest es1 = some (y1, es2) := by
              exact hy
            obtain ⟨rfl, rfl⟩ := scL_ext (ks := [.one .str]) rfl hy' hvs
            subst hy1
            have fin : ∀ w', Grew w w' → entHs es2 = entHs es2 → killL es2 = [] → ∃ φ', (⟨valOf (bldL (nm d 0) [.one .str] ((⟨(Lib.join (x1.map (·.data.toList)) sep.data.toList).toArray⟩ : ByteArray), ()) []).1, killL es2 ++ newL (nm d 0) (bldL (nm d 0) [.one .str] ((⟨(Lib.join (x1.map (·.data.toList)) sep.data.toList).toArray⟩ : ByteArray), ()) []).2, entHs es2⟩ : Eff).val.rep
                (Af objs seen ⟨valOf (bldL (nm d 0) [.one .str] ((⟨(Lib.join (x1.map (·.data.toList)) sep.data.toList).toArray⟩ : ByteArray), ()) []).1, killL es2 ++ newL (nm d 0) (bldL (nm d 0) [.one .str] ((⟨(Lib.join (x1.map (·.data.toList)) sep.data.toList).toArray⟩ : ByteArray), ()) []).2, entHs es2⟩ φ' w') (.string ⟨(Lib.join (x1.map (·.data.toList)) sep.data.toList).toArray⟩) ∧
                Heap w0 W0 (Af objs seen ⟨valOf (bldL (nm d 0) [.one .str] ((⟨(Lib.join (x1.map (·.data.toList)) sep.data.toList).toArray⟩ : ByteArray), ()) []).1, killL es2 ++ newL (nm d 0) (bldL (nm d 0) [.one .str] ((⟨(Lib.join (x1.map (·.data.toList)) sep.data.toList).toArray⟩ : ByteArray), ()) []).2, entHs es2⟩ φ' w') w' ∧
                (G objs φ seen w).le (Af objs seen ⟨valOf (bldL (nm d 0) [.one .str] ((⟨(Lib.join (x1.map (·.data.toList)) sep.data.toList).toArray⟩ : ByteArray), ()) []).1, killL es2 ++ newL (nm d 0) (bldL (nm d 0) [.one .str] ((⟨(Lib.join (x1.map (·.data.toList)) sep.data.toList).toArray⟩ : ByteArray), ()) []).2, entHs es2⟩ φ' w') := by
              intro w' g _ hk
              rw [hk]
              exact ⟨φ, rfl, grew_ok H g _ _⟩
            have hvals : ([V0] ++ scL [.one .str] (sep, ())).toArray = #[V0, .string sep] := rfl
            refine ⟨fn, code, hf, hb, hname, ?_⟩
            have hvals' : (V0 :: scL [.one .str] (sep, ())).toArray = #[V0, .string sep] := rfl
            rw [hvals']
            rcases ext_row (Γ := G objs φ seen w) hx' hv0 with ⟨rfl, rfl, rfl⟩ | ⟨hh, win, ro, l0, rfl, rfl, ho, rfl, hown, hok, A, cap, rfl, hc, hA⟩
            · have hes : es2 = [⟨none, false⟩] := by
                simp only [extB, List.nil_append, Option.some.injEq, Prod.mk.injEq, true_and] at hx'
                exact hx'.symm
              refine Calls.mono (Go.Proofs.Any.strings_Join_none L X none 0 sep w) ?_
              rintro e w' ⟨rfl, rfl⟩
              exact fin _ (Grew.refl _) rfl (by rw [hes]; rfl)
            · have hkill : killL ([] ++ [⟨some (hh, win), false⟩]) = [] := rfl
              rcases Nat.eq_zero_or_pos (win.view l0).length with h0 | h0
              · have hnil : win.view l0 = [] := List.length_eq_zero_iff.1 h0
                refine Calls.mono (by rw [h0]; exact Go.Proofs.Any.strings_Join_none L X A cap sep w) ?_
                rintro e w' ⟨rfl, rfl⟩
                have := fin _ (Grew.refl _) rfl hkill
                rw [hnil] at this ⊢
                exact this
              · obtain ⟨b, o, hφ, rfl⟩ := hA.resolve_left (by omega)
                obtain ⟨_, ⟨A1, n1, c1, hV⟩, hsl⟩ := hv0
                obtain ⟨_, _, _, hread, _, _⟩ := sl_reads H ho hsl
                have hblk : b < w.heap.size := H.lt hh _ b o ho hφ
                have hcon := Go.Proofs.Any.strings_Join L X b (o + win.off * EK.sz .str) cap (win.view l0) sep w (fun j x hj => by
                  have := hread _ rfl j (.string x) (by rw [str_cells, List.getElem?_map, hj]; rfl)
                  rw [add_spot] at this
                  exact this) hblk hs.1 hc hs.2
                refine Calls.mono hcon ?_
                rintro e w' ⟨rfl, hbel⟩
                exact fin _ (below_grew hbel (hD _ _)) rfl hkill
          · simp at h1'
        · simp at h1'
    · cases h'
/-! ### A number is read -/
def parseFn : PFn := mkFn [(0, .one .str)] [.one (.int .i64), .one .bool] (fun x => strParse.F 0 x.1) (fun r => (r.1, r.2, ()))
theorem grew_bytes (w : World) (T : TypeId) (t : ByteArray) : Grew w (Lib.bytesWorld w T t) := by
  have hb : Go.RowKit.Below w.heap.size w (Lib.bytesWorld w T t) := Lib.bytesWorld_below w T t
  exact ⟨hb.os, ⟨hb.tape, .of (by
    show w.drawn ≤ (Lib.bytesWorld w T t).drawn
    unfold Lib.bytesWorld
    exact Nat.le_succ _)⟩, hb.output, hb.size, hb.block⟩
end
end Go.Fx
end
