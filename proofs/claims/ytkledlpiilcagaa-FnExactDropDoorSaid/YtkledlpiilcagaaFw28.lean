/- The reflective executor, part 28: functions that compare their first slice with nil; one library function called with several closures. -/
import Derived.Test.YtkledlpiilcagaaFw27
import Derived.Laws.Cover3
set_option linter.unusedVariables false
set_option linter.unusedSimpArgs false
set_option autoImplicit false
namespace Go.Fx
open Go

/-! ### 1. One of two callees, by the closure that is handed over -/
def selFn (i f : Nat) (args : List SV) : Bool := match args[i]? with | some (.fn g _) => Nat.beq g f | _ => false
def altFn (sel : List SV → Bool) (A B : PFn) : PFn where
  run := fun args look seen d K => match sel args with
    | true => A.run args look seen d K
    | false => B.run args look seen d K

theorem altFn_ok {P : Program} {g : Nat} {sel : List SV → Bool} {A B : PFn} (hA : A.Ok P g) (hB : B.Ok P g) : (altFn sel A B).Ok P g where
  nat := by
    intro β args look seen d K
    simp only [altFn]
    split
    · exact hA.nat β args look seen d K
    · exact hB.nat β args look seen d K
  loc := by
    refine ⟨fun args look look' seen seen' d ef h S => ?_⟩
    simp only [altFn] at h ⊢
    split at h
    · rename_i hs
      exact hA.loc.loc _ _ _ _ _ _ _ h S
    · rename_i hs
      exact hB.loc.loc _ _ _ _ _ _ _ h S
  calls := by
    intro w0 W0 objs φ seen w args vals d e h H hv
    simp only [altFn] at h
    split at h
    · exact hA.calls w0 W0 objs φ seen w args vals d e h H hv
    · exact hB.calls w0 W0 objs φ seen w args vals d e h H hv

/-! ### 2. A slice compared with nil -/
theorem run_eql_nil {P : Program} (w : World) {t e : TypeId} (a : Option Addr) (l c : Nat) (h : P.underlying t = some (.slice e)) : (binOp .eql t (.slice a l c) (.slice none 0 0)).run P w = .ok (.bool a.isNone) w := by
  simp only [binOp]
  simp [run_equal_slice_nil w t e a l c h, asBool]

theorem wp_value {P : Program} {o : Oper} {a : Act} {w w' : World} {v : Value} {K : Act → World → Prop} {Q : Exit → Act → World → Prop} (h : (execOp a.eval o).run P w = .ok (.value v) w') (hK : K (a.put o.dst v) w') : o.wp P a w K Q := by
  unfold Oper.wp
  rw [h]
  exact hK

/-- The state behind the comparison. -/
def nilSt (d3 d4 : Nat) (b : Bool) (st : St) : St := Rec.apply ⟨1, some d4, [], ⟨.bool b, [], []⟩⟩ (Rec.apply ⟨0, some d3, [], ⟨.top, [], []⟩⟩ st)

def noOper : Oper := ⟨none, .move (.tmp 0), 0, "", #[], none⟩
/-- The parts of such a function. -/
structure NilParts where
  r0 : Code
  id : Nat
  o1 : Oper
  o2 : Oper
  cnd : Code
  rest : Code
def nilParts : Code → NilParts
  | .seq r0 (.seq (.seq (.region id ops _) cnd) rest) => match ops.toList with
    | [o1, o2] => ⟨r0, id, o1, o2, cnd, rest⟩
    | _ => ⟨.skip, 0, noOper, noOper, .skip, .skip⟩
  | _ => ⟨.skip, 0, noOper, noOper, .skip, .skip⟩

section
variable {P : Program} {R : Type} {e : EK} {own : Bool} {outs : List KD} {F : Shape.den [(0, .one (.row e own))] → Option R} {out : R → denL outs}

/-- A function of the program of one slice that compares it with nil. -/
theorem mkFn_ok_nil {g : Nat} {fn : Func} {code : Code} {t d3 d4 u q : Nat} {p : NilParts} (hp : nilParts code = p) (hf : P.funcs[g]? = some fn) (hb : fn.body = some code) (hname : (fn.name == "runtime.NumGoroutine") = false)
    (hcode : code = .seq p.r0 (.seq (.seq (.region p.id #[p.o1, p.o2] false) p.cnd) p.rest))
    (ho1 : p.o1.op = .move (.tmp 0) ∧ p.o1.dst = some d3 ∧ p.o1.guard = none) (ho2 : p.o2.op = .binOp .eql t (.tmp d3) (.const (.slice none 0 0)) q ∧ p.o2.dst = some d4 ∧ p.o2.guard = none)
    {C : Cfg} {Φ : Nat → PFn} {Λ : Nat → (St → Option R) → St → Option R} {into : denL outs → R}
    (hT : TyOk P C.ty) (hΦ : ∀ g, (Φ g).Ok P g) (hN : C.N = fn.ntmps) (hnp : C.np = [0]) (hsl : 1 ≤ fn.ntmps) (hown : outs.all ownK = true) (ht : (C.ty t).kind = .slice u) (hd3 : d3 < C.N ∧ d3 ≠ 0) (hd4 : d4 < C.N ∧ d4 ≠ 0)
    (hoi : ∀ y, out (into y) = y)
    (hl0 : loopsOf C.blk p.r0 = []) (hl1 : loopsOf C.blk p.cnd = []) (hl2 : loopsOf C.blk p.rest = [])
    (hF : ∀ (l : List e.den) r, F (l, ()) = some r → ∀ b : Bool, (b = true → l = []) → exK C Φ Λ (finOf C.ty fn.results.toList outs into) p.r0 (fun _ _ => none) (mkSt [(0, .one (.row e own))] (l, ())) (fun st1 =>
      exK C Φ Λ (finOf C.ty fn.results.toList outs into) p.cnd (fun _ _ => none) (nilSt d3 d4 b st1) fun st2 =>
      exK C Φ Λ (finOf C.ty fn.results.toList outs into) p.rest (fun _ _ => none) st2 (finOf C.ty fn.results.toList outs into)) = some r) :
    (mkFn [(0, .one (.row e own))] outs F out).Ok P g where
  nat := mkFn_nat
  loc := mkFn_loc
  calls := by
    intro w0 W0 objs φ seen w args vals d' ef h H hv
    obtain ⟨x, es, r, h1, h2, h3, h4, rfl⟩ := mkFn_run h
    obtain ⟨V, hV0⟩ : ∃ V, vals[0]? = some V := by
      have hl := repL_length hv
      have : args.length = 1 := by
        cases args with
        | nil =>
          have h1' : extL objs [.one (.row e own)] [] [] = some (x, es) := h1
          simp [extL] at h1'
        | cons v vs =>
          cases vs with
          | nil => rfl
          | cons v2 vs =>
            have h1' : extL objs [.one (.row e own)] (v :: v2 :: vs) [] = some (x, es) := h1
            simp only [extL] at h1'
            split at h1' <;> simp at h1'
      cases vals with
      | nil => simp [this] at hl
      | cons V vs => exact ⟨V, rfl⟩
    obtain ⟨φ1, g1⟩ := entered H h1 h2 hv rfl (N := C.N) (by rw [hN]; exact hsl) (pv := fun i => if i = 0 then some V else none) (fun i V' hi => by
      split at hi
      · rename_i h0
        subst h0
        rw [hV0]
        exact hi
      · cases hi)
    have hpv : ∀ i V', (fun i => if i = 0 then some V else none : Nat → Option Value) i = some V' → i ∈ C.np := by
      intro i V' hi
      dsimp only at hi
      split at hi
      · rename_i h0
        rw [hnp, h0]
        simp
      · cases hi
    refine ⟨fn, code, hf, hb, hname, calls_of_wp hf hb ?_⟩
    have fin : ∀ st' φ' a' w', finOf C.ty fn.results.toList outs into st' = some r → Good w (takenOver (G objs φ seen w) es) C.N (fun i => if i = 0 then some V else none) st' φ' a' w' → a'.defers = [] ∧ ∃ v, (results fn a'.tmps).run P w' = .ok v w' ∧
        ∃ φ'', let e : Eff := ⟨valOf (bldL (nm d' 0) outs (out r) []).1, killL es ++ newL (nm d' 0) (bldL (nm d' 0) outs (out r) []).2, entHs es⟩
          e.val.rep (Af objs seen e φ'' w') v ∧ Heap w0 W0 (Af objs seen e φ'' w') w' ∧ (G objs φ seen w).le (Af objs seen e φ'' w') := by
      intro st' φ' a' w' hfin good
      unfold finOf at hfin
      split at hfin
      · rename_i vs hvs
        split at hfin
        · rename_i y es' hy
          split at hfin
          · rename_i hok
            simp only [Option.some.injEq] at hfin
            subst hfin
            rw [hoi]
            obtain ⟨us, hrun, hus⟩ := results_run hT good hvs
            refine ⟨good.defers, _, hrun, ?_⟩
            exact returned_ok H h1 hv h3 hown good.heap hy hok hus
          · simp at hfin
        · simp at hfin
      · simp at hfin
    rw [← hN]
    obtain ⟨l, x2⟩ := x
    cases x2
    generalize ha : (⟨vals.toArray ++ Array.replicate (C.N - vals.toArray.size) undef, []⟩ : Act) = a at *
    have hs := g1.slot 0
    have hs' : SV.rep (ctx (mkSt [(0, .one (.row e own))] (l, ())) φ1 w) (.sl 0 .all) (a.tmps.getD 0 undef) := hs
    obtain ⟨s1, s2, s3⟩ := hs'
    have s3' : Win.ok .all l.length ∧ ∃ A cap, a.tmps.getD 0 undef = .slice A (Win.len .all l.length) cap ∧ (Win.len .all l.length ≤ cap ∧ l.length ≤ Win.off .all + cap) ∧ cap ≤ maxLen ∧
      (cap = 0 ∨ ∃ b o, φ1 0 = some (b, o) ∧ A = some ⟨b, o + Win.off .all * e.sz, none⟩ ∧ ((!own) = false → o + (Win.off .all + cap) * e.sz ≤ bsOf w b)) := s3
    obtain ⟨_, A, cap, hV, hc1, hc2, hc3⟩ := s3'
    have hVV : V = .slice A l.length cap := (g1.par 0 V (by simp)).symm.trans hV
    have hb0 : A.isNone = true → l = [] := by
      intro hA
      rcases hc3 with h0 | ⟨b, o, _, hA', _⟩
      · have : l.length ≤ cap := hc1.1
        exact List.length_eq_zero_iff.1 (by omega)
      · rw [hA'] at hA; cases hA
    have hrun := hF l r h4 A.isNone hb0
    rw [hcode]
    clear ha hs s1 s2 s3 hV
    refine wp_seq (exK_sound hpv hT hΦ p.r0 _ _ _ φ1 _ w _ (by rw [hl0]; intro q hq; cases hq) hrun g1 ?_ (fun id st' φ' a' w' h' good => by cases h') (fun st' φ' a' w' h' good => fin st' φ' a' w' h' good))
    intro st1 φ2 a1 w1 hk1 g2
    show (Code.seq (.seq (.region p.id #[p.o1, p.o2] false) p.cnd) p.rest).wp P _ a1 w1
    refine wp_seq (wp_seq (wp_region ?_))
    have hpar := g2.par 0 V (by simp)
    have hev : a1.eval (.tmp 0) = .slice A l.length cap := hpar.trans hVV
    obtain ⟨⟨d1, op1, t1, ps1, af1, gd1⟩, e1⟩ : ∃ o, p.o1 = o := ⟨_, rfl⟩
    obtain ⟨⟨d2, op2, t2, ps2, af2, gd2⟩, e2⟩ : ∃ o, p.o2 = o := ⟨_, rfl⟩
    rw [e1] at ho1 ⊢
    rw [e2] at ho2 ⊢
    obtain ⟨q1, q2, q3⟩ := ho1
    obtain ⟨q4, q5, q6⟩ := ho2
    simp only at q1 q2 q3 q4 q5 q6
    subst q1 q2 q3 q4 q5 q6
    have hg3 : Good w (takenOver (G objs φ seen w) es) C.N (fun i => if i = 0 then some V else none) (Rec.apply ⟨0, some d3, [], ⟨.top, [], []⟩⟩ st1) φ2 (a1.put (some d3) (.slice A l.length cap)) w1 := by
      refine Good.put (e := ⟨.top, [], []⟩) (w' := w1) (φ' := φ2) g2 (fun d1 hd1 => ?_) trivial ?_ ?_
      · cases hd1
        exact ⟨hd3.1, if_neg hd3.2⟩
      · exact g2.heap
      · exact Ctx.le.refl _
    have hg4 : Good w (takenOver (G objs φ seen w) es) C.N (fun i => if i = 0 then some V else none) (nilSt d3 d4 A.isNone st1) φ2 ((a1.put (some d3) (.slice A l.length cap)).put (some d4) (.bool A.isNone)) w1 := by
      refine Good.put (e := ⟨.bool A.isNone, [], []⟩) (w' := w1) (φ' := φ2) hg3 (fun d1 hd1 => ?_) rfl ?_ ?_
      · cases hd1
        exact ⟨hd4.1, if_neg hd4.2⟩
      · exact hg3.heap
      · exact Ctx.le.refl _
    have hw : ∀ o : Oper, o.guard = none → ∀ y, Region.wanted o y = true := by
      intro o ho y
      simp [Region.wanted, ho]
    have hsz : a1.tmps.size = C.N := g2.size
    show wpOps P _ _ [0, 1] a1 w1
    rw [wpOps_cons]
    unfold wpOp
    simp only [List.getElem?_toArray, List.getElem?_cons_zero]
    rw [if_pos (hw _ rfl _)]
    refine .inl ?_
    have hrun1 : (execOp a1.eval ⟨some d3, .move (.tmp 0), t1, ps1, af1, none⟩).run P w1 = .ok (.value (.slice A l.length cap)) w1 := by
      simp only [execOp, hev]
      simp
    refine wp_value hrun1 ?_
    rw [wpOps_cons]
    unfold wpOp
    simp only [List.getElem?_toArray, List.getElem?_cons_succ, List.getElem?_cons_zero]
    rw [if_pos (hw _ rfl _)]
    refine .inl ?_
    have hev3 : (a1.put (some d3) (.slice A l.length cap)).eval (.tmp d3) = .slice A l.length cap := by
      show (a1.tmps.setIfInBounds d3 (.slice A l.length cap)).getD d3 undef = _
      have hlt : d3 < a1.tmps.size := hsz ▸ hd3.1
      simp [hlt]
    have hrun2 : (execOp (a1.put (some d3) (.slice A l.length cap)).eval ⟨some d4, .binOp .eql t (.tmp d3) (.const (.slice none 0 0)) q, t2, ps2, af2, none⟩).run P w1 = .ok (.value (.bool A.isNone)) w1 := by
      have hev2 : ∀ a : Act, a.eval (.const (.slice none 0 0)) = .slice none 0 0 := fun _ => rfl
      simp only [execOp, hev3, hev2]
      simp [eqGuard, run_eql_nil w1 A l.length cap (ty_slice hT ht)]
    refine wp_value hrun2 ?_
    show p.cnd.wp P _ ((a1.put (some d3) (.slice A l.length cap)).put (some d4) (.bool A.isNone)) w1
    refine exK_sound hpv hT hΦ p.cnd _ _ _ φ2 _ w1 _ (by rw [hl1]; intro q hq; cases hq) hk1 hg4 ?_ (fun id st' φ' a' w' h' good => by cases h') (fun st' φ' a' w' h' good => fin st' φ' a' w' h' good)
    intro st2 φ3 a2 w2 hk2 g5
    show p.rest.wp P _ a2 w2
    refine exK_sound hpv hT hΦ p.rest _ _ _ φ3 _ w2 _ (by rw [hl2]; intro q hq; cases hq) hk2 g5 ?_ (fun id st' φ' a' w' h' good => by cases h') (fun st' φ' a' w' h' good => fin st' φ' a' w' h' good)
    intro st' φ' a' w' h' good
    exact fin st' φ' a' w' h' good
end
end Go.Fx
