/- The reflective executor: rows of operations, drawn orders, renaming; it is sound. -/
import Derived.Test.YtdejcakkibabcaaGwB
import Derived.KernelRfl
import Derived.Deep.LoopGhost
noncomputable section
set_option linter.unusedVariables false
set_option autoImplicit false
namespace Go.Fx
open Go

/-- What the callees ask of a world: here nothing. -/
def Gl (P : Program) (w : World) : Prop := True
end Go.Fx
end

noncomputable section
set_option linter.unusedVariables false
set_option linter.unusedSimpArgs false
set_option autoImplicit false
namespace Go.Fx
open Go

section
variable {P : Program} {w0 : World} {W0 : Nat → Option (Option EK) → Prop} {ty : Ty} {N : Nat} {np : List Nat} {pv : Nat → Option Value}

/-- A callee's abstract effect is what the call does. -/
def CallOk (P : Program) (g : Nat) (objs : Nat → Option AO) (φ : Nat → Option (Nat × Nat)) (seen : Nat → Bool) (w0 : World) (W0 : Nat → Option (Option EK) → Prop) (w : World) (vals : List Value) (e : Eff) : Prop :=
  ∃ fn c, P.funcs[g]? = some fn ∧ fn.body = some c ∧ (fn.name == "runtime.NumGoroutine") = false ∧
    Calls P g vals.toArray w fun
      | .returned v, w' => ∃ φ', e.val.rep (Af objs seen e φ' w') v ∧ Heap w0 W0 (Af objs seen e φ' w') w' ∧ (G objs φ seen w).le (Af objs seen e φ' w')
      | _, _ => False

/-- Every world that may come holds what is asked. -/
def GlOk (P : Program) (w0 : World) (W0 : Nat → Option (Option EK) → Prop) : Prop := ∀ w : World, w0.heap.size ≤ w.heap.size → (∀ b, b < w0.heap.size → ¬ W0 b none → w.heap[b]? = w0.heap[b]?) → Gl P w
theorem GlOk.now {P : Program} {w0 w : World} {W0 : Nat → Option (Option EK) → Prop} {Γ : Ctx} (hG : GlOk P w0 W0) (H : Heap w0 W0 Γ w) : Gl P w := hG w H.size H.keep

structure PFn.Ok (P : Program) (g : Nat) (F : PFn) : Prop where
  nat : F.Natural
  loc : F.Local
  calls : ∀ (w0 : World) (W0 : Nat → Option (Option EK) → Prop) (objs : Nat → Option AO) (φ : Nat → Option (Nat × Nat)) (seen : Nat → Bool) (w : World) (args : List SV) (vals : List Value) (d : Nat) (e : Eff),
    F.run args objs seen d some = some e → Heap w0 W0 (G objs φ seen w) w → SV.repL (G objs φ seen w) args vals → GlOk P w0 W0 → CallOk P g objs φ seen w0 W0 w vals e

/-- No function at all. -/
def noFn : PFn := ⟨fun _ _ _ _ _ => none⟩
theorem noFn_ok (g : Nat) : noFn.Ok P g where
  nat := fun _ _ _ _ _ _ => rfl
  loc := ⟨fun _ _ _ _ _ _ _ h _ => by cases h⟩
  calls := fun _ _ _ _ _ _ _ _ _ _ h => by cases h

/-- After an operation. -/
def NextOk (w0 : World) (W0 : Nat → Option (Option EK) → Prop) (objs : Nat → Option AO) (φ : Nat → Option (Nat × Nat)) (seen : Nat → Bool) (w : World) (e : Eff) (K : Value → World → Prop) : Prop :=
  ∀ v w' φ', e.val.rep (Af objs seen e φ' w') v → Heap w0 W0 (Af objs seen e φ' w') w' → (G objs φ seen w).le (Af objs seen e φ' w') → K v w'

theorem oper_wp {Φ : Nat → PFn} (hT : TyOk P ty) (hΦ : ∀ g, (Φ g).Ok P g) (hG : GlOk P w0 W0) {st : St} {φ : Nat → Option (Nat × Nat)} {a : Act} {w : World} (good : Good w0 W0 N pv st φ a w) {o : Oper} {d : Nat} {e : Eff}
    (h : opK ty Φ (ev st.slots) st.objs st.seen d o.op some = some e) {next : Act → World → Prop} {Q : Exit → Act → World → Prop}
    (hn : NextOk w0 W0 st.objs φ st.seen w e fun v w' => next (a.put o.dst v) w') : o.wp P a w next Q := by
  have hev : ∀ x, (ev st.slots x).rep (G st.objs φ st.seen w) (a.eval x) := fun x => ev_rep good.slot x
  by_cases hc : ∃ c f, o.op = .call c ∧ c.callee = .value f
  · obtain ⟨c, f, hop, hcal⟩ := hc
    rw [hop] at h
    simp only [opK, hcal] at h
    split at h
    · rename_i g caps hf
      have hfr := hev f
      rw [hf] at hfr
      obtain ⟨vs, hfv, hvs⟩ := hfr
      have hargs : SV.repL (G st.objs φ st.seen w) (c.args.toList.map (ev st.slots) ++ caps) (c.args.toList.map a.eval ++ vs) := repL_append (caps_rep hev _) hvs
      obtain ⟨fn, cd, h1, h2, h3, h4⟩ := (hΦ g).calls w0 W0 st.objs φ st.seen w _ _ d e h good.heap hargs hG
      have harr : (c.args.toList.map a.eval ++ vs).toArray = #[] ++ c.args.map a.eval ++ vs.toArray := by
        apply Array.ext'
        simp
      have hrun : (execOp a.eval o).run P w = .ok (.enter g (c.args.toList.map a.eval ++ vs).toArray) w := by
        obtain ⟨dst, op, rt, pos, after, guard⟩ := o
        simp only at hop
        subst hop
        rw [harr]
        simp only [execOp, resolve, hcal, hfv, Deferred.ofValue, Sem.run_bind, Sem.run_pure, Result.andThen_ok, invoke, callFunc, run_program, h1, h3, h2, Option.isNone_some, Bool.false_eq_true, if_false]
      unfold Oper.wp
      rw [hrun, Oper.upon_enter]
      refine Calls.mono h4 fun e1 w' he => ?_
      cases e1 with
      | returned v =>
        obtain ⟨φ', q1, q2, q3⟩ := he
        exact hn v w' φ' q1 q2 q3
      | panicked c => exact he.elim
      | outgrown => exact he.elim
    · simp at h
  · have hnc : ∀ c f, o.op = .call c → c.callee ≠ .value f := fun c f h1 h2 => hc ⟨c, f, h1, h2⟩
    obtain ⟨nx, v, w', φ', hrun, hnx, q1, q2, q3⟩ := opS_does hT Φ good.heap hev hnc h
    unfold Oper.wp
    rw [hrun]
    rcases hnx with rfl | ⟨rfl, rfl⟩
    · exact hn v w' φ' q1 q2 q3
    · exact hn undef w' φ' q1 q2 q3

/-! ### States after an operation -/
theorem np_none (hnp : ∀ i V, pv i = some V → i ∈ np) {d : Nat} (h : (np.all fun i => !Nat.beq i d) = true) : pv d = none := by
  cases hp : pv d with
  | none => rfl
  | some V =>
    have := List.all_eq_true.1 h d (hnp d V hp)
    simp at this

theorem Good.put {st : St} {φ : Nat → Option (Nat × Nat)} {a : Act} {w : World} (good : Good w0 W0 N pv st φ a w) {e : Eff} {v : Value} {w' : World} {φ' : Nat → Option (Nat × Nat)} {dst : Option Tmp}
    (hd : ∀ d, dst = some d → d < N ∧ pv d = none)
    (q1 : e.val.rep (Af st.objs st.seen e φ' w') v) (q2 : Heap w0 W0 (Af st.objs st.seen e φ' w') w') (q3 : (G st.objs φ st.seen w).le (Af st.objs st.seen e φ' w'))
    {i : Nat} {rd : List Nat} :
    Good w0 W0 N pv (Rec.apply ⟨i, dst, rd, e⟩ st) φ' (a.put dst v) w' where
  defers := by
    cases dst with
    | none => exact good.defers
    | some d => simpa [Act.put] using good.defers
  size := by
    cases dst with
    | none => exact good.size
    | some d => simpa [Act.put] using good.size
  heap := q2
  par := by
    intro j V hj
    cases dst with
    | none => exact good.par j V hj
    | some d =>
      have hne : d ≠ j := by
        intro e
        have h1 := (hd d rfl).2
        rw [e, hj] at h1
        cases h1
      have : (a.tmps.setIfInBounds d v).getD j undef = a.tmps.getD j undef := by
        simp [Array.getElem?_setIfInBounds_ne hne]
      exact this.trans (good.par j V hj)
  slot := by
    intro j
    cases dst with
    | none => exact SV.rep_le q3 _ _ (good.slot j)
    | some d =>
      show SV.rep _ (upd st.slots d e.val j) ((a.tmps.setIfInBounds d v).getD j undef)
      have hs : d < a.tmps.size := good.size ▸ (hd d rfl).1
      by_cases hj : j = d
      · subst hj
        rw [upd_same]
        have hv : (a.tmps.setIfInBounds j v).getD j undef = v := by simp [hs]
        rw [hv]
        exact q1
      · rw [upd_ne _ _ hj]
        have : (a.tmps.setIfInBounds d v).getD j undef = a.tmps.getD j undef := by
          simp [Array.getElem?_setIfInBounds_ne (Ne.symm hj)]
        rw [this]
        exact SV.rep_le q3 _ _ (good.slot j)

/-! ### Guards -/
theorem guard_ok {ops : List Oper} {o : Oper} {st : St} {φ : Nat → Option (Nat × Nat)} {a : Act} {w : World} (good : Good w0 W0 N pv st φ a w) {b : Bool} (h : guardOf ops o st = some b) :
    Region.wanted o (yielded ops.toArray a.tmps) = b := by
  unfold guardOf at h
  unfold Region.wanted
  split at h
  · rename_i hg
    simp only [Option.some.injEq] at h
    simp [hg, h]
  · rename_i j want hg
    simp only [hg]
    split at h
    · simp at h
    · rename_i t ht
      have hr := good.slot t
      have hy : yielded ops.toArray a.tmps j = (match a.tmps[t]? with | some (.bool b) => some b | _ => none) := by
        unfold yielded
        rw [List.getElem?_toArray, ht]
        rfl
      rw [hy]
      split at h
      · rename_i b' hs
        rw [hs] at hr
        simp only [SV.rep] at hr
        have hv : a.tmps[t]? = some (.bool b') := by
          cases hq : a.tmps[t]? with
          | none => simp [hq, undef] at hr
          | some u => simpa [hq] using hr
        simp only [Option.some.injEq] at h
        subst h
        rw [hv]
        cases b' <;> rfl
      · rename_i b' hs
        rw [hs] at hr
        simp only [SV.rep] at hr
        have hv : a.tmps[t]? = some (.bool b') := by
          cases hq : a.tmps[t]? with
          | none => simp [hq, undef] at hr
          | some u => simpa [hq] using hr
        simp only [Option.some.injEq] at h
        subst h
        rw [hv]
        cases b' <;> rfl
      · rename_i hs
        rw [hs] at hr
        obtain ⟨vs, hv, hvs⟩ := hr
        simp only [Option.some.injEq] at h
        subst h
        have : (match a.tmps[t]? with | some (.bool b) => some b | _ => none) = (none : Option Bool) := by
          cases hq : a.tmps[t]? with
          | none => rfl
          | some u =>
            have : u = .tuple vs.toArray := by simpa [hq] using hv
            subst this
            rfl
        rw [this]
        rfl
      · simp at h

/-! ### A row of operations in a given order -/
theorem stepA_wp {Φ : Nat → PFn} (hnp : ∀ i V, pv i = some V → i ∈ np) (hT : TyOk P ty) (hΦ : ∀ g, (Φ g).Ok P g) (hG : GlOk P w0 W0) {ops : List Oper} {i : Nat} {st : St} {r : Rec} (h : stepA ty Φ N np ops i st = some r)
    {φ : Nat → Option (Nat × Nat)} {a : Act} {w : World} (good : Good w0 W0 N pv st φ a w) {K : Act → World → Prop} {Q : Exit → Act → World → Prop}
    (hK : ∀ φ' a' w', Good w0 W0 N pv (r.apply st) φ' a' w' → K a' w') : wpOp P ops.toArray Q i K a w := by
  unfold stepA at h
  unfold Go.wpOp
  rw [List.getElem?_toArray]
  split at h
  · simp at h
  · rename_i o ho
    simp only [ho]
    split at h
    · rename_i hd hg
      simp only [Option.some.injEq] at h
      subst h
      rw [guard_ok good hg]
      simp only [Bool.false_eq_true, if_false]
      refine hK φ _ _ (Good.put (e := ⟨.tup [], [], []⟩) (v := undef) (w' := w) (φ' := φ) good ?_ ⟨[], rfl, rfl⟩ good.heap (Ctx.le.refl _))
      intro d hdd
      simp only [dstOk, hdd, Bool.and_eq_true] at hd
      exact ⟨Nat.le_of_ble_eq_true hd.1, np_none hnp hd.2⟩
    · rename_i hd hg
      have hd' : ∀ d, o.dst = some d → d < N ∧ pv d = none := by
        intro d hdd
        simp only [dstOk, hdd, Bool.and_eq_true] at hd
        exact ⟨Nat.le_of_ble_eq_true hd.1, np_none hnp hd.2⟩
      rw [guard_ok good hg]
      simp only [if_true]
      cases he : opK ty Φ (ev st.slots) st.objs st.seen (o.dst.getD N) o.op some with
      | none => simp [he] at h
      | some e =>
        rw [he, Option.bind_some] at h
        refine .inl (oper_wp hT hΦ hG good he fun v w' φ' q1 q2 q3 => ?_)
        split at h
        · simp only [Option.some.injEq] at h
          subst h
          exact hK φ' _ _ (Good.put good hd' q1 q2 q3)
        · split at h
          · rename_i b hb
            simp only [Option.some.injEq] at h
            subst h
            refine hK φ' _ _ (Good.put good hd' (e := ⟨.bool b, e.wr, e.touch⟩) ?_ q2 q3)
            rw [hb] at q1
            exact q1
          · simp at h
    · simp at h

theorem runL_wp {Φ : Nat → PFn} (hnp : ∀ i V, pv i = some V → i ∈ np) (hT : TyOk P ty) (hΦ : ∀ g, (Φ g).Ok P g) (hG : GlOk P w0 W0) {ops : List Oper} {Q : Exit → Act → World → Prop} : ∀ (L : List Nat) (st : St) (rs : List Rec) (st' : St), runL ty Φ N np ops L st = some (rs, st') →
    ∀ (φ : Nat → Option (Nat × Nat)) (a : Act) (w : World), Good w0 W0 N pv st φ a w → (∀ φ' a' w', Good w0 W0 N pv st' φ' a' w' → Q .normal a' w') → wpOps P ops.toArray Q L a w
  | [], st, rs, st', h, φ, a, w, good, hQ => by
    simp only [runL, Option.some.injEq, Prod.mk.injEq] at h
    obtain ⟨rfl, rfl⟩ := h
    exact hQ φ a w good
  | i :: L, st, rs, st', h, φ, a, w, good, hQ => by
    rw [wpOps_cons]
    simp only [runL] at h
    split at h
    · simp at h
    · rename_i r hr
      split at h
      · simp at h
      · rename_i rs1 s1 h1
        simp only [Option.some.injEq, Prod.mk.injEq] at h
        obtain ⟨rfl, rfl⟩ := h
        exact stepA_wp hnp hT hΦ hG hr good fun φ' a' w' g' => runL_wp hnp hT hΦ hG L _ _ _ h1 φ' a' w' g' hQ

/-- What the executor does in a region, as a row of steps. -/
theorem regK_runL {β : Type} {Φ : Nat → PFn} (hΦ : ∀ g, (Φ g).Natural) {ops : List Oper} : ∀ (os : List Oper) (i : Nat) (st : St) (rs : List Rec) (K : List Rec → St → Option β) (x : β), ops.drop i = os →
    regK ty Φ N np ops os i st rs K = some x → ∃ rs' st', runL ty Φ N np ops (List.range' i os.length) st = some (rs', st') ∧ K (rs'.reverse ++ rs) st' = some x
  | [], i, st, rs, K, x, hd, h => ⟨[], st, rfl, h⟩
  | o :: os, i, st, rs, K, x, hd, h => by
    have ho : ops[i]? = some o := by
      have := congrArg (fun l => l[0]?) hd
      simpa using this
    have hd' : ops.drop (i + 1) = os := by
      rw [← List.drop_drop, hd]
      rfl
    have next : ∀ (r : Rec), stepA ty Φ N np ops i st = some r → regK ty Φ N np ops os (i + 1) (r.apply st) (r :: rs) K = some x →
        ∃ rs' st', runL ty Φ N np ops (List.range' i (o :: os).length) st = some (rs', st') ∧ K (rs'.reverse ++ rs) st' = some x := by
      intro r hr hk
      obtain ⟨rs', st', h1, h2⟩ := regK_runL hΦ os (i + 1) _ _ K x hd' hk
      refine ⟨r :: rs', st', ?_, ?_⟩
      · simp only [List.length_cons, List.range'_succ, runL, hr, h1]
      · simpa using h2
    simp only [regK] at h
    split at h
    · rename_i hd1 hg
      exact next _ (by simp only [stepA, ho, hd1, hg]) h
    · rename_i hd1 hg
      rw [opK_nat hΦ] at h
      cases he : opK ty Φ (ev st.slots) st.objs st.seen (o.dst.getD N) o.op some with
      | none => simp [he] at h
      | some e =>
        rw [he, Option.bind_some] at h
        have hs : stepA ty Φ N np ops i st = (match isGuard ops i with
            | false => some ⟨i, o.dst, opReads ops o, e⟩
            | true => match e.val with
              | .bool b => some ⟨i, o.dst, opReads ops o, ⟨.bool b, e.wr, e.touch⟩⟩
              | _ => none) := by
          simp only [stepA, ho, hd1, hg, he, Option.bind_some]
          rfl
        split at h
        · rename_i hi
          exact next _ (by rw [hs, hi]) h
        · rename_i hi
          split at h
          · rename_i b hb
            split at h
            · rename_i hbt
              refine next _ ?_ h
              rw [hs, hi]
              simp only [hb, hbt]
            · rename_i hbf
              have hbf' : b = false := by simpa using hbf
              refine next _ ?_ h
              rw [hs, hi]
              simp only [hb, hbf']
          · simp at h
    · simp at h

end
end Go.Fx
end

noncomputable section
set_option linter.unusedVariables false
set_option linter.unusedSimpArgs false
set_option autoImplicit false
namespace Go.Fx
open Go

/-! ### 1. What is apart can change places -/
theorem St.ext' {s t : St} (h1 : ∀ i, s.slots i = t.slots i) (h2 : ∀ i, s.objs i = t.objs i) (h3 : ∀ i, s.seen i = t.seen i) : s = t := by
  cases s; cases t
  simp only [St.mk.injEq]
  exact ⟨funext h1, funext h2, funext h3⟩

theorem wrObjs_ne : ∀ (l : List (Nat × Option AO)) (f : Nat → Option AO) (h : Nat), h ∉ l.map (·.1) → wrObjs l f h = f h
  | [], f, h, _ => rfl
  | (k, a) :: l, f, h, hn => by
    simp only [List.map_cons, List.mem_cons, not_or] at hn
    simp only [wrObjs]
    rw [wrObjs_ne l _ h hn.2, upd_ne _ _ hn.1]
theorem wrObjs_in : ∀ (l : List (Nat × Option AO)) (f g : Nat → Option AO) (h : Nat), h ∈ l.map (·.1) → wrObjs l f h = wrObjs l g h
  | (k, a) :: l, f, g, h, hn => by
    simp only [wrObjs]
    by_cases hl : h ∈ l.map (·.1)
    · exact wrObjs_in l _ _ h hl
    · have hk : h = k := by
        simp only [List.map_cons, List.mem_cons] at hn
        exact hn.resolve_right hl
      subst hk
      rw [wrObjs_ne l _ h hl, wrObjs_ne l _ h hl, upd_same, upd_same]
theorem wrSeen_ne : ∀ (l : List (Nat × Option AO)) (f : Nat → Bool) (h : Nat), h ∉ l.map (·.1) → wrSeen l f h = f h
  | [], f, h, _ => rfl
  | (k, a) :: l, f, h, hn => by
    simp only [List.map_cons, List.mem_cons, not_or] at hn
    simp only [wrSeen]
    rw [wrSeen_ne l _ h hn.2, upd_ne _ _ hn.1]
theorem wrSeen_in : ∀ (l : List (Nat × Option AO)) (f g : Nat → Bool) (h : Nat), h ∈ l.map (·.1) → wrSeen l f h = wrSeen l g h
  | (k, a) :: l, f, g, h, hn => by
    simp only [wrSeen]
    by_cases hl : h ∈ l.map (·.1)
    · exact wrSeen_in l _ _ h hl
    · have hk : h = k := by
        simp only [List.map_cons, List.mem_cons] at hn
        exact hn.resolve_right hl
      subst hk
      rw [wrSeen_ne l _ h hl, wrSeen_ne l _ h hl, upd_same, upd_same]

theorem disj_spec {xs ys : List Nat} (h : disj xs ys = true) : ∀ x ∈ xs, ∀ y ∈ ys, x ≠ y := by
  intro x hx y hy
  have h1 := List.all_eq_true.1 (List.all_eq_true.1 h x hx) y hy
  intro e
  subst e
  simp at h1

structure Apart (x y : Rec) : Prop where
  dr : ∀ d, x.dst = some d → d ∉ y.reads
  dd : ∀ d, x.dst = some d → y.dst ≠ some d
  rd : ∀ d, y.dst = some d → d ∉ x.reads
  kt : ∀ h ∈ x.keys, h ∉ y.e.touch ∧ h ∉ y.keys
  tk : ∀ h ∈ y.keys, h ∉ x.e.touch

theorem apart_spec {x y : Rec} (h : x.apart y = true) : Apart x y := by
  simp only [Rec.apart, Bool.and_eq_true] at h
  obtain ⟨⟨⟨h1, h2⟩, h3⟩, h4⟩ := h
  have h1 := disj_spec h1
  have h2 := disj_spec h2
  have h3 := disj_spec h3
  have h4 := disj_spec h4
  refine ⟨?_, ?_, ?_, ?_, ?_⟩
  · intro d hd hm
    exact h1 d (by simp [hd]) d (by simp [hm]) rfl
  · intro d hd hm
    exact h1 d (by simp [hd]) d (by simp [hm]) rfl
  · intro d hd hm
    exact h2 d (by simp [hd]) d hm rfl
  · intro k hk
    exact ⟨fun hm => h3 k hk k (by simp [hm]) rfl, fun hm => h3 k hk k (by simp [hm]) rfl⟩
  · intro k hk hm
    exact h4 k hk k hm rfl

theorem apply_slots (r : Rec) (st : St) (i : Nat) : (r.apply st).slots i = if r.dst = some i then r.e.val else st.slots i := by
  unfold Rec.apply
  simp only
  cases h : r.dst with
  | none => simp
  | some d =>
    simp only [upd_eq]
    by_cases hi : i = d
    · simp [hi]
    · have : d ≠ i := fun e => hi e.symm
      simp [hi, this]

theorem apply_comm {x y : Rec} (h : Apart x y) (st : St) : x.apply (y.apply st) = y.apply (x.apply st) := by
  apply St.ext'
  · intro i
    simp only [apply_slots]
    by_cases h1 : x.dst = some i
    · rw [if_pos h1, if_neg (h.dd i h1), if_pos h1]
    · rw [if_neg h1, if_neg h1]
  · intro i
    show wrObjs x.e.wr (wrObjs y.e.wr st.objs) i = wrObjs y.e.wr (wrObjs x.e.wr st.objs) i
    by_cases h1 : i ∈ x.keys
    · have h2 := (h.kt i h1).2
      rw [wrObjs_ne y.e.wr _ i h2]
      exact wrObjs_in _ _ _ _ h1
    · rw [wrObjs_ne x.e.wr _ i h1]
      by_cases h2 : i ∈ y.keys
      · exact wrObjs_in _ _ _ _ h2
      · rw [wrObjs_ne y.e.wr _ i h2, wrObjs_ne y.e.wr _ i h2, wrObjs_ne x.e.wr _ i h1]
  · intro i
    show wrSeen x.e.wr (wrSeen y.e.wr st.seen) i = wrSeen y.e.wr (wrSeen x.e.wr st.seen) i
    by_cases h1 : i ∈ x.keys
    · have h2 := (h.kt i h1).2
      rw [wrSeen_ne y.e.wr _ i h2]
      exact wrSeen_in _ _ _ _ h1
    · rw [wrSeen_ne x.e.wr _ i h1]
      by_cases h2 : i ∈ y.keys
      · exact wrSeen_in _ _ _ _ h2
      · rw [wrSeen_ne y.e.wr _ i h2, wrSeen_ne y.e.wr _ i h2, wrSeen_ne x.e.wr _ i h1]

section
variable {ty : Ty} {N : Nat} {np : List Nat} {Φ : Nat → PFn} {ops : List Oper}

theorem guardOf_loc {o : Oper} {st st' : St} (h : ∀ t ∈ opReads ops o, st'.slots t = st.slots t) : guardOf ops o st' = guardOf ops o st := by
  unfold guardOf
  cases hg : o.guard with
  | none => rfl
  | some gw =>
    obtain ⟨j, want⟩ := gw
    simp only
    cases ht : (ops[j]?).bind (·.dst) with
    | none => rfl
    | some t =>
      simp only
      rw [h t (by simp [opReads, hg, ht])]

theorem stepA_dst {i : Nat} {st : St} {r : Rec} (h : stepA ty Φ N np ops i st = some r) : r.i = i ∧ ∃ o, ops[i]? = some o ∧ r.dst = o.dst ∧ r.reads = opReads ops o := by
  unfold stepA at h
  split at h
  · simp at h
  · rename_i o ho
    split at h
    · simp only [Option.some.injEq] at h; subst h; exact ⟨rfl, o, ho, rfl, rfl⟩
    · cases he : opK ty Φ (ev st.slots) st.objs st.seen (o.dst.getD N) o.op some with
      | none => simp [he] at h
      | some e =>
        rw [he, Option.bind_some] at h
        split at h
        · simp only [Option.some.injEq] at h; subst h; exact ⟨rfl, o, ho, rfl, rfl⟩
        · split at h
          · simp only [Option.some.injEq] at h; subst h; exact ⟨rfl, o, ho, rfl, rfl⟩
          · simp at h
    · simp at h

/-- A step is the same where all that it looks at is the same. -/
theorem stepA_loc (hΦ : ∀ g, (Φ g).Local) {i : Nat} {st st' : St} {r : Rec} (h : stepA ty Φ N np ops i st = some r) (h1 : ∀ t ∈ r.reads, st'.slots t = st.slots t)
    (h2 : ∀ k, k ∈ r.e.touch ++ r.keys → st'.objs k = st.objs k) (h3 : ∀ k, k ∈ r.keys → st'.seen k = st.seen k) : stepA ty Φ N np ops i st' = some r := by
  obtain ⟨_, o, ho, _, hr⟩ := stepA_dst h
  rw [hr] at h1
  unfold stepA at h ⊢
  rw [ho] at h ⊢
  simp only at h ⊢
  rw [guardOf_loc h1]
  split at h
  · exact h
  · rename_i hd hg
    cases he : opK ty Φ (ev st.slots) st.objs st.seen (o.dst.getD N) o.op some with
    | none => simp [he] at h
    | some e =>
      rw [he, Option.bind_some] at h
      have S : Same st.objs st'.objs st.seen st'.seen e := by
        split at h
        · simp only [Option.some.injEq] at h; subst h; exact ⟨h2, h3⟩
        · split at h
          · simp only [Option.some.injEq] at h; subst h; exact ⟨h2, h3⟩
          · simp at h
      have hops : ∀ x ∈ o.op.operands, ev st'.slots x = ev st.slots x := by
        intro x hx
        cases x with
        | tmp t => exact h1 t (by
            unfold opReads
            exact List.mem_append_left _ (List.mem_filterMap.2 ⟨.tmp t, by simpa using hx, rfl⟩))
        | _ => rfl
      rw [opK_loc hΦ hops he S, Option.bind_some]
      exact h
  · simp at h

theorem apply_same {x : Rec} {st : St} {r : Rec} (h : (∀ d, x.dst = some d → d ∉ r.reads) ∧ ∀ k ∈ x.keys, k ∉ r.e.touch ∧ k ∉ r.keys) :
    (∀ t ∈ r.reads, (x.apply st).slots t = st.slots t) ∧ (∀ k, k ∈ r.e.touch ++ r.keys → (x.apply st).objs k = st.objs k) ∧ (∀ k, k ∈ r.keys → (x.apply st).seen k = st.seen k) := by
  refine ⟨?_, ?_, ?_⟩
  · intro t ht
    rw [apply_slots]
    by_cases hx : x.dst = some t
    · exact absurd ht (h.1 t hx)
    · rw [if_neg hx]
  · intro k hk
    refine wrObjs_ne _ _ _ fun hm => ?_
    have := h.2 k hm
    rcases List.mem_append.1 hk with h1 | h1
    · exact this.1 h1
    · exact this.2 h1
  · intro k hk
    exact wrSeen_ne _ _ _ fun hm => (h.2 k hm).2 hk

theorem Apart.sym {x y : Rec} (h : Apart x y) : Apart y x :=
  ⟨h.rd, fun d hd e => h.dd d e hd, h.dr, fun k hk => ⟨h.tk k hk, fun hm => (h.kt k hm).2 hk⟩, fun k hk => (h.kt k hk).1⟩

/-- Two steps that are apart change places. -/
theorem swap (hΦ : ∀ g, (Φ g).Local) {i j : Nat} {st : St} {x y : Rec} (hx : stepA ty Φ N np ops i st = some x) (hy : stepA ty Φ N np ops j (x.apply st) = some y) (h : Apart x y) :
    stepA ty Φ N np ops j st = some y ∧ stepA ty Φ N np ops i (y.apply st) = some x := by
  have hy0 : stepA ty Φ N np ops j st = some y := by
    obtain ⟨a, b, c⟩ := apply_same (x := x) (st := st) (r := y) ⟨h.dr, h.kt⟩
    exact stepA_loc hΦ hy (fun t ht => (a t ht).symm) (fun k hk => (b k hk).symm) (fun k hk => (c k hk).symm)
  refine ⟨hy0, ?_⟩
  obtain ⟨a, b, c⟩ := apply_same (x := y) (st := st) (r := x) ⟨h.sym.dr, h.sym.kt⟩
  exact stepA_loc hΦ hx a b c

theorem runL_cons {i : Nat} {L : List Nat} {st : St} {rs : List Rec} {s : St} : runL ty Φ N np ops (i :: L) st = some (rs, s) ↔
    ∃ r rs1, stepA ty Φ N np ops i st = some r ∧ runL ty Φ N np ops L (r.apply st) = some (rs1, s) ∧ rs = r :: rs1 := by
  simp only [runL]
  constructor
  · intro h
    split at h
    · simp at h
    · rename_i r hr
      split at h
      · simp at h
      · rename_i rs1 s1 h1
        simp only [Option.some.injEq, Prod.mk.injEq] at h
        obtain ⟨rfl, rfl⟩ := h
        exact ⟨r, rs1, hr, h1, rfl⟩
  · rintro ⟨r, rs1, h1, h2, rfl⟩
    simp [h1, h2]

theorem runL_idx : ∀ {L : List Nat} {st : St} {rs : List Rec} {s : St}, runL ty Φ N np ops L st = some (rs, s) → rs.map (·.i) = L
  | [], st, rs, s, h => by
    simp only [runL, Option.some.injEq, Prod.mk.injEq] at h
    simp [h.1.symm]
  | i :: L, st, rs, s, h => by
    obtain ⟨r, rs1, h1, h2, rfl⟩ := runL_cons.1 h
    simp [(stepA_dst h1).1, runL_idx h2]

/-- The first step goes to its place. -/
theorem front (hΦ : ∀ g, (Φ g).Local) {i : Nat} : ∀ (L1 L2 : List Nat) (st : St) (x : Rec) (rs : List Rec) (s : St), stepA ty Φ N np ops i st = some x → runL ty Φ N np ops (L1 ++ L2) (x.apply st) = some (rs, s) →
    (∀ y ∈ rs, y.i ∈ L1 → Apart x y) → L2.all (fun l => !L1.contains l) = true → ∃ rs', runL ty Φ N np ops (L1 ++ i :: L2) st = some (rs', s) ∧ rs'.Perm (x :: rs)
  | [], L2, st, x, rs, s, hx, h, _, _ => ⟨x :: rs, runL_cons.2 ⟨x, rs, hx, h, rfl⟩, .refl _⟩
  | l :: L1, L2, st, x, rs, s, hx, h, hap, hd => by
    rw [List.cons_append] at h
    obtain ⟨y, rs1, h1, h2, rfl⟩ := runL_cons.1 h
    have hyi := (stepA_dst h1).1
    have hxy : Apart x y := hap y (by simp) (by simp [hyi])
    obtain ⟨k1, k2⟩ := swap hΦ hx h1 hxy
    rw [← apply_comm hxy] at h2
    obtain ⟨rs', q1, q2⟩ := front hΦ L1 L2 (y.apply st) x rs1 s k2 h2 (fun z hz hzi => hap z (by simp [hz]) (by simp [hzi]))
      (List.all_eq_true.2 fun l' hl' => by
        have := List.all_eq_true.1 hd l' hl'
        simp at this ⊢
        exact this.2)
    exact ⟨y :: rs', by rw [List.cons_append]; exact runL_cons.2 ⟨y, rs', k1, q1, rfl⟩, (List.Perm.cons y q2).trans (List.Perm.swap x y rs1)⟩

/-- Any order that keeps the binding edges does the same. -/
theorem runL_perm (hΦ : ∀ g, (Φ g).Local) (must : Nat → Nat → Prop) : ∀ (R : List Nat), R.Pairwise (· < ·) → ∀ (L : List Nat), L.Perm R → L.Pairwise (fun x y => ¬ must y x) →
    ∀ (st : St) (rs : List Rec) (s : St), runL ty Φ N np ops R st = some (rs, s) → (∀ x ∈ rs, ∀ y ∈ rs, x.i < y.i → must x.i y.i ∨ Apart x y) →
      ∃ rs', runL ty Φ N np ops L st = some (rs', s) ∧ rs'.Perm rs
  | [], _, L, hL, _, st, rs, s, h, _ => by
    have : L = [] := List.perm_nil.1 hL
    subst this
    exact ⟨rs, h, .refl _⟩
  | i :: R, hR, L, hL, hp, st, rs, s, h, hap => by
    obtain ⟨x, rs1, h1, h2, rfl⟩ := runL_cons.1 h
    have hi : i ∈ L := hL.symm.subset (by simp)
    obtain ⟨L1, L2, rfl⟩ := List.append_of_mem hi
    have hL' : (L1 ++ L2).Perm R := List.Perm.cons_inv (List.perm_middle.symm.trans hL)
    rw [List.pairwise_cons] at hR
    have hp' : (L1 ++ L2).Pairwise (fun x y => ¬ must y x) := hp.sublist (List.Sublist.append (List.Sublist.refl L1) (List.sublist_cons_self i L2))
    obtain ⟨rs2, q1, q2⟩ := runL_perm hΦ must R hR.2 (L1 ++ L2) hL' hp' (x.apply st) rs1 s h2 (fun a ha b hb hab => hap a (by simp [ha]) b (by simp [hb]) hab)
    have hxi := (stepA_dst h1).1
    have hnd : (L1 ++ L2).Nodup := hL'.nodup_iff.2 (hR.2.imp fun h => Nat.ne_of_lt h)
    obtain ⟨rs3, p1, p2⟩ := front hΦ L1 L2 st x rs2 s h1 q1 (fun y hy hyl => by
      have hyR : y.i ∈ R := hL'.subset (List.mem_append_left _ hyl)
      rcases hap x (by simp) y (List.mem_cons_of_mem _ (q2.subset hy)) (by rw [hxi]; exact hR.1 _ hyR) with hm | ha
      · rw [hxi] at hm
        have := (List.pairwise_append.1 hp).2.2 y.i hyl i (by simp)
        exact absurd hm this
      · exact ha)
      (List.all_eq_true.2 fun l hl => by
        have := (List.nodup_append.1 hnd).2.2
        simp only [Bool.not_eq_true', List.contains_eq_mem, decide_eq_false_iff_not]
        intro hm
        exact this l hm l hl rfl)
    exact ⟨rs3, p1, p2.trans (List.Perm.cons x q2)⟩
end

/-! ### 2. The orders that are drawn -/
def Pre (ops : Array Oper) (p x : Nat) : Prop := ∃ o, ops[x]? = some o ∧ ∃ e ∈ o.after, Region.binds .any e = true ∧ e.on = p
def Closed (pre : Nat → Nat → Prop) : List Nat → List Nat → Prop
  | _, [] => True
  | S, x :: L => x ∉ S ∧ (∀ p, pre p x → p ∈ S) ∧ Closed pre (x :: S) L

theorem closed_pairwise {pre must : Nat → Nat → Prop} (hm : ∀ y x, must y x → ∃ p, pre p x ∧ (y = p ∨ must y p)) : ∀ (L S : List Nat), Closed pre S L → (∀ x ∈ S, ∀ y, must y x → y ∈ S) →
    L.Pairwise (fun x y => ¬ must y x) ∧ L.Nodup ∧ ∀ y ∈ L, y ∉ S
  | [], S, _, _ => ⟨.nil, .nil, by simp⟩
  | x :: L, S, h, hS => by
    obtain ⟨h1, h2, h3⟩ := h
    have hx : ∀ y, must y x → y ∈ S := by
      intro y hy
      obtain ⟨p, hp, hyp⟩ := hm y x hy
      rcases hyp with rfl | hyp
      · exact h2 _ hp
      · exact hS p (h2 p hp) y hyp
    obtain ⟨q1, q2, q3⟩ := closed_pairwise hm L (x :: S) h3 (fun z hz y hy => by
      rcases List.mem_cons.1 hz with rfl | hz
      · exact List.mem_cons_of_mem _ (hx y hy)
      · exact List.mem_cons_of_mem _ (hS z hz y hy))
    refine ⟨List.pairwise_cons.2 ⟨fun y hy hmy => ?_, q1⟩, List.nodup_cons.2 ⟨fun hxl => q3 x hxl (by simp), q2⟩, ?_⟩
    · exact q3 y hy (List.mem_cons_of_mem _ (hx y hmy))
    · intro y hy
      rcases List.mem_cons.1 hy with rfl | hy
      · exact h1
      · exact fun hs => q3 y hy (List.mem_cons_of_mem _ hs)

theorem binds_any (m : Region.Mode) (e : Edge) (h : Region.binds .any e = true) : Region.binds m e = true := by
  unfold Region.binds at *
  split at h <;> simp_all

theorem go_closed (md : Region.Mode) (ops : Array Oper) : ∀ (fuel t : Nat) (listed : Array Bool) (S : List Nat), listed.size = ops.size → (∀ j, j < ops.size → (listed.getD j false = true ↔ j ∈ S)) → (∀ j ∈ S, j < ops.size) →
    Closed (Pre ops) S (Region.linearise.go md ops fuel t listed []) ∧ ∀ j ∈ Region.linearise.go md ops fuel t listed [], j < ops.size
  | 0, t, listed, S, hs, hl, hb => by simp [Region.linearise.go, Closed]
  | fuel + 1, t, listed, S, hs, hl, hb => by
    simp only [Region.linearise.go]
    change Closed (Pre ops) S (match (Region.ready md ops listed)[t % (Region.ready md ops listed).length]? with
      | some i => Region.linearise.go md ops fuel (t / (Region.ready md ops listed).length) (listed.setIfInBounds i true) [i]
      | none => [].reverse) ∧ ∀ j ∈ (match (Region.ready md ops listed)[t % (Region.ready md ops listed).length]? with
      | some i => Region.linearise.go md ops fuel (t / (Region.ready md ops listed).length) (listed.setIfInBounds i true) [i]
      | none => [].reverse), j < ops.size
    cases hi : (Region.ready md ops listed)[t % (Region.ready md ops listed).length]? with
    | none => simp [Closed]
    | some i =>
      simp only
      rw [linearise_go_acc]
      have hr := mem_ready.1 (List.mem_of_getElem? hi)
      obtain ⟨h0, o, ho, hall⟩ := hr
      have hlt : i < ops.size := (Array.getElem?_eq_some_iff.1 ho).1
      have hin : listed.getD i false = false := by
        have : i < listed.size := by omega
        simpa [this] using h0
      obtain ⟨c1, c2⟩ := go_closed md ops fuel (t / (Region.ready md ops listed).length) (listed.setIfInBounds i true) (i :: S) (by simpa using hs)
        (fun j hj => by
          by_cases hji : i = j
          · subst hji
            have : i < listed.size := by omega
            simp [this]
          · rw [getD_set_ne false hji, hl j hj]
            simp only [List.mem_cons]
            constructor
            · exact fun h => .inr h
            · rintro (h | h)
              · exact absurd h.symm hji
              · exact h)
        (fun j hj => by
          rcases List.mem_cons.1 hj with rfl | hj
          · exact hlt
          · exact hb j hj)
      refine ⟨⟨fun hS => ?_, ?_, c1⟩, ?_⟩
      · have := (hl i hlt).2 hS
        rw [hin] at this
        cases this
      · rintro p ⟨o', ho', e, he, hbe, rfl⟩
        rw [ho] at ho'
        cases ho'
        have hon := hall e he (binds_any md e hbe)
        have hlt' : e.on < ops.size := by
          rcases Nat.lt_or_ge e.on ops.size with h | h
          · exact h
          · have : listed.size ≤ e.on := by omega
            simp [this] at hon
        exact (hl e.on hlt').1 hon
      · intro j hj
        simp only [List.reverse_singleton, List.singleton_append, List.mem_cons] at hj
        rcases hj with rfl | hj
        · exact hlt
        · exact c2 j hj

theorem countP_lt {α : Type} {p p' : α → Bool} : ∀ {l : List α} {i : α}, (∀ j ∈ l, p' j = true → p j = true) → i ∈ l → p i = true → p' i = false → l.countP p' < l.countP p
  | x :: l, i, h, hi, h1, h2 => by
    have hle : l.countP p' ≤ l.countP p := List.countP_mono_left fun j hj hp => h j (List.mem_cons_of_mem _ hj) hp
    rw [List.countP_cons, List.countP_cons]
    rcases List.mem_cons.1 hi with rfl | hi
    · simp [h1, h2]
      omega
    · have := countP_lt (l := l) (fun j hj hp => h j (List.mem_cons_of_mem _ hj) hp) hi h1 h2
      by_cases hx : p' x = true
      · simp [hx, h x (by simp) hx, this]
      · by_cases hpx : p x = true
        · simp [hx, hpx]
          omega
        · simp [hx, hpx, this]

/-- An order that is stuck has all operations. -/
def Full (md : Region.Mode) (ops : Array Oper) : Prop := ∀ listed : Array Bool, listed.size = ops.size → Region.ready md ops listed = [] → ∀ j, j < ops.size → listed.getD j false = true

theorem go_full (md : Region.Mode) (ops : Array Oper) (hfull : Full md ops) : ∀ (fuel t : Nat) (listed : Array Bool), listed.size = ops.size →
    (List.range ops.size).countP (fun j => !listed.getD j false) ≤ fuel → ∀ j, j < ops.size → listed.getD j false = true ∨ j ∈ Region.linearise.go md ops fuel t listed []
  | 0, t, listed, hs, hc, j, hj => by
    left
    cases hq : listed.getD j false with
    | true => rfl
    | false =>
      have : 0 < (List.range ops.size).countP (fun j => !listed.getD j false) := List.countP_pos_iff.2 ⟨j, List.mem_range.2 hj, by simpa using hq⟩
      omega
  | fuel + 1, t, listed, hs, hc, j, hj => by
    simp only [Region.linearise.go]
    change listed.getD j false = true ∨ j ∈ (match (Region.ready md ops listed)[t % (Region.ready md ops listed).length]? with
      | some i => Region.linearise.go md ops fuel (t / (Region.ready md ops listed).length) (listed.setIfInBounds i true) [i]
      | none => [].reverse)
    cases hi : (Region.ready md ops listed)[t % (Region.ready md ops listed).length]? with
    | none =>
      left
      have hnil : Region.ready md ops listed = [] := by
        cases hr : Region.ready md ops listed with
        | nil => rfl
        | cons x xs =>
          rw [hr] at hi
          have hlt : t % (x :: xs).length < (x :: xs).length := Nat.mod_lt _ (by simp)
          simp at hi
          simp at hlt
          omega
      exact hfull listed hs hnil j hj
    | some i =>
      simp only
      rw [linearise_go_acc]
      obtain ⟨h0, o, ho, hall⟩ := mem_ready.1 (List.mem_of_getElem? hi)
      have hlt : i < ops.size := (Array.getElem?_eq_some_iff.1 ho).1
      have hil : i < listed.size := by omega
      have hin : listed.getD i false = false := by simpa [hil] using h0
      have hc' : (List.range ops.size).countP (fun j => !(listed.setIfInBounds i true).getD j false) ≤ fuel := by
        have := countP_lt (p := fun j => !listed.getD j false) (p' := fun j => !(listed.setIfInBounds i true).getD j false) (l := List.range ops.size) (i := i)
          (fun j hj hp => by
            by_cases hji : i = j
            · subst hji; simp [hil] at hp
            · rw [getD_set_ne false hji] at hp
              exact hp) (List.mem_range.2 hlt) (by simpa using hin) (by simp [hil])
        omega
      rcases go_full md ops hfull fuel (t / (Region.ready md ops listed).length) (listed.setIfInBounds i true) (by simpa using hs) hc' j hj with h | h
      · by_cases hji : i = j
        · subst hji
          right
          simp
        · left
          rwa [getD_set_ne false hji] at h
      · right
        simp [h]

theorem predBits_mem {m : Region.Mode} {e : Edge} : ∀ (es : List Edge) (s : Nat), (Nat.testBit s e.on = true ∨ (e ∈ es ∧ Region.binds m e = true)) →
    Nat.testBit (es.foldl (fun s e => match Region.binds m e with | true => Nat.lor s (2 ^ e.on) | false => s) s) e.on = true
  | [], s, h => by simpa using h
  | x :: es, s, h => by
    rw [List.foldl_cons]
    refine predBits_mem es _ ?_
    rcases h with h | ⟨h, hb⟩
    · left
      split
      · show Nat.testBit (s ||| 2 ^ x.on) e.on = true
        rw [Nat.testBit_or, h]
        rfl
      · exact h
    · rcases List.mem_cons.1 h with rfl | h
      · left
        rw [hb]
        show Nat.testBit (s ||| 2 ^ e.on) e.on = true
        rw [Nat.testBit_or, Nat.testBit_two_pow]
        simp
      · exact .inr ⟨h, hb⟩

theorem pickIx_spec {mask : Nat} : ∀ {ps : List Nat} {i j : Nat}, pickIx mask ps i = some j → ∃ p, i ≤ j ∧ ps[j - i]? = some p ∧ Nat.land p mask = p
  | [], i, j, h => by simp [pickIx] at h
  | p :: ps, i, j, h => by
    have step : pickIx mask ps (i + 1) = some j → ∃ q, i ≤ j ∧ (p :: ps)[j - i]? = some q ∧ Nat.land q mask = q := by
      intro h
      obtain ⟨q, h1, h2, h3⟩ := pickIx_spec h
      refine ⟨q, by omega, ?_, h3⟩
      have : j - i = (j - (i + 1)) + 1 := by omega
      rw [this, List.getElem?_cons_succ]
      exact h2
    simp only [pickIx] at h
    split at h
    · exact step h
    · split at h
      · rename_i hb
        simp only [Option.some.injEq] at h
        subst h
        exact ⟨p, Nat.le_refl _, by simp, Nat.eq_of_beq_eq_true hb⟩
      · exact step h

theorem fillUp_listed {md : Region.Mode} {ops : Array Oper} {ps : List Nat} (hps : ∀ (i p : Nat) (o : Oper), ops[i]? = some o → ps[i]? = some p → ∀ e ∈ o.after, Region.binds md e = true → Nat.testBit p e.on = true) (hlen : ps.length = ops.size)
    {listed : Array Bool} (hs : listed.size = ops.size) (hr : Region.ready md ops listed = []) : ∀ (n mask : Nat), (∀ j, Nat.testBit mask j = true → listed.getD j false = true) → ∀ j, Nat.testBit (fillUp ps n mask) j = true → listed.getD j false = true
  | 0, mask, hm, j, h => hm j h
  | n + 1, mask, hm, j, h => by
    simp only [fillUp] at h
    split at h
    · rename_i i hi
      refine fillUp_listed hps hlen hs hr n _ ?_ j h
      intro k hk
      have hk' : Nat.testBit (mask ||| 2 ^ i) k = true := hk
      rw [Nat.testBit_or, Nat.testBit_two_pow] at hk'
      simp only [Bool.or_eq_true, decide_eq_true_eq] at hk'
      rcases hk' with h1 | rfl
      · exact hm k h1
      · obtain ⟨p, _, h2, h3⟩ := pickIx_spec hi
        have hlt : i < ops.size := by
          have := (List.getElem?_eq_some_iff.1 h2).1
          omega
        cases hq : listed.getD i false with
        | true => rfl
        | false =>
          have hil : i < listed.size := by omega
          have : i ∈ Region.ready md ops listed := mem_ready.2 ⟨by simpa [hil] using hq, ops[i], by simp [hlt], fun e he hb => by
            have hb1 := hps i p ops[i] (by simp [hlt]) (by simpa using h2) e he hb
            refine hm e.on ?_
            have h3' : p &&& mask = p := h3
            rw [← h3', Nat.testBit_and] at hb1
            simp only [Bool.and_eq_true] at hb1
            exact hb1.2⟩
          rw [hr] at this
          cases this
    · exact hm j h

theorem ordersEnd_full {ops : Array Oper} (h : ordersEnd ops.toList = true) (md : Region.Mode) : Full md ops := by
  have key : ∀ m : Region.Mode, (∀ e, Region.binds md e = true → Region.binds m e = true) → Nat.beq (fillUp (ops.toList.map (predBits m)) ops.toList.length 0) (2 ^ ops.toList.length - 1) = true → Full md ops := by
    intro m hm hb listed hs hr j hj
    have he := Nat.eq_of_beq_eq_true hb
    refine fillUp_listed (md := md) (ps := ops.toList.map (predBits m)) ?_ (by simp) hs hr ops.toList.length 0 (by simp) j ?_
    · intro i p o ho hp e hme hbe
      rw [List.getElem?_map] at hp
      have ho' : ops.toList[i]? = some o := by simpa using ho
      rw [ho'] at hp
      simp only [Option.map_some, Option.some.injEq] at hp
      subst hp
      exact predBits_mem _ _ (.inr ⟨by simpa using hme, hm e hbe⟩)
    · rw [he, Nat.testBit_two_pow_sub_one]
      simpa using hj
  simp only [ordersEnd, Bool.and_eq_true] at h
  cases md with
  | text => exact key .text (fun _ h => h) h.1
  | gc => exact key .gc (fun _ h => h) h.2
  | any => exact key .text (fun e h => binds_any .text e h) h.1

theorem schedule_perm {mixed : Bool} {ops : Array Oper} (hfull : ∀ md, Full md ops) {must : Nat → Nat → Prop} (hm : ∀ y x, must y x → ∃ p, Pre ops p x ∧ (y = p ∨ must y p)) (t : Nat) :
    (Region.schedule mixed ops t).Perm (List.range ops.size) ∧ (Region.schedule mixed ops t).Pairwise (fun x y => ¬ must y x) := by
  have key : ∀ md t, (Region.linearise md ops t).Perm (List.range ops.size) ∧ (Region.linearise md ops t).Pairwise (fun x y => ¬ must y x) := by
    intro md t
    have hz : ∀ j, (Array.replicate ops.size false).getD j false = false := by
      intro j
      by_cases h : j < ops.size <;> simp [h]
    obtain ⟨c1, c2⟩ := go_closed md ops ops.size t (Array.replicate ops.size false) [] (by simp) (fun j _ => by rw [hz]; simp) (by simp)
    obtain ⟨p1, p2, _⟩ := closed_pairwise hm _ _ c1 (by simp)
    refine ⟨(List.perm_ext_iff_of_nodup p2 List.nodup_range).2 fun j => ⟨fun h => List.mem_range.2 (c2 j h), fun h => ?_⟩, p1⟩
    rcases go_full md ops (hfull md) ops.size t (Array.replicate ops.size false) (by simp) (by
      refine Nat.le_trans (List.countP_le_length) (by simp)) j (List.mem_range.1 h) with h1 | h1
    · rw [hz] at h1
      cases h1
    · exact h1
  unfold Region.schedule
  split
  · exact key _ _
  · exact key _ _

/-! ### 3. The table of the binding edges -/
def ancStep (acc : List Nat) (o : Oper) : Nat := o.after.toList.foldl (fun s e => match Region.binds .any e with | true => Nat.lor (Nat.lor s (2 ^ e.on)) (acc.getD e.on 0) | false => s) 0
theorem ancs_cons (o : Oper) (os : List Oper) (acc : List Nat) : ancs (o :: os) acc = ancs os (acc ++ [ancStep acc o]) := rfl
theorem ancs_prefix : ∀ (os : List Oper) (acc : List Nat), ∃ l, ancs os acc = acc ++ l
  | [], acc => ⟨[], by simp [ancs]⟩
  | o :: os, acc => by
    obtain ⟨l, hl⟩ := ancs_prefix os (acc ++ [ancStep acc o])
    exact ⟨ancStep acc o :: l, by rw [ancs_cons, hl]; simp⟩
theorem foldl_bits (acc : List Nat) (y : Nat) : ∀ (es : List Edge) (s : Nat), Nat.testBit (es.foldl (fun s e => match Region.binds .any e with | true => Nat.lor (Nat.lor s (2 ^ e.on)) (acc.getD e.on 0) | false => s) s) y = true →
    Nat.testBit s y = true ∨ ∃ e ∈ es, Region.binds .any e = true ∧ (y = e.on ∨ Nat.testBit (acc.getD e.on 0) y = true)
  | [], s, h => .inl h
  | e :: es, s, h => by
    rw [List.foldl_cons] at h
    rcases foldl_bits acc y es _ h with h1 | ⟨e', he', hb, hy⟩
    · cases hb : Region.binds .any e with
      | false => rw [hb] at h1; exact .inl h1
      | true =>
        rw [hb] at h1
        have h1' : Nat.testBit (s ||| 2 ^ e.on ||| acc.getD e.on 0) y = true := h1
        rw [Nat.testBit_or, Nat.testBit_or, Nat.testBit_two_pow] at h1'
        simp only [Bool.or_eq_true, decide_eq_true_eq] at h1'
        rcases h1' with (h | h) | h
        · exact .inl h
        · exact .inr ⟨e, by simp, hb, .inl h.symm⟩
        · exact .inr ⟨e, by simp, hb, .inr h⟩
    · exact .inr ⟨e', by simp [he'], hb, hy⟩
theorem ancs_spec (all : List Oper) : ∀ (os : List Oper) (acc : List Nat), all.drop acc.length = os → ∀ x, acc.length ≤ x → ∀ y, Nat.testBit ((ancs os acc).getD x 0) y = true →
    ∃ p, Pre all.toArray p x ∧ (y = p ∨ Nat.testBit ((ancs os acc).getD p 0) y = true)
  | [], acc, hd, x, hx, y, h => by
    have : (ancs [] acc).getD x 0 = 0 := by simp [ancs, hx]
    rw [this] at h
    simp at h
  | o :: os, acc, hd, x, hx, y, h => by
    have ho : all[acc.length]? = some o := by
      have := congrArg (fun l => l[0]?) hd
      simpa using this
    have hd' : all.drop (acc ++ [ancStep acc o]).length = os := by
      rw [List.length_append, List.length_singleton, ← List.drop_drop, hd]
      rfl
    rw [ancs_cons] at h ⊢
    by_cases hxx : x = acc.length
    · subst hxx
      obtain ⟨l, hl⟩ := ancs_prefix os (acc ++ [ancStep acc o])
      have e1 : (ancs os (acc ++ [ancStep acc o])).getD acc.length 0 = ancStep acc o := by
        rw [hl]
        simp
      rw [e1] at h
      rcases foldl_bits acc y _ _ h with h0 | ⟨e, he, hb, hy⟩
      · simp at h0
      · refine ⟨e.on, ⟨o, by simpa using ho, e, by simpa using he, hb, rfl⟩, ?_⟩
        rcases hy with hy | hy
        · exact .inl hy
        · right
          have hlt : e.on < acc.length := by
            rcases Nat.lt_or_ge e.on acc.length with h | h
            · exact h
            · have : acc.getD e.on 0 = 0 := by simp [h]
              rw [this] at hy
              simp at hy
          have e2 : (ancs os (acc ++ [ancStep acc o])).getD e.on 0 = acc.getD e.on 0 := by
            rw [hl]
            simp [List.getElem?_append_left hlt]
          rw [e2]
          exact hy
    · exact ancs_spec all os _ hd' x (by simp; omega) y h

/-! ### 4. Regions -/
section
variable {P : Program} {w0 : World} {W0 : Nat → Option (Option EK) → Prop} {ty : Ty} {N : Nat} {np : List Nat} {pv : Nat → Option Value}
theorem Good.drew {st : St} {φ : Nat → Option (Nat × Nat)} {a : Act} {w : World} (g : Good w0 W0 N pv st φ a w) : Good w0 W0 N pv st φ a { w with drawn := w.drawn + 1 } :=
  ⟨g.defers, g.size, g.par, g.slot, g.heap.drew⟩

theorem isCoin_is {ops : List Oper} (h : isCoin ops = true) : ops.length = 4 ∧ ancs ops [] = [0, 1, 1, 7] := by
  unfold isCoin at h
  split at h
  · rename_i a b c d e
    simp only [Bool.and_eq_true] at h
    obtain ⟨⟨⟨⟨h1, h2⟩, h3⟩, h4⟩, h5⟩ := h
    rw [e, Nat.eq_of_beq_eq_true h2, Nat.eq_of_beq_eq_true h3, Nat.eq_of_beq_eq_true h4, Nat.eq_of_beq_eq_true h5]
    exact ⟨Nat.eq_of_beq_eq_true h1, rfl⟩
  · cases h
def coinT (x y : Nat) : Bool := Nat.testBit (([0, 1, 1, 7] : List Nat).getD x 0) y
def coinB (a b c d : Nat) : Bool :=
  (a == b || a == c || a == d || b == c || b == d || c == d) || (coinT a b || coinT a c || coinT a d || coinT b c || coinT b d || coinT c d) || ([a, b, c, d] == [0, 1, 2, 3]) || ([a, b, c, d] == [0, 2, 1, 3])
theorem coin_all : ((List.range 4).all fun a => (List.range 4).all fun b => (List.range 4).all fun c => (List.range 4).all fun d => coinB a b c d) = true := by kernel_rfl
theorem coin_orders {s : List Nat} (p1 : s.Perm (List.range 4)) (p2 : s.Pairwise (fun x y => ¬ (fun y x => Nat.testBit (([0, 1, 1, 7] : List Nat).getD x 0) y = true) y x)) : s = [0, 1, 2, 3] ∨ s = [0, 2, 1, 3] := by
  have hl : s.length = 4 := by rw [p1.length_eq]; rfl
  match s, hl with
  | [a, b, c, d], _ =>
    have hm : ∀ x ∈ [a, b, c, d], x ∈ List.range 4 := fun x hx => p1.mem_iff.1 hx
    have hn : [a, b, c, d].Nodup := p1.nodup_iff.2 List.nodup_range
    have h0 := List.all_eq_true.1 (List.all_eq_true.1 (List.all_eq_true.1 (List.all_eq_true.1 coin_all a (hm a (by simp))) b (hm b (by simp))) c (hm c (by simp))) d (hm d (by simp))
    have q2 : [a, b, c, d].Pairwise (fun x y => ¬ coinT x y = true) := p2
    simp only [List.nodup_cons, List.mem_cons, List.not_mem_nil, or_false, not_or, List.pairwise_cons, forall_eq_or_imp, forall_eq] at hn q2
    simp only [coinB, Bool.or_eq_true, beq_iff_eq] at h0
    simp_all
theorem region_wp {β : Type} {Φ : Nat → PFn} (hnp : ∀ i V, pv i = some V → i ∈ np) (hT : TyOk P ty) (hΦ : ∀ g, (Φ g).Ok P g) (hG : GlOk P w0 W0) {id : Nat} {ops : Array Oper} {dr : Bool} {st : St} {x : β} {K : St → Option β} {Q : Exit → Act → World → Prop}
    (h : (regK ty Φ N np ops.toList ops.toList 0 st [] fun rs st' =>
      match dr with
      | false => K st'
      | true => match ordersEnd ops.toList && indep (ancs ops.toList []) rs with
        | true => K st'
        | false => match ordersEnd ops.toList && isCoin ops.toList with
          | true => match runL ty Φ N np ops.toList [0, 2, 1, 3] st with
            | some x => coin (K st') (K x.2)
            | none => none
          | false => none) = some x) {φ : Nat → Option (Nat × Nat)} {a : Act} {w : World} (good : Good w0 W0 N pv st φ a w)
    (hK : ∀ st' φ' a' w', K st' = some x → Good w0 W0 N pv st' φ' a' w' → Q .normal a' w') : (Code.region id ops dr).wp P Q a w := by
  obtain ⟨rs, st', h1, h2⟩ := regK_runL (fun g => (hΦ g).nat) ops.toList 0 st [] _ x (by simp) h
  have hr : List.range' 0 ops.toList.length = List.range ops.size := by simp [List.range_eq_range']
  rw [hr] at h1
  cases dr with
  | false =>
    refine wp_region ?_
    have := runL_wp (Q := Q) hnp hT hΦ hG _ st rs st' h1 φ a w good fun φ' a' w' g' => hK st' φ' a' w' h2 g'
    simpa using this
  | true =>
    simp only at h2
    split at h2
    · rename_i hc
      simp only [Bool.and_eq_true] at hc
      obtain ⟨hb, hi⟩ := hc
      refine wp_region_draw fun t => ?_
      have hm : ∀ y x, (fun y x => Nat.testBit ((ancs ops.toList []).getD x 0) y = true) y x → ∃ p, Pre ops p x ∧ (y = p ∨ (fun y x => Nat.testBit ((ancs ops.toList []).getD x 0) y = true) y p) := by
        intro y x hyx
        have := ancs_spec ops.toList ops.toList [] rfl x (by simp) y hyx
        simpa using this
      obtain ⟨p1, p2⟩ := schedule_perm (mixed := P.follows .mixedOrders) (ordersEnd_full hb) hm t
      obtain ⟨rs', q1, q2⟩ := runL_perm (fun g => (hΦ g).loc) _ (List.range ops.size) (by exact List.pairwise_lt_range) _ p1 p2 st rs st' h1 (by
        intro x hx y hy hxy
        have h0 : indep (ancs ops.toList []) (rs.reverse ++ []) = true := hi
        have := List.all_eq_true.1 (List.all_eq_true.1 h0 x (by simp [hx])) y (by simp [hy])
        simp only [Bool.or_eq_true] at this
        rcases this with (h | h) | h
        · have := Nat.le_of_ble_eq_true h
          omega
        · exact .inl h
        · exact .inr (apart_spec h))
      have := runL_wp (Q := Q) hnp hT hΦ hG _ st rs' st' q1 φ a _ good.drew fun φ' a' w' g' => hK st' φ' a' w' h2 g'
      simpa using this
    · split at h2
      · rename_i hc
        simp only [Bool.and_eq_true] at hc
        obtain ⟨hb, hco⟩ := hc
        split at h2
        · rename_i y hy
          obtain ⟨k1, k2⟩ := coin_some h2
          obtain ⟨e1, e2⟩ := isCoin_is hco
          refine wp_region_draw fun t => ?_
          have hm : ∀ y x, (fun y x => Nat.testBit ((ancs ops.toList []).getD x 0) y = true) y x → ∃ p, Pre ops p x ∧ (y = p ∨ (fun y x => Nat.testBit ((ancs ops.toList []).getD x 0) y = true) y p) := by
            intro y x hyx
            have := ancs_spec ops.toList ops.toList [] rfl x (by simp) y hyx
            simpa using this
          obtain ⟨p1, p2⟩ := schedule_perm (mixed := P.follows .mixedOrders) (ordersEnd_full hb) hm t
          have hsz : ops.size = 4 := by simpa using e1
          rw [e2] at p2
          rw [hsz] at p1
          have hL := coin_orders p1 p2
          rcases hL with hL | hL
          · have hr4 : List.range ops.size = [0, 1, 2, 3] := by rw [hsz]; rfl
            rw [hr4] at h1
            have := runL_wp (Q := Q) hnp hT hΦ hG _ st rs st' h1 φ a _ good.drew fun φ' a' w' g' => hK st' φ' a' w' k1 g'
            rw [hL]
            simpa using this
          · obtain ⟨rs2, st2⟩ := y
            have := runL_wp (Q := Q) hnp hT hΦ hG _ st rs2 st2 hy φ a _ good.drew fun φ' a' w' g' => hK st2 φ' a' w' k2 g'
            rw [hL]
            simpa using this
        · simp at h2
      · simp at h2
end
end Go.Fx
end

noncomputable section
set_option linter.unusedVariables false
set_option linter.unusedSimpArgs false
set_option autoImplicit false
namespace Go.Fx
open Go

/-! ### 1. Values under new names -/
mutual
def VR (base : Nat) (Es : List Ent) : SV → SV → Prop
  | .top, v' => v' = .top
  | .bool b, v' => v' = .bool b
  | .int k n, v' => v' = .int k n
  | .str s, v' => v' = .str s
  | .nil, v' => v' = .nil ∨ ∃ k own, Es[k]? = some ⟨none, own⟩ ∧ v' = .sl (base + k) .all
  | .nilfn, v' => v' = .nilfn
  | .sl h w, v' => (∃ k own, Es[k]? = some ⟨some (h, w), own⟩ ∧ v' = .sl (base + k) .all) ∨ (∃ k own i, w = .drop i ∧ Es[k]? = some ⟨some (h, .all), own⟩ ∧ v' = .sl (base + k) (.drop i))
  | .ptr h j, v' => ∃ k own, Es[k]? = some ⟨some (h, .all), own⟩ ∧ v' = .ptr (base + k) j
  | .pel h i j, v' => i = 0 ∧ j = 0 ∧ ∃ k own, Es[k]? = some ⟨some (h, .all), own⟩ ∧ v' = .pel (base + k) 0 0
  | .mp h, v' => ∃ k own, Es[k]? = some ⟨some (h, .all), own⟩ ∧ v' = .mp (base + k)
  | .nilmp, v' => v' = .nilmp
  | .fn f cs, v' => ∃ cs', v' = .fn f cs' ∧ VRL base Es cs cs'
  | .agg cs, v' => ∃ cs', v' = .agg cs' ∧ VRL base Es cs cs'
  | .ints n l, v' => v' = .ints n l
  | .tup _, _ => False
def VRL (base : Nat) (Es : List Ent) : List SV → List SV → Prop
  | [], vs' => vs' = []
  | v :: vs, ws => ∃ v' vs', ws = v' :: vs' ∧ VR base Es v v' ∧ VRL base Es vs vs'
end

def OM (Γ : Ctx) (base : Nat) (Es : List Ent) (x : Ent) : AO → Prop
  | ⟨ro', .row e l'⟩ => ro' = !x.own ∧ ((x.src = none ∧ l' = []) ∨ ∃ h w ro l, x.src = some (h, w) ∧ Γ.objs h = some ⟨ro, .row e l⟩ ∧ l' = w.view l ∧ w.ok l.length ∧ (x.own = true → ro = false))
  | ⟨ro', .cells cs'⟩ => ro' = !x.own ∧ ∃ h ro cs, x.src = some (h, .all) ∧ Γ.objs h = some ⟨ro, .cells cs⟩ ∧ VRL base Es cs cs' ∧ (x.own = true → ro = false)
  | ⟨ro', .arr n l'⟩ => ro' = !x.own ∧ ∃ h ro, x.src = some (h, .all) ∧ Γ.objs h = some ⟨ro, .arr n l'⟩ ∧ (x.own = true → ro = false)
  | ⟨ro', .map l'⟩ => ro' = !x.own ∧ ∃ h ro, x.src = some (h, .all) ∧ Γ.objs h = some ⟨ro, .map l'⟩ ∧ (x.own = true → ro = false)
  | ⟨ro', .tab l'⟩ => ro' = !x.own ∧ ((x.src = none ∧ l' = []) ∨ ∃ h ro, x.src = some (h, .all) ∧ Γ.objs h = some ⟨ro, .tab l'⟩ ∧ (x.own = true → ro = false))
  | ⟨_, .byt _⟩ => False

def entPlace (Γ : Ctx) (x : Ent) : Option (Nat × Nat) :=
  match x.src with
  | none => none
  | some (h, w) => match Γ.φ h with
    | none => none
    | some (b, o) => match Γ.objs h with
      | some ⟨_, .row e _⟩ => some (b, o + w.off * e.sz)
      | _ => some (b, o)

/-- A context that has the kept objects under their new names. -/
structure Tgt (Γ Γ' : Ctx) (base : Nat) (Es : List Ent) (F : List AO) : Prop where
  objs : ∀ (k : Nat) (a : AO), F[k]? = some a → Γ'.objs (base + k) = some a
  φ : ∀ (k : Nat) (x : Ent), Es[k]? = some x → Γ'.φ (base + k) = entPlace Γ x
  seen : ∀ k, k < F.length → Γ'.seen (base + k) = true
  bs : ∀ b, Γ'.bs b = Γ.bs b
  mem : ∀ b i, Γ'.mem b i = Γ.mem b i
  len : Es.length = F.length
  om : ∀ (k : Nat) (x : Ent) (a : AO), Es[k]? = some x → F[k]? = some a → OM Γ base Es x a

theorem Tgt.get {Γ Γ' : Ctx} {base : Nat} {Es : List Ent} {F : List AO} (T : Tgt Γ Γ' base Es F) {k : Nat} {x : Ent} (h : Es[k]? = some x) :
    ∃ a, F[k]? = some a ∧ Γ'.objs (base + k) = some a ∧ Γ'.φ (base + k) = entPlace Γ x ∧ Γ'.seen (base + k) = true ∧ OM Γ base Es x a := by
  have hlt : k < F.length := T.len ▸ (List.getElem?_eq_some_iff.1 h).1
  have hF : F[k]? = some F[k] := List.getElem?_eq_getElem hlt
  exact ⟨F[k], hF, T.objs k _ hF, T.φ k x h, T.seen k hlt, T.om k x _ h hF⟩

theorem VRL_length {base : Nat} {Es : List Ent} : ∀ (vs ws : List SV), VRL base Es vs ws → vs.length = ws.length
  | [], ws, h => by simp only [VRL] at h; rw [h]
  | v :: vs, ws, h => by
    simp only [VRL] at h
    obtain ⟨v', vs', rfl, _, h2⟩ := h
    simp [VRL_length vs vs' h2]
mutual
theorem VR_rep {Γ Γ' : Ctx} {base : Nat} {Es : List Ent} {F : List AO} (T : Tgt Γ Γ' base Es F) : ∀ (v v' : SV) (u : Value), VR base Es v v' → v.rep Γ u → v'.rep Γ' u
  | .top, v', u, h, r => by simp only [VR] at h; subst h; exact r
  | .bool b, v', u, h, r => by simp only [VR] at h; subst h; exact r
  | .int k n, v', u, h, r => by simp only [VR] at h; subst h; exact r
  | .str s, v', u, h, r => by simp only [VR] at h; subst h; exact r
  | .nilfn, v', u, h, r => by simp only [VR] at h; subst h; exact r
  | .nilmp, v', u, h, r => by simp only [VR] at h; subst h; exact r
  | .mp h, v', u, hv, r => by
    simp only [VR] at hv
    obtain ⟨k, own, hk, rfl⟩ := hv
    obtain ⟨a, hF, ho, hp, hs, hm⟩ := T.get hk
    obtain ⟨r1, r2, r3⟩ := r
    refine ⟨hs, r2, ?_⟩
    unfold Ctx.mpOk
    rw [ho]
    obtain ⟨ro', o⟩ := a
    cases o with
    | map l' =>
      simp only [OM] at hm
      obtain ⟨_, h', ro, q, hob, _⟩ := hm
      simp only [Option.some.injEq, Prod.mk.injEq, and_true] at q
      subst q
      unfold Ctx.mpOk at r3
      rw [hob] at r3
      obtain ⟨b, o, h4, h5⟩ := r3
      refine ⟨b, o, ?_, h5⟩
      rw [hp]
      simp only [entPlace, h4, hob]
    | _ => trivial
  | .ints n l, v', u, h, r => by simp only [VR] at h; subst h; exact r
  | .tup cs, v', u, h, r => by simp only [VR] at h
  | .nil, v', u, h, r => by
    simp only [VR] at h
    rcases h with rfl | ⟨k, own, hk, rfl⟩
    · exact r
    · obtain ⟨a, hF, ho, hp, hs, hm⟩ := T.get hk
      simp only [SV.rep] at r
      subst r
      refine ⟨hs, ⟨_, _, _, rfl⟩, ?_⟩
      unfold Ctx.slOk
      rw [ho]
      obtain ⟨ro, o⟩ := a
      cases o with
      | row e l =>
        simp only [OM] at hm
        rcases hm.2 with ⟨_, rfl⟩ | ⟨h, w, _, _, q, _⟩
        · exact ⟨trivial, none, 0, rfl, ⟨Nat.le_refl _, Nat.zero_le _⟩, Nat.zero_le _, .inl rfl⟩
        · simp at q
      | cells cs' =>
        simp only [OM] at hm
        obtain ⟨_, h, ro, cs, q, _⟩ := hm
        simp at q
      | byt l => simp only [OM] at hm
      | arr n l => trivial
      | map l => trivial
      | tab l =>
        simp only [OM] at hm
        rcases hm.2 with ⟨_, rfl⟩ | ⟨h, ro, q, _⟩
        · exact fun _ => ⟨none, 0, rfl, Nat.le_refl _, Nat.zero_le _, .inl rfl⟩
        · simp at q
  | .sl h w, v', u, hv, r => by
    simp only [VR] at hv
    rcases hv with ⟨k, own, hk, rfl⟩ | ⟨k, own, i, rfl, hk, rfl⟩
    · skip
      obtain ⟨a, hF, ho, hp, hs, hm⟩ := T.get hk
      obtain ⟨r1, r2, r3⟩ := r
      refine ⟨hs, r2, ?_⟩
      unfold Ctx.slOk
      rw [ho]
      obtain ⟨ro', o⟩ := a
      cases o with
      | row e l' =>
        simp only [OM] at hm
        obtain ⟨hro, hm⟩ := hm
        rcases hm with ⟨q, _⟩ | ⟨h', w', ro, l, q, hob, rfl, hok, hown⟩
        · simp at q
        · simp only [Option.some.injEq, Prod.mk.injEq] at q
          obtain ⟨rfl, rfl⟩ := q
          unfold Ctx.slOk at r3
          rw [hob] at r3
          obtain ⟨_, A, cap, hu, h1, h2, h3⟩ := r3
          refine ⟨trivial, A, cap, ?_, ?_, h2, ?_⟩
          · simp only [Win.len, view_length]; exact hu
          · simp only [Win.len, Win.off, view_length, Nat.zero_add]; exact ⟨h1.1, h1.1⟩
          · rcases h3 with h3 | ⟨b, o, h4, h5, h6⟩
            · exact .inl h3
            · right
              refine ⟨b, o + w.off * e.sz, ?_, ?_, ?_⟩
              · rw [hp]
                simp only [entPlace, h4, hob]
              · simp only [Win.off, Nat.zero_mul, Nat.add_zero]; exact h5
              · intro hr
                have hown' : own = true := by
                  rw [hr] at hro
                  simpa using hro.symm
                have := h6 (hown hown')
                rw [T.bs b, show Win.all.off = 0 from rfl, Nat.zero_add]
                have e1 : (w.off + cap) * e.sz = w.off * e.sz + cap * e.sz := Nat.add_mul _ _ _
                omega
      | cells cs' =>
        simp only [OM] at hm
        obtain ⟨_, h', ro, cs, q, hob, hv, _⟩ := hm
        simp only [Option.some.injEq, Prod.mk.injEq] at q
        obtain ⟨rfl, rfl⟩ := q
        unfold Ctx.slOk at r3
        rw [hob] at r3
        obtain ⟨b, o, cap, h4, h5⟩ := r3 rfl
        intro _
        refine ⟨b, o, cap, ?_, ?_⟩
        · rw [hp]
          simp only [entPlace, h4, hob]
        · rw [← VRL_length _ _ hv]
          exact h5
      | byt l => simp only [OM] at hm
      | arr n l => trivial
      | map l => trivial
      | tab l =>
        simp only [OM] at hm
        obtain ⟨hro, hm⟩ := hm
        rcases hm with ⟨q, _⟩ | ⟨h', ro, q, hob, hown⟩
        · simp at q
        · simp only [Option.some.injEq, Prod.mk.injEq] at q
          obtain ⟨rfl, rfl⟩ := q
          unfold Ctx.slOk at r3
          rw [hob] at r3
          obtain ⟨A, cap, hu, h1, h2, h3⟩ := r3 rfl
          intro _
          refine ⟨A, cap, hu, h1, h2, ?_⟩
          rcases h3 with h3 | ⟨b, o, h4, h5, h6⟩
          · exact .inl h3
          · refine .inr ⟨b, o, ?_, h5, fun hr => ?_⟩
            · rw [hp]
              simp only [entPlace, h4, hob]
            · have hown' : own = true := by
                rw [hr] at hro
                simpa using hro.symm
              rw [T.bs b]
              exact h6 (hown hown')
    · obtain ⟨a, hF, ho, hp, hs, hm⟩ := T.get hk
      obtain ⟨r1, r2, r3⟩ := r
      refine ⟨hs, r2, ?_⟩
      unfold Ctx.slOk
      rw [ho]
      obtain ⟨ro', o⟩ := a
      cases o with
      | row e l' =>
        simp only [OM] at hm
        obtain ⟨hro, hm⟩ := hm
        rcases hm with ⟨q, _⟩ | ⟨h', w', ro, l, q, hob, rfl, hok, hown⟩
        · simp at q
        · simp only [Option.some.injEq, Prod.mk.injEq] at q
          obtain ⟨rfl, rfl⟩ := q
          have hall : Win.all.view l = l := rfl
          rw [hall]
          unfold Ctx.slOk at r3
          rw [hob] at r3
          obtain ⟨hok2, A, cap, hu, h1, h2, h3⟩ := r3
          refine ⟨hok2, A, cap, hu, h1, h2, ?_⟩
          rcases h3 with h3 | ⟨b, o, h4, h5, h6⟩
          · exact .inl h3
          · right
            refine ⟨b, o, ?_, h5, ?_⟩
            · rw [hp]
              simp only [entPlace, h4, hob, Win.off, Nat.zero_mul, Nat.add_zero]
            · intro hr
              have hown' : own = true := by
                rw [hr] at hro
                simpa using hro.symm
              rw [T.bs b]
              exact h6 (hown hown')
      | cells cs' => intro q; cases q
      | tab l => intro q; cases q
      | byt l => simp only [OM] at hm
      | arr n l => trivial
      | map l => trivial
  | .ptr h j, v', u, hv, r => by
    simp only [VR] at hv
    obtain ⟨k, own, hk, rfl⟩ := hv
    obtain ⟨a, hF, ho, hp, hs, hm⟩ := T.get hk
    obtain ⟨r1, r2, r3⟩ := r
    refine ⟨hs, r2, ?_⟩
    unfold Ctx.ptrOk
    rw [ho]
    obtain ⟨ro', o⟩ := a
    cases o with
    | cells cs' =>
      simp only [OM] at hm
      obtain ⟨_, h', ro, cs, q, hob, _, _⟩ := hm
      simp only [Option.some.injEq, Prod.mk.injEq, and_true] at q
      subst q
      unfold Ctx.ptrOk at r3
      rw [hob] at r3
      obtain ⟨b, o, h4, h5⟩ := r3
      refine ⟨b, o, ?_, h5⟩
      rw [hp]
      simp only [entPlace, h4, hob]
    | tab l' =>
      simp only [OM] at hm
      obtain ⟨_, hm⟩ := hm
      rcases hm with ⟨q, _⟩ | ⟨h', ro, q, hob, _⟩
      · simp at q
      · simp only [Option.some.injEq, Prod.mk.injEq, and_true] at q
        subst q
        unfold Ctx.ptrOk at r3
        rw [hob] at r3
        obtain ⟨b, o, h4, h5⟩ := r3
        refine ⟨b, o, ?_, h5⟩
        rw [hp]
        simp only [entPlace, h4, hob]
    | _ => trivial
  | .pel h i j, v', u, hv, r => by
    simp only [VR] at hv
    obtain ⟨rfl, rfl, k, own, hk, rfl⟩ := hv
    obtain ⟨a, hF, ho, hp, hs, hm⟩ := T.get hk
    obtain ⟨r1, r2, r3⟩ := r
    refine ⟨hs, r2, ?_⟩
    unfold Ctx.pelOk
    rw [ho]
    obtain ⟨ro', o⟩ := a
    cases o with
    | cells cs' => trivial
    | map l => trivial
    | tab l => trivial
    | byt l => simp only [OM] at hm
    | row e l' =>
      simp only [OM] at hm
      obtain ⟨hro, hm⟩ := hm
      rcases hm with ⟨q, _⟩ | ⟨h', w', ro, l, q, hob, rfl, hok, hown⟩
      · simp at q
      · simp only [Option.some.injEq, Prod.mk.injEq] at q
        obtain ⟨rfl, rfl⟩ := q
        unfold Ctx.pelOk at r3
        rw [hob] at r3
        obtain ⟨hi, b, o, h4, h5⟩ := r3
        refine ⟨hi, b, o, ?_, h5⟩
        rw [hp]
        simp only [entPlace, h4, hob, Win.off, Nat.zero_mul, Nat.add_zero]
    | arr n l' =>
      simp only [OM] at hm
      obtain ⟨_, h', ro, q, hob, _⟩ := hm
      simp only [Option.some.injEq, Prod.mk.injEq, and_true] at q
      subst q
      unfold Ctx.pelOk at r3
      rw [hob] at r3
      obtain ⟨hi, b, o, h4, h5⟩ := r3
      refine ⟨hi, b, o, ?_, h5⟩
      rw [hp]
      simp only [entPlace, h4, hob]
  | .fn f cs, v', u, hv, r => by
    simp only [VR] at hv
    obtain ⟨cs', rfl, h1⟩ := hv
    obtain ⟨vs, hu, hr⟩ := r
    exact ⟨vs, hu, VRL_rep T cs cs' vs h1 hr⟩
  | .agg cs, v', u, hv, r => by
    simp only [VR] at hv
    obtain ⟨cs', rfl, h1⟩ := hv
    obtain ⟨vs, hu, hr⟩ := r
    exact ⟨vs, hu, VRL_rep T cs cs' vs h1 hr⟩
theorem VRL_rep {Γ Γ' : Ctx} {base : Nat} {Es : List Ent} {F : List AO} (T : Tgt Γ Γ' base Es F) : ∀ (cs cs' : List SV) (vs : List Value), VRL base Es cs cs' → SV.repL Γ cs vs → SV.repL Γ' cs' vs
  | [], cs', vs, h, r => by
    simp only [VRL] at h
    subst h
    exact r
  | c :: cs, ds, vs, h, r => by
    simp only [VRL] at h
    obtain ⟨c', cs', rfl, h1, h2⟩ := h
    obtain ⟨x, xs, rfl, r1, r2⟩ := r
    exact ⟨x, xs, rfl, VR_rep T c c' x h1 r1, VRL_rep T cs cs' xs h2 r2⟩
end

/-- The memory of a kept object. -/
theorem OM_rep {Γ Γ' : Ctx} {base : Nat} {Es : List Ent} {F : List AO} {w : World} (T : Tgt Γ Γ' base Es F) (hobj : ∀ h a, Γ.objs h = some a → oRep Γ w h a) {k : Nat} {x : Ent} {a : AO} (hk : Es[k]? = some x) (ha : F[k]? = some a) :
    oRep Γ' w (base + k) a := by
  obtain ⟨a', hF, ho, hp, hs, hm⟩ := T.get hk
  rw [ha] at hF
  cases hF
  obtain ⟨ro', o⟩ := a
  cases o with
  | row e l' =>
    simp only [OM] at hm
    obtain ⟨hro, hm⟩ := hm
    rcases hm with ⟨q, rfl⟩ | ⟨h, w', ro, l, q, hob, rfl, hok, hown⟩
    · left
      refine ⟨?_, rfl⟩
      rw [hp]
      simp only [entPlace, q]
    · rcases hobj h _ hob with ⟨hn, rfl⟩ | ⟨b, o, hφ, hc, hr⟩
      · left
        refine ⟨?_, ?_⟩
        · rw [hp]
          simp only [entPlace, q, hn]
        · cases w' <;> simp [Win.view]
      · right
        refine ⟨b, o + w'.off * e.sz, ?_, ?_, ?_⟩
        · rw [hp]
          simp only [entPlace, q, hφ, hob]
        · intro i v hv
          rw [encAll_view, List.getElem?_take] at hv
          split at hv
          · rw [List.getElem?_drop] at hv
            have := hc _ v hv
            rw [show o + w'.off * e.sz + i = o + (w'.off * e.sz + i) by omega]
            exact this
          · simp at hv
        · intro hf
          have hown' : x.own = true := by
            rw [hf] at hro
            simpa using hro.symm
          obtain ⟨cur, Ty, h1, h2⟩ := hr (hown hown')
          refine ⟨cur, Ty, h1, ?_⟩
          rw [view_length]
          have h3 := len_le w' l.length hok
          have h4 : (w'.off + w'.len l.length) * e.sz ≤ l.length * e.sz := Nat.mul_le_mul_right _ h3
          rw [Nat.add_mul] at h4
          omega
  | cells cs' =>
    simp only [OM] at hm
    obtain ⟨hro, h, ro, cs, q, hob, hv, hown⟩ := hm
    obtain ⟨b, o, hφ, vs, h1, h2, h3, h4⟩ := hobj h _ hob
    refine ⟨b, o, ?_, vs, VRL_rep T _ _ _ hv h1, h2, h3, fun hf => h4 (hown ?_)⟩
    · rw [hp]
      simp only [entPlace, q, hφ, hob]
    · rw [hf] at hro
      simpa using hro.symm
  | byt l => simp only [OM] at hm
  | tab l' =>
    simp only [OM] at hm
    obtain ⟨hro, hm⟩ := hm
    rcases hm with ⟨q, rfl⟩ | ⟨h, ro, q, hob, hown⟩
    · left
      refine ⟨?_, rfl⟩
      rw [hp]
      simp only [entPlace, q]
    · rcases hobj h _ hob with ⟨hn, rfl⟩ | ⟨b, o, hφ, vs, k1, k2, k3, k4⟩
      · left
        refine ⟨?_, rfl⟩
        rw [hp]
        simp only [entPlace, q, hn]
      · right
        have hr : ro' = false → ro = false := fun hf => hown (by
          rw [hf] at hro
          simpa using hro.symm)
        refine ⟨b, o, ?_, vs, k1, k2, fun i v r hv hr' => ?_, fun hf => k4 (hr hf)⟩
        · rw [hp]
          simp only [entPlace, q, hφ, hob]
        · obtain ⟨A, cap, e1, e2, e3, e4⟩ := k3 i v r hv hr'
          refine ⟨A, cap, e1, e2, e3, ?_⟩
          rcases e4 with e4 | ⟨b1, o1, j1, j2, j3⟩
          · exact .inl e4
          · exact .inr ⟨b1, o1, j1, j2, fun hf => j3 (hr hf)⟩
  | map l' =>
    simp only [OM] at hm
    obtain ⟨hro, h, ro, q, hob, hown⟩ := hm
    obtain ⟨b, o, es, clock, hφ, h3, h4⟩ := hobj h _ hob
    refine ⟨b, o, es, clock, ?_, h3, h4⟩
    rw [hp]
    simp only [entPlace, q, hφ, hob]
  | arr n l' =>
    simp only [OM] at hm
    obtain ⟨hro, h, ro, q, hob, hown⟩ := hm
    obtain ⟨hn, b, o, hφ, h3, h4⟩ := hobj h _ hob
    refine ⟨hn, b, o, ?_, h3, fun hf => h4 (hown ?_)⟩
    · rw [hp]
      simp only [entPlace, q, hφ, hob]
    · rw [hf] at hro
      simpa using hro.symm

/-! ### 2. What is read off and built again -/
/-- The reading from es to es1 and the building from os to os1 agree; under every longer list, p holds and the new objects match. -/
structure Pair (Γ : Ctx) (base : Nat) (es es1 : List Ent) (os os1 : List AO) (p : List Ent → Prop) : Prop where
  ex : ∃ de dd, es1 = es ++ de ∧ os1 = os ++ dd ∧ de.length = dd.length
  om : ∀ r, p (es1 ++ r) ∧ ∀ (k : Nat) (x : Ent) (a : AO), es.length ≤ k → es1[k]? = some x → os1[k]? = some a → OM Γ base (es1 ++ r) x a

theorem Pair.none {Γ : Ctx} {base : Nat} {es : List Ent} {os : List AO} {p : List Ent → Prop} (h : ∀ r, p (es ++ r)) : Pair Γ base es es os os p :=
  ⟨⟨[], [], by simp, by simp, rfl⟩, fun r => ⟨h r, fun k x a hk hx _ => by
    have := (List.getElem?_eq_some_iff.1 hx).1
    omega⟩⟩

theorem Pair.lens {Γ : Ctx} {base : Nat} {es es1 : List Ent} {os os1 : List AO} {p : List Ent → Prop} (h : Pair Γ base es es1 os os1 p) (hl : os.length = es.length) : os1.length = es1.length := by
  obtain ⟨de, dd, h1, h2, h3⟩ := h.ex
  rw [h1, h2, List.length_append, List.length_append, hl, h3]

theorem Pair.seq {Γ : Ctx} {base : Nat} {es es1 es2 : List Ent} {os os1 os2 : List AO} {p q : List Ent → Prop} (hl : os.length = es.length) (h : Pair Γ base es es1 os os1 p) (k : Pair Γ base es1 es2 os1 os2 q) :
    Pair Γ base es es2 os os2 (fun l => p l ∧ q l) := by
  obtain ⟨de, dd, h1, h2, h3⟩ := h.ex
  obtain ⟨de', dd', k1, k2, k3⟩ := k.ex
  have hl1 := h.lens hl
  refine ⟨⟨de ++ de', dd ++ dd', by rw [k1, h1]; simp, by rw [k2, h2]; simp, by simp [h3, k3]⟩, fun r => ⟨⟨?_, (k.om r).1⟩, ?_⟩⟩
  · have := (h.om (de' ++ r)).1
    rw [k1]
    simpa using this
  · intro i x a hi hx ha
    by_cases c : es1.length ≤ i
    · exact (k.om r).2 i x a c hx ha
    · have hx1 : es1[i]? = some x := by
        rw [k1, List.getElem?_append_left (by omega)] at hx
        exact hx
      have ha1 : os1[i]? = some a := by
        rw [k2, List.getElem?_append_left (by omega)] at ha
        exact ha
      have := (h.om (de' ++ r)).2 i x a hi hx1 ha1
      rw [k1]
      simpa using this

theorem Pair.imp {Γ : Ctx} {base : Nat} {es es1 : List Ent} {os os1 : List AO} {p q : List Ent → Prop} (h : Pair Γ base es es1 os os1 p) (hpq : ∀ l, p l → q l) : Pair Γ base es es1 os os1 q :=
  ⟨h.ex, fun r => ⟨hpq _ (h.om r).1, (h.om r).2⟩⟩

/-- One object more. -/
theorem Pair.one {Γ : Ctx} {base : Nat} {es : List Ent} {os : List AO} {x : Ent} {a : AO} {p : List Ent → Prop} (hl : os.length = es.length) (hp : ∀ r, p (es ++ [x] ++ r)) (hm : ∀ r, OM Γ base (es ++ [x] ++ r) x a) :
    Pair Γ base es (es ++ [x]) os (os ++ [a]) p :=
  ⟨⟨[x], [a], rfl, rfl, rfl⟩, fun r => ⟨hp r, fun k y b hk hy hb => by
    have hlt := (List.getElem?_eq_some_iff.1 hy).1
    simp only [List.length_append, List.length_singleton] at hlt
    have hkk : k = es.length := by omega
    subst hkk
    rw [List.getElem?_append_right (Nat.le_refl _)] at hy
    rw [← hl, List.getElem?_append_right (Nat.le_refl _)] at hb
    simp at hy hb
    subst hy; subst hb
    exact hm r⟩⟩

theorem last_get {es : List Ent} {x : Ent} {r : List Ent} : (es ++ [x] ++ r)[es.length]? = some x := by
  simp

section
variable {Γ : Ctx} {w : World} {base : Nat}

theorem litEq_vr {c v : SV} (h : litEq c v = true) (Es : List Ent) : VR base Es v c := by
  unfold litEq at h
  split at h
  · exact .inl rfl
  · exact rfl
  · rename_i f g
    have := Nat.eq_of_beq_eq_true h
    subst this
    exact ⟨[], rfl, rfl⟩
  · simp at h

theorem cloOk_vr {base : Nat} {es : List Ent} : ∀ {rs : List (Bool × Nat)} {cs : List SV}, cloOk es rs cs = true → ∀ r, VRL base (es ++ r) cs (cloSV base rs)
  | [], [], h, r => rfl
  | [], c :: cs, h, r => by simp [cloOk] at h
  | (true, i) :: rs, [], h, r => by simp [cloOk] at h
  | (false, i) :: rs, [], h, r => by simp [cloOk] at h
  | (true, i) :: rs, c :: cs, h, r => by
    cases c <;> try (simp [cloOk] at h; done)
    rename_i hh j
    cases j with
    | succ j => simp [cloOk] at h
    | zero =>
      simp only [cloOk] at h
      split at h
      · rename_i h' own hes
        simp only [Bool.and_eq_true] at h
        have e1 := Nat.eq_of_beq_eq_true h.1
        subst e1
        have hlt := (List.getElem?_eq_some_iff.1 hes).1
        exact ⟨_, _, rfl, ⟨i, own, by rw [List.getElem?_append_left hlt]; exact hes, rfl⟩, cloOk_vr h.2 r⟩
      · simp at h
  | (false, i) :: rs, c :: cs, h, r => by
    cases c <;> try (simp [cloOk] at h; done)
    rename_i hh j q
    cases j with
    | succ j => simp [cloOk] at h
    | zero =>
      cases q with
      | succ q => simp [cloOk] at h
      | zero =>
        simp only [cloOk] at h
        split at h
        · rename_i h' own hes
          simp only [Bool.and_eq_true] at h
          have e1 := Nat.eq_of_beq_eq_true h.1
          subst e1
          have hlt := (List.getElem?_eq_some_iff.1 hes).1
          exact ⟨_, _, rfl, ⟨rfl, rfl, i, own, by rw [List.getElem?_append_left hlt]; exact hes, rfl⟩, cloOk_vr h.2 r⟩
        · simp at h
theorem extB_pair {b : BK} {v : SV} {es es1 : List Ent} {y : b.den} {os : List AO} {u : Value} (h : extB Γ.objs b v es = some (y, es1)) (hu : v.rep Γ u) (hl : os.length = es.length) :
    Pair Γ base es es1 os (bldB base b y os).2 (fun Es => VR base Es v (bldB base b y os).1) := by
  cases b with
  | int k =>
    cases v <;> simp only [extB] at h <;> try (simp at h; done)
    split at h
    · rename_i hk
      subst hk
      simp only [Option.some.injEq, Prod.mk.injEq] at h
      obtain ⟨rfl, rfl⟩ := h
      exact .none fun r => rfl
    · simp at h
  | bool =>
    cases v <;> simp only [extB] at h <;> try (simp at h; done)
    simp only [Option.some.injEq, Prod.mk.injEq] at h
    obtain ⟨rfl, rfl⟩ := h
    exact .none fun r => rfl
  | str =>
    cases v <;> simp only [extB] at h <;> try (simp at h; done)
    simp only [Option.some.injEq, Prod.mk.injEq] at h
    obtain ⟨rfl, rfl⟩ := h
    exact .none fun r => rfl
  | row e own =>
    cases v <;> simp only [extB] at h <;> try (simp at h; done)
    · -- nil
      simp only [Option.some.injEq, Prod.mk.injEq] at h
      obtain ⟨rfl, rfl⟩ := h
      refine .one hl (fun r => ?_) (fun r => ?_)
      · exact .inr ⟨es.length, own, last_get, by simp [bldB, hl]⟩
      · exact ⟨rfl, .inl ⟨rfl, rfl⟩⟩
    · -- sl
      rename_i hh win
      split at h
      · rename_i ro e' l ho
        split at h
        · rename_i he
          subst he
          split at h
          · simp at h
          · rename_i hoo
            simp only [Option.some.injEq, Prod.mk.injEq] at h
            obtain ⟨rfl, rfl⟩ := h
            refine .one hl (fun r => ?_) (fun r => ?_)
            · exact .inl ⟨es.length, own, last_get, by simp [bldB, hl]⟩
            · refine ⟨rfl, .inr ⟨hh, win, ro, l, rfl, ho, rfl, ?_, ?_⟩⟩
              · have h3 := hu.2.2
                unfold Ctx.slOk at h3
                rw [ho] at h3
                exact h3.1
              · intro ho'
                have ho'' : own = true := ho'
                rw [ho''] at hoo
                simpa using hoo
        · simp at h
      · simp at h
  | ref i =>
    cases v <;> simp only [extB] at h <;> try (simp at h; done)
    rename_i hh win
    cases win <;> simp only [extB] at h <;> try (simp at h; done)
    split at h
    · rename_i h' own hes
      split at h
      · rename_i hb
        have := Nat.eq_of_beq_eq_true hb
        subst this
        simp only [Option.some.injEq, Prod.mk.injEq] at h
        obtain ⟨_, rfl⟩ := h
        refine .none fun r => .inl ⟨i, own, ?_, rfl⟩
        have hlt := (List.getElem?_eq_some_iff.1 hes).1
        rw [List.getElem?_append_left hlt]
        exact hes
      · simp at h
    · simp at h
  | part i =>
    cases v <;> simp only [extB] at h <;> try (simp at h; done)
    rename_i hh win
    cases win <;> simp only [extB] at h <;> try (simp at h; done)
    rename_i q
    split at h
    · rename_i h' own hes
      split at h
      · rename_i hb
        have := Nat.eq_of_beq_eq_true hb
        subst this
        simp only [Option.some.injEq, Prod.mk.injEq] at h
        obtain ⟨rfl, rfl⟩ := h
        refine .none fun r => .inr ⟨i, own, q, rfl, ?_, rfl⟩
        have hlt := (List.getElem?_eq_some_iff.1 hes).1
        rw [List.getElem?_append_left hlt]
        exact hes
      · simp at h
    · simp at h
  | lit c =>
    have h' : (match litEq c v with | true => (some ((), es) : Option (Unit × List Ent)) | false => none) = some (y, es1) := by
      cases v <;> (simp only [extB] at h; exact h)
    split at h'
    · rename_i hc
      simp only [Option.some.injEq, Prod.mk.injEq] at h'
      obtain ⟨_, rfl⟩ := h'
      exact .none fun r => litEq_vr hc _
    · simp at h'
  | map own =>
    cases v <;> simp only [extB] at h <;> try (simp at h; done)
    rename_i hh
    split at h
    · rename_i ro l ho
      split at h
      · simp at h
      · rename_i hoo
        simp only [Option.some.injEq, Prod.mk.injEq] at h
        obtain ⟨rfl, rfl⟩ := h
        refine .one hl (fun r => ?_) (fun r => ?_)
        · exact ⟨es.length, own, last_get, by simp [bldB, hl]⟩
        · refine ⟨rfl, hh, ro, rfl, ho, ?_⟩
          intro ho'
          have ho'' : own = true := ho'
          rw [ho''] at hoo
          simpa using hoo
    · simp at h
  | tab own =>
    cases v <;> simp only [extB] at h <;> try (simp at h; done)
    · simp only [Option.some.injEq, Prod.mk.injEq] at h
      obtain ⟨rfl, rfl⟩ := h
      refine .one hl (fun r => ?_) (fun r => ?_)
      · exact .inr ⟨es.length, own, last_get, by simp [bldB, hl]⟩
      · exact ⟨rfl, .inl ⟨rfl, rfl⟩⟩
    · rename_i hh win
      cases win <;> simp only [extB] at h <;> try (simp at h; done)
      split at h
      · rename_i ro l ho
        split at h
        · simp at h
        · rename_i hoo
          simp only [Option.some.injEq, Prod.mk.injEq] at h
          obtain ⟨rfl, rfl⟩ := h
          refine .one hl (fun r => ?_) (fun r => ?_)
          · exact .inl ⟨es.length, own, last_get, by simp [bldB, hl]⟩
          · refine ⟨rfl, .inr ⟨hh, ro, rfl, ho, ?_⟩⟩
            intro ho'
            have ho'' : own = true := ho'
            rw [ho''] at hoo
            simpa using hoo
      · simp at h
  | clo f rs =>
    cases v <;> simp only [extB] at h <;> try (simp at h; done)
    split at h
    · rename_i hb
      simp only [Bool.and_eq_true] at hb
      have := Nat.eq_of_beq_eq_true hb.1
      subst this
      simp only [Option.some.injEq, Prod.mk.injEq] at h
      obtain ⟨_, rfl⟩ := h
      exact .none fun r => ⟨_, rfl, cloOk_vr hb.2 r⟩
    · simp at h

theorem extBs_pair : ∀ {bs : List BK} {vs : List SV} {es es1 : List Ent} {y : denB bs} {os : List AO} {us : List Value}, extBs Γ.objs bs vs es = some (y, es1) → SV.repL Γ vs us → os.length = es.length →
    Pair Γ base es es1 os (bldBs base bs y os).2 (fun Es => VRL base Es vs (bldBs base bs y os).1)
  | [], vs, es, es1, y, os, us, h, hu, hl => by
    cases vs <;> simp only [extBs] at h <;> try (simp at h; done)
    simp only [Option.some.injEq, Prod.mk.injEq] at h
    obtain ⟨_, rfl⟩ := h
    exact .none fun r => rfl
  | b :: bs, vs, es, es1, y, os, us, h, hu, hl => by
    cases vs with
    | nil => simp [extBs] at h
    | cons v vs =>
      simp only [extBs] at h
      obtain ⟨u, us', rfl, hu1, hu2⟩ := hu
      split at h
      · rename_i x es2 hx
        split at h
        · rename_i xs es3 hxs
          simp only [Option.some.injEq, Prod.mk.injEq] at h
          obtain ⟨rfl, rfl⟩ := h
          have p1 := extB_pair (base := base) (os := os) hx hu1 hl
          have p2 := extBs_pair (os := (bldB base b x os).2) hxs hu2 (p1.lens hl)
          exact (p1.seq hl p2).imp fun l hl => ⟨_, _, rfl, hl.1, hl.2⟩
        · simp at h
      · simp at h

theorem ref_pair {es : List Ent} {i h h' : Nat} {own : Bool} {os : List AO} {v v' : SV} (hes : es[i]? = some ⟨some (h', .all), own⟩) (hv : ∀ Es : List Ent, Es[i]? = some ⟨some (h', .all), own⟩ → VR base Es v v') :
    Pair Γ base es es os os (fun Es => VR base Es v v') := by
  refine .none fun r => hv _ ?_
  have hlt := (List.getElem?_eq_some_iff.1 hes).1
  rw [List.getElem?_append_left hlt]
  exact hes

theorem extK_pair (hobj : ∀ h a, Γ.objs h = some a → oRep Γ w h a) {k : KD} {v : SV} {es es1 : List Ent} {y : k.den} {os : List AO} {u : Value} (h : extK Γ.objs k v es = some (y, es1)) (hu : v.rep Γ u) (hl : os.length = es.length) :
    Pair Γ base es es1 os (bldK base k y os).2 (fun Es => VR base Es v (bldK base k y os).1) := by
  induction k generalizing v es es1 os u with
  | one b => exact extB_pair (by simpa only [extK] using h) hu hl
  | agg bs =>
    cases v <;> simp only [extK] at h <;> try (simp at h; done)
    obtain ⟨us, _, hus⟩ := hu
    exact (extBs_pair (base := base) (os := os) h hus hl).imp fun l hl => ⟨_, rfl, hl⟩
  | box own bs =>
    cases v <;> try (simp [extK] at h; done)
    rename_i hh i
    cases i with
    | succ i => simp only [extK] at h; simp at h
    | zero =>
      simp only [extK] at h
      split at h
      · rename_i ro cs ho
        split at h
        · simp at h
        · rename_i hoo
          obtain ⟨b, o, hφ, vs, hr, _, _, _⟩ := hobj hh _ ho
          have p := extBs_pair (base := base) (os := os ++ [⟨!own, .cells []⟩]) h hr (by simp [hl])
          obtain ⟨de, dd, q1, q2, q3⟩ := p.ex
          have e2 : (bldK base (.box own bs) y os).2 = os ++ [⟨!own, .cells (bldBs base bs y (os ++ [⟨!own, .cells []⟩])).1⟩] ++ dd := by
            simp only [bldK, q2]
            rw [List.append_assoc os, List.append_assoc os, List.set_append_right _ _ (Nat.le_refl _)]
            simp
          have hx : ∀ r, (es1 ++ r)[es.length]? = some ⟨some (hh, .all), own⟩ := by
            intro r
            rw [q1]
            simp
          refine ⟨⟨⟨some (hh, .all), own⟩ :: de, ⟨!own, .cells (bldBs base bs y (os ++ [⟨!own, .cells []⟩])).1⟩ :: dd, by rw [q1]; simp, by rw [e2]; simp, by simp [q3]⟩, fun r => ⟨?_, ?_⟩⟩
          · exact ⟨es.length, own, hx r, by simp [bldK, hl]⟩
          · intro k x a hk hxk ha
            by_cases c : k = es.length
            · subst c
              have hx' := hx []
              rw [List.append_nil] at hx'
              rw [hx'] at hxk
              rw [e2, ← hl, List.append_assoc, List.getElem?_append_right (Nat.le_refl _)] at ha
              simp at hxk ha
              subst hxk
              subst ha
              refine ⟨rfl, hh, ro, cs, rfl, ho, (p.om r).1, ?_⟩
              intro ho'
              have ho'' : own = true := ho'
              rw [ho''] at hoo
              simpa using hoo
            · refine (p.om r).2 k x a (by simp; omega) hxk ?_
              rw [q2]
              rw [e2] at ha
              rw [List.getElem?_append_right (by simp; omega)] at ha ⊢
              simpa using ha
      · simp at h
  | vec own bs =>
    cases v <;> try (simp [extK] at h; done)
    rename_i hh i
    cases i with
    | drop i => simp only [extK] at h; simp at h
    | take i => simp only [extK] at h; simp at h
    | sub i j => simp only [extK] at h; simp at h
    | all =>
      simp only [extK] at h
      split at h
      · rename_i ro cs ho
        split at h
        · simp at h
        · rename_i hoo
          obtain ⟨b, o, hφ, vs, hr, _, _, _⟩ := hobj hh _ ho
          have p := extBs_pair (base := base) (os := os ++ [⟨!own, .cells []⟩]) h hr (by simp [hl])
          obtain ⟨de, dd, q1, q2, q3⟩ := p.ex
          have e2 : (bldK base (.vec own bs) y os).2 = os ++ [⟨!own, .cells (bldBs base bs y (os ++ [⟨!own, .cells []⟩])).1⟩] ++ dd := by
            simp only [bldK, q2]
            rw [List.append_assoc os, List.append_assoc os, List.set_append_right _ _ (Nat.le_refl _)]
            simp
          have hx : ∀ r, (es1 ++ r)[es.length]? = some ⟨some (hh, .all), own⟩ := by
            intro r
            rw [q1]
            simp
          refine ⟨⟨⟨some (hh, .all), own⟩ :: de, ⟨!own, .cells (bldBs base bs y (os ++ [⟨!own, .cells []⟩])).1⟩ :: dd, by rw [q1]; simp, by rw [e2]; simp, by simp [q3]⟩, fun r => ⟨?_, ?_⟩⟩
          · exact .inl ⟨es.length, own, hx r, by simp [bldK, hl]⟩
          · intro k x a hk hxk ha
            by_cases c : k = es.length
            · subst c
              have hx' := hx []
              rw [List.append_nil] at hx'
              rw [hx'] at hxk
              rw [e2, ← hl, List.append_assoc, List.getElem?_append_right (Nat.le_refl _)] at ha
              simp at hxk ha
              subst hxk
              subst ha
              refine ⟨rfl, hh, ro, cs, rfl, ho, (p.om r).1, ?_⟩
              intro ho'
              have ho'' : own = true := ho'
              rw [ho''] at hoo
              simpa using hoo
            · refine (p.om r).2 k x a (by simp; omega) hxk ?_
              rw [q2]
              rw [e2] at ha
              rw [List.getElem?_append_right (by simp; omega)] at ha ⊢
              simpa using ha
      · simp at h
  | arr n own =>
    cases v <;> try (simp [extK] at h; done)
    rename_i hh i j
    cases i with
    | succ i => simp only [extK] at h; simp at h
    | zero =>
      cases j with
      | succ j => simp only [extK] at h; simp at h
      | zero =>
        simp only [extK] at h
        split at h
        · rename_i ro m l ho
          split at h
          · rename_i hoo hb
            have := Nat.eq_of_beq_eq_true hb
            subst this
            simp only [Option.some.injEq, Prod.mk.injEq] at h
            obtain ⟨rfl, rfl⟩ := h
            refine .one hl (fun r => ?_) (fun r => ?_)
            · exact ⟨rfl, rfl, es.length, own, last_get, by simp [bldK, hl]⟩
            · refine ⟨rfl, hh, ro, rfl, ho, ?_⟩
              intro ho'
              have ho'' : own = true := ho'
              rw [ho''] at hoo
              simpa using hoo
          · simp at h
        · simp at h
  | ints n =>
    cases v <;> simp only [extK] at h <;> try (simp at h; done)
    split at h
    · rename_i hb
      have := Nat.eq_of_beq_eq_true hb
      subst this
      simp only [Option.some.injEq, Prod.mk.injEq] at h
      obtain ⟨rfl, rfl⟩ := h
      exact .none fun r => rfl
    · simp at h
  | fn f bs =>
    cases v <;> simp only [extK] at h <;> try (simp at h; done)
    split at h
    · rename_i hb
      have := Nat.eq_of_beq_eq_true hb
      subst this
      obtain ⟨us, _, hus⟩ := hu
      exact (extBs_pair (base := base) (os := os) h hus hl).imp fun l hl => ⟨_, rfl, hl⟩
    · simp at h
  | fna f bs =>
    cases v <;> try (simp only [extK] at h; simp at h; done)
    rename_i g caps
    cases caps with
    | nil => simp [extK] at h
    | cons c caps =>
      cases caps with
      | cons c2 caps => cases c <;> (simp only [extK] at h; simp at h)
      | nil =>
        cases c <;> try (simp only [extK] at h; simp at h; done)
        simp only [extK] at h
        split at h
        · rename_i hb
          have := Nat.eq_of_beq_eq_true hb
          subst this
          obtain ⟨us, _, x, xs, _, ⟨vs, _, hvs⟩, _⟩ := hu
          exact (extBs_pair (base := base) (os := os) h hvs hl).imp fun l hl => ⟨_, rfl, _, _, rfl, ⟨_, rfl, hl⟩, rfl⟩
        · simp at h
  | pref i off =>
    cases v <;> simp only [extK] at h <;> try (simp at h; done)
    rename_i hh j
    split at h
    · rename_i h' own hes
      split at h
      · rename_i hb
        simp only [Bool.and_eq_true] at hb
        have e1 := Nat.eq_of_beq_eq_true hb.1
        have e2 := Nat.eq_of_beq_eq_true hb.2
        subst e1; subst e2
        simp only [Option.some.injEq, Prod.mk.injEq] at h
        obtain ⟨_, rfl⟩ := h
        exact ref_pair (h := hh) hes fun Es hE => ⟨i, own, hE, rfl⟩
      · simp at h
    · simp at h
  | aref i =>
    cases v <;> try (simp [extK] at h; done)
    rename_i hh a b
    cases a with
    | succ a => simp only [extK] at h; simp at h
    | zero =>
      cases b with
      | succ b => simp only [extK] at h; simp at h
      | zero =>
        simp only [extK] at h
        split at h
        · rename_i h' own hes
          split at h
          · rename_i hb
            have e1 := Nat.eq_of_beq_eq_true hb
            subst e1
            simp only [Option.some.injEq, Prod.mk.injEq] at h
            obtain ⟨_, rfl⟩ := h
            exact ref_pair (h := hh) hes fun Es hE => ⟨rfl, rfl, i, own, hE, rfl⟩
          · simp at h
        · simp at h
  | cap k r ihk ihr =>
    cases v <;> try (simp only [extK] at h; simp at h; done)
    rename_i g caps
    cases caps with
    | nil => simp [extK] at h
    | cons c cs =>
      simp only [extK] at h
      obtain ⟨us, rfl, u1, us1, rfl, hu1, hu2⟩ := hu
      split at h
      · rename_i x es2 hx
        split at h
        · rename_i z es3 hz
          simp only [Option.some.injEq, Prod.mk.injEq] at h
          obtain ⟨rfl, rfl⟩ := h
          have p1 := ihk (os := os) hx hu1 hl
          have p2 := ihr (os := (bldK base k x os).2) (u := .func (.func g) #[] us1.toArray) hz ⟨us1, rfl, hu2⟩ (p1.lens hl)
          refine (p1.seq hl p2).imp fun l hl => ?_
          obtain ⟨cs', e, hcs⟩ := hl.2
          simp only [bldK, e, consCap]
          exact ⟨_, rfl, _, _, rfl, hl.1, hcs⟩
        · simp at h
      · simp at h

theorem extL_pair (hobj : ∀ h a, Γ.objs h = some a → oRep Γ w h a) : ∀ {ks : List KD} {vs : List SV} {es es1 : List Ent} {y : denL ks} {os : List AO} {us : List Value}, extL Γ.objs ks vs es = some (y, es1) → SV.repL Γ vs us → os.length = es.length →
    Pair Γ base es es1 os (bldL base ks y os).2 (fun Es => VRL base Es vs (bldL base ks y os).1)
  | [], vs, es, es1, y, os, us, h, hu, hl => by
    cases vs <;> simp only [extL] at h <;> try (simp at h; done)
    simp only [Option.some.injEq, Prod.mk.injEq] at h
    obtain ⟨_, rfl⟩ := h
    exact .none fun r => rfl
  | b :: bs, vs, es, es1, y, os, us, h, hu, hl => by
    cases vs with
    | nil => simp [extL] at h
    | cons v vs =>
      simp only [extL] at h
      obtain ⟨u, us', rfl, hu1, hu2⟩ := hu
      split at h
      · rename_i x es2 hx
        split at h
        · rename_i xs es3 hxs
          simp only [Option.some.injEq, Prod.mk.injEq] at h
          obtain ⟨rfl, rfl⟩ := h
          have p1 := extK_pair (base := base) (os := os) hobj hx hu1 hl
          have p2 := extL_pair hobj (os := (bldK base b x os).2) hxs hu2 (p1.lens hl)
          exact (p1.seq hl p2).imp fun l hl => ⟨_, _, rfl, hl.1, hl.2⟩
        · simp at h
      · simp at h

/-- What has been read off stands, under new names, in every context that has the objects so. -/
theorem extL_tgt (hobj : ∀ h a, Γ.objs h = some a → oRep Γ w h a) {ks : List KD} {vs : List SV} {es : List Ent} {y : denL ks} {us : List Value} (h : extL Γ.objs ks vs [] = some (y, es)) (hu : SV.repL Γ vs us)
    {Γ' : Ctx} (h1 : ∀ (k : Nat) (a : AO), (bldL base ks y []).2[k]? = some a → Γ'.objs (base + k) = some a) (h2 : ∀ (k : Nat) (x : Ent), es[k]? = some x → Γ'.φ (base + k) = entPlace Γ x)
    (h3 : ∀ k, k < (bldL base ks y []).2.length → Γ'.seen (base + k) = true) (h4 : ∀ b, Γ'.bs b = Γ.bs b) (h5 : ∀ b i, Γ'.mem b i = Γ.mem b i) :
    Tgt Γ Γ' base es (bldL base ks y []).2 ∧ SV.repL Γ' (bldL base ks y []).1 us := by
  have p := extL_pair (base := base) (os := []) hobj h hu rfl
  have hlen := p.lens rfl
  have om := p.om []
  rw [List.append_nil] at om
  have T : Tgt Γ Γ' base es (bldL base ks y []).2 := ⟨h1, h2, h3, h4, h5, hlen.symm, fun k x a hk ha => om.2 k x a (Nat.zero_le _) hk ha⟩
  exact ⟨T, VRL_rep T _ _ _ om.1 hu⟩
end

theorem entsOk_spec : ∀ {es : List Ent}, entsOk es = true → ∀ (i j : Nat) (x y : Ent), i < j → es[i]? = some x → es[j]? = some y → x.apart y = true
  | [], _, i, j, x, y, _, hx, _ => by simp at hx
  | e :: es, h, i, j, x, y, hij, hx, hy => by
    simp only [entsOk, Bool.and_eq_true] at h
    cases j with
    | zero => omega
    | succ j =>
      cases i with
      | zero =>
        simp at hx
        subst hx
        exact List.all_eq_true.1 h.1 y (List.mem_of_getElem? (by simpa using hy))
      | succ i => exact entsOk_spec h.2 i j x y (by omega) (by simpa using hx) (by simpa using hy)

end Go.Fx
end

noncomputable section
set_option linter.unusedVariables false
set_option linter.unusedSimpArgs false
set_option autoImplicit false
namespace Go.Fx
open Go

/-! ### 1. The heap under new names -/
theorem OM_src {Γ : Ctx} {base : Nat} {Es : List Ent} {x : Ent} {a : AO} (hm : OM Γ base Es x a) : a.ro = !x.own ∧
    ∀ b o, entPlace Γ x = some (b, o) → ∃ h w a0 o', x.src = some (h, w) ∧ Γ.objs h = some a0 ∧ Γ.φ h = some (b, o') ∧ (x.own = true → a0.ro = false) := by
  have key : ∀ h w a0, x.src = some (h, w) → Γ.objs h = some a0 → (x.own = true → a0.ro = false) → ∀ b o, entPlace Γ x = some (b, o) → ∃ h w a0 o', x.src = some (h, w) ∧ Γ.objs h = some a0 ∧ Γ.φ h = some (b, o') ∧ (x.own = true → a0.ro = false) := by
    intro h w a0 h1 h2 h3 b o hp
    refine ⟨h, w, a0, ?_⟩
    unfold entPlace at hp
    rw [h1] at hp
    simp only at hp
    split at hp
    · simp at hp
    · rename_i b' o' hφ
      refine ⟨o', h1, h2, ?_, h3⟩
      split at hp
      · simp only [Option.some.injEq, Prod.mk.injEq] at hp
        rw [hφ, hp.1]
      · simp only [Option.some.injEq, Prod.mk.injEq] at hp
        rw [hφ, hp.1]
  obtain ⟨ro', o⟩ := a
  cases o with
  | row e l' =>
    obtain ⟨hro, hm⟩ := hm
    refine ⟨hro, ?_⟩
    rcases hm with ⟨q, _⟩ | ⟨h, w, ro, l, q, hob, _, _, hown⟩
    · intro b o hp
      unfold entPlace at hp
      rw [q] at hp
      simp at hp
    · exact key h w _ q hob hown
  | cells cs =>
    obtain ⟨hro, h, ro, cs0, q, hob, _, hown⟩ := hm
    exact ⟨hro, key h .all _ q hob hown⟩
  | arr n l =>
    obtain ⟨hro, h, ro, q, hob, hown⟩ := hm
    exact ⟨hro, key h .all _ q hob hown⟩
  | map l =>
    obtain ⟨hro, h, ro, q, hob, hown⟩ := hm
    exact ⟨hro, key h .all _ q hob hown⟩
  | tab l =>
    obtain ⟨hro, hm⟩ := hm
    refine ⟨hro, ?_⟩
    rcases hm with ⟨q, _⟩ | ⟨h, ro, q, hob, hown⟩
    · intro b o hp
      unfold entPlace at hp
      rw [q] at hp
      simp at hp
    · exact key h .all _ q hob hown
  | byt l => exact absurd hm id

/-- A block of what is kept. -/
def entAt (Γ : Ctx) (x : Ent) (b : Nat) : Prop := (∃ o, entPlace Γ x = some (b, o)) ∨ ∃ h w, x.src = some (h, w) ∧ Γ.inB h b
theorem entAt_src {Γ : Ctx} {base : Nat} {Es : List Ent} {x : Ent} {a : AO} (hm : OM Γ base Es x a) {b : Nat} (hb : entAt Γ x b) :
    ∃ h w a0, x.src = some (h, w) ∧ Γ.objs h = some a0 ∧ Γ.at h b ∧ (x.own = true → a0.ro = false) := by
  rcases hb with ⟨o, hb⟩ | ⟨h, w, q1, q2⟩
  · obtain ⟨h, w, a0, o', q1, q2, q3, q4⟩ := (OM_src hm).2 b o hb
    exact ⟨h, w, a0, q1, q2, .inl ⟨o', q3⟩, q4⟩
  · obtain ⟨ro, ll, hx⟩ := Ctx.inB_tab q2
    refine ⟨h, w, _, q1, hx, .inr q2, ?_⟩
    obtain ⟨ro', o⟩ := a
    cases o with
    | row e l' =>
      obtain ⟨_, hm⟩ := hm
      rcases hm with ⟨q, _⟩ | ⟨h2, w2, ro2, l, q, hob, _⟩
      · rw [q1] at q; cases q
      · rw [q1] at q; cases q; rw [hx] at hob; cases hob
    | cells cs =>
      obtain ⟨_, h2, ro2, cs0, q, hob, _⟩ := hm
      rw [q1] at q; cases q; rw [hx] at hob; cases hob
    | arr n l =>
      obtain ⟨_, h2, ro2, q, hob, _⟩ := hm
      rw [q1] at q; cases q; rw [hx] at hob; cases hob
    | map l =>
      obtain ⟨_, h2, ro2, q, hob, _⟩ := hm
      rw [q1] at q; cases q; rw [hx] at hob; cases hob
    | tab l =>
      obtain ⟨_, hm⟩ := hm
      rcases hm with ⟨q, _⟩ | ⟨h2, ro2, q, hob, hown⟩
      · rw [q1] at q; cases q
      · rw [q1] at q; cases q; rw [hx] at hob; cases hob; exact hown
    | byt l => exact absurd hm id
/-- The blocks of an object under its new name. -/
theorem Tgt.inB {Γ Γ' : Ctx} {base : Nat} {Es : List Ent} {F : List AO} (T : Tgt Γ Γ' base Es F) {k : Nat} {x : Ent} (hk : Es[k]? = some x) {b : Nat} (hb : Γ'.inB (base + k) b) : ∃ h w, x.src = some (h, w) ∧ Γ.inB h b := by
  obtain ⟨a, hF, ho, hp, hs, hm⟩ := T.get hk
  obtain ⟨ro, ll, b0, o0, i, o, n, c, h1, h2, h3, h4, h5⟩ := hb
  rw [ho] at h1
  cases h1
  rw [hp] at h2
  obtain ⟨_, hm⟩ := hm
  rcases hm with ⟨q, _⟩ | ⟨h, ro2, q, hob, _⟩
  · unfold entPlace at h2
    rw [q] at h2
    simp at h2
  · refine ⟨h, .all, q, ro2, ll, b0, o0, i, o, n, c, hob, ?_, h3, (T.mem b0 _).symm.trans h4, h5⟩
    unfold entPlace at h2
    rw [q] at h2
    simp only at h2
    split at h2
    · simp at h2
    · rename_i b' o' hφ
      rw [hob] at h2
      simp only at h2
      rw [hφ]
      exact h2
theorem Tgt.at {Γ Γ' : Ctx} {base : Nat} {Es : List Ent} {F : List AO} (T : Tgt Γ Γ' base Es F) {k : Nat} {x : Ent} (hk : Es[k]? = some x) {b : Nat} (hb : Γ'.at (base + k) b) : entAt Γ x b := by
  obtain ⟨a, hF, ho, hp, hs, hm⟩ := T.get hk
  rcases hb with ⟨o, hb⟩ | hb
  · exact .inl ⟨o, hp ▸ hb⟩
  · exact .inr (T.inB hk hb)

/-- What is kept is of the same kind as what it comes from. -/
theorem OM_tag {Γ : Ctx} {base : Nat} {Es : List Ent} {x : Ent} {a : AO} (hm : OM Γ base Es x a) {b o : Nat} (hp : entPlace Γ x = some (b, o)) :
    ∃ h w a0 o', x.src = some (h, w) ∧ Γ.objs h = some a0 ∧ Γ.φ h = some (b, o') ∧ a0.tag = a.tag := by
  obtain ⟨h, w, a0, o', q1, q2, q3, _⟩ := (OM_src hm).2 b o hp
  refine ⟨h, w, a0, o', q1, q2, q3, ?_⟩
  obtain ⟨ro', ob⟩ := a
  cases ob with
  | row e l' =>
    obtain ⟨_, hm⟩ := hm
    rcases hm with ⟨q, _⟩ | ⟨h', w', ro, l, q, hob, _, _, _⟩
    · rw [q1] at q; cases q
    · rw [q1] at q; cases q; rw [q2] at hob; cases hob; rfl
  | cells cs =>
    obtain ⟨_, h', ro, cs0, q, hob, _, _⟩ := hm
    rw [q1] at q; cases q; rw [q2] at hob; cases hob; rfl
  | arr n l =>
    obtain ⟨_, h', ro, q, hob, _⟩ := hm
    rw [q1] at q; cases q; rw [q2] at hob; cases hob; rfl
  | map l =>
    obtain ⟨_, h', ro, q, hob, _⟩ := hm
    rw [q1] at q; cases q; rw [q2] at hob; cases hob; rfl
  | tab l =>
    obtain ⟨_, hm⟩ := hm
    rcases hm with ⟨q, _⟩ | ⟨h', ro, q, hob, _⟩
    · rw [q1] at q; cases q
    · rw [q1] at q; cases q; rw [q2] at hob; cases hob; rfl
  | byt l => exact absurd hm id


theorem tgt_heap {w0 w1 : World} {W0 W1 : Nat → Option (Option EK) → Prop} {Γ Γ' : Ctx} {w : World} (H : Heap w0 W0 Γ w) {base : Nat} {es : List Ent} {F : List AO} (T : Tgt Γ Γ' base es F) (hok : entsOk es = true)
    (hobj : ∀ h a, Γ'.objs h = some a → ∃ k, h = base + k ∧ F[k]? = some a)
    (f1 : w.os = w1.os) (f2 : w.tape = w1.tape ∧ DrawOk w1 w) (f3 : w.output = w1.output) (f4 : w1.heap.size ≤ w.heap.size) (f5 : ∀ b, b < w1.heap.size → ¬ W1 b none → w.heap[b]? = w1.heap[b]?)
    (f6 : ∀ b cur T fz, b < w1.heap.size → w1.heap[b]? = some (.cells cur T fz) → ∃ cur', w.heap[b]? = some (.cells cur' T fz) ∧ cur'.size = cur.size)
    (f7 : ∀ (k : Nat) x b, es[k]? = some x → x.own = true → entAt Γ x b → w1.heap.size ≤ b ∨ W1 b none)
    (f8 : ∀ (k : Nat) x a b o, es[k]? = some x → F[k]? = some a → entPlace Γ x = some (b, o) → w1.heap.size ≤ b ∨ W1 b (some a.tag))
    (f9 : ∀ (k : Nat) x b h v, es[k]? = some x → x.src = some (h, v) → Γ.inB h b → w1.heap.size ≤ b ∨ W1 b (some (some (.int .i64)))) : Heap w1 W1 Γ' w := by
  have get : ∀ k a, F[k]? = some a → ∃ x, es[k]? = some x ∧ Γ'.φ (base + k) = entPlace Γ x ∧ OM Γ base es x a := by
    intro k a ha
    have hlt : k < es.length := T.len ▸ (List.getElem?_eq_some_iff.1 ha).1
    exact ⟨es[k], List.getElem?_eq_getElem hlt, T.φ k _ (List.getElem?_eq_getElem hlt), T.om k _ a (List.getElem?_eq_getElem hlt) ha⟩
  refine ⟨f1, f2, f3, f4, f5, f6, fun b => (T.bs b).trans (H.bs b), fun b i => (T.mem b i).trans (H.mem b i), ?_, ?_, ?_, ?_, ?_, ?_, ?_⟩
  · intro h a ha
    obtain ⟨k, rfl, hk⟩ := hobj h a ha
    obtain ⟨x, hx, _, _⟩ := get k a hk
    exact OM_rep T H.obj hx hk
  · intro h a ha
    obtain ⟨k, rfl, hk⟩ := hobj h a ha
    exact T.seen k (List.getElem?_eq_some_iff.1 hk).1
  · intro h a b ha hb
    obtain ⟨k, rfl, hk⟩ := hobj h a ha
    obtain ⟨x, hx, hp, hm⟩ := get k a hk
    obtain ⟨h', w', a0, _, q2, q3, _⟩ := entAt_src hm (T.at hx hb)
    exact H.lt2 h' a0 b q2 q3
  · intro h h' a a' b ha ha' hb hb' hne
    obtain ⟨k, rfl, hk⟩ := hobj h a ha
    obtain ⟨k', rfl, hk'⟩ := hobj h' a' ha'
    obtain ⟨x, hx, hp, hm⟩ := get k a hk
    obtain ⟨x', hx', hp', hm'⟩ := get k' a' hk'
    obtain ⟨h1, w1, a1, p1, p2, p3, p4⟩ := entAt_src hm (T.at hx hb)
    obtain ⟨h2, w2, a2, q1, q2, q3, q4⟩ := entAt_src hm' (T.at hx' hb')
    have hkk : k ≠ k' := fun e => hne (by rw [e])
    have hap : x.apart x' = true ∨ x'.apart x = true := by
      rcases Nat.lt_or_ge k k' with h | h
      · exact .inl (entsOk_spec hok k k' x x' h hx hx')
      · exact .inr (entsOk_spec hok k' k x' x (by omega) hx' hx)
    have hown : x.own = false ∧ x'.own = false := by
      by_cases hh : h1 = h2
      · subst hh
        unfold Ent.apart at hap
        rw [p1, q1] at hap
        simp at hap
        rcases hap with h | h
        · exact h
        · exact ⟨h.2, h.1⟩
      · have := H.sep2 h1 h2 a1 a2 b p2 q2 p3 q3 hh
        refine ⟨?_, ?_⟩
        · cases hq : x.own with
          | false => rfl
          | true => rw [p4 hq] at this; cases this.1
        · cases hq : x'.own with
          | false => rfl
          | true => rw [q4 hq] at this; cases this.2
    rw [(OM_src hm).1, (OM_src hm').1, hown.1, hown.2]
    exact ⟨rfl, rfl⟩
  · intro h a b ha hr hb
    obtain ⟨k, rfl, hk⟩ := hobj h a ha
    obtain ⟨x, hx, hp, hm⟩ := get k a hk
    refine f7 k x b hx ?_ (T.at hx hb)
    have := (OM_src hm).1
    rw [hr] at this
    simpa using this.symm
  · intro h a b o ha hb
    obtain ⟨k, rfl, hk⟩ := hobj h a ha
    obtain ⟨x, hx, hp, hm⟩ := get k a hk
    rw [hp] at hb
    exact f8 k x a b o hx hk hb
  · intro h b hb
    obtain ⟨ro, ll, ha⟩ := Ctx.inB_tab hb
    obtain ⟨k, rfl, hk⟩ := hobj h _ ha
    obtain ⟨x, hx, hp, hm⟩ := get k _ hk
    obtain ⟨h', v, q1, q2⟩ := T.inB hx hb
    exact f9 k x b h' v hx q1 q2

/-! ### 2. A state anew -/
theorem assocS_rep {Γ : Ctx} {a : Act} : ∀ {sl : List Nat} {vs : List SV}, SV.repL Γ vs (sl.map fun i => a.tmps.getD i undef) → ∀ i, (assocS (sl.zip vs) i).rep Γ (a.tmps.getD i undef)
  | [], vs, _, i => by simp [assocS, SV.rep]
  | s :: sl, [], h, i => by simp [SV.repL] at h
  | s :: sl, v :: vs, h, i => by
    obtain ⟨x, xs, hx, h1, h2⟩ := h
    simp only [List.map_cons, List.cons.injEq] at hx
    obtain ⟨rfl, rfl⟩ := hx
    simp only [List.zip_cons_cons, assocS]
    split
    · rename_i hb
      have := Nat.eq_of_beq_eq_true hb
      subst this
      exact h1
    · exact assocS_rep h2 i

theorem slots_rep {Γ : Ctx} {a : Act} {slots : Nat → SV} (h : ∀ i, (slots i).rep Γ (a.tmps.getD i undef)) : ∀ sl : List Nat, SV.repL Γ (sl.map slots) (sl.map fun i => a.tmps.getD i undef)
  | [] => rfl
  | s :: sl => ⟨_, _, rfl, h s, slots_rep h sl⟩

section
variable {P : Program} {w0 : World} {W0 : Nat → Option (Option EK) → Prop} {N : Nat} {pv : Nat → Option Value}

theorem fold_good {s : Shape} {st : St} {x : s.den} {es : List Ent} (h : absSt s st = some (x, es)) {φ : Nat → Option (Nat × Nat)} {a : Act} {w : World} (good : Good w0 W0 N pv st φ a w) :
    ∃ φ', Good w0 W0 N pv (mkSt s x) φ' a w := by
  unfold absSt at h
  split at h
  · rename_i x' es' hx
    split at h
    · rename_i hok
      simp only [Option.some.injEq, Prod.mk.injEq] at h
      obtain ⟨rfl, rfl⟩ := h
      have hvals : SV.repL (ctx st φ w) (s.map fun p => st.slots p.1) ((s.map (·.1)).map fun i => a.tmps.getD i undef) := by
        have := slots_rep good.slot (s.map (·.1))
        simpa [List.map_map, Function.comp_def] using this
      have hlen : (bldL 0 s.ks x' []).2.length = es'.length := (extL_pair (base := 0) (os := []) good.heap.obj hx hvals rfl).lens rfl
      let φ' : Nat → Option (Nat × Nat) := fun k => match es'[k]? with | some e => entPlace (ctx st φ w) e | none => none
      obtain ⟨T, hr⟩ := extL_tgt (base := 0) good.heap.obj hx hvals (Γ' := ctx (mkSt s x') φ' w) (fun k a ha => by rw [Nat.zero_add]; exact ha)
        (fun k e he => by rw [Nat.zero_add]; show (match es'[k]? with | some e => entPlace (ctx st φ w) e | none => none) = _; rw [he])
        (fun k hk => by rw [Nat.zero_add]; show Nat.blt k _ = true; exact Nat.ble_eq_true_of_le hk) (fun b => rfl) (fun _ _ => rfl)
      refine ⟨φ', good.defers, good.size, good.par, ?_, ?_⟩
      · intro i
        exact assocS_rep hr i
      · refine tgt_heap good.heap T hok (fun h a ha => ⟨h, by rw [Nat.zero_add], ha⟩) good.heap.os good.heap.tape good.heap.output good.heap.size good.heap.keep good.heap.kind ?_ (fun k e a2 b o he ha2 hp => by
          obtain ⟨h1, w1, a1, o1, p1, p2, p3, p4⟩ := OM_tag (T.om k e a2 he ha2) hp
          exact p4 ▸ good.heap.rng h1 a1 b o1 p2 p3) (fun k e b h v he hs hb => good.heap.rngi h b hb)
        intro k e b he hown hp
        have hlt : k < (bldL 0 s.ks x' []).2.length := by rw [hlen]; exact (List.getElem?_eq_some_iff.1 he).1
        have hm := T.om k e _ he (List.getElem?_eq_getElem hlt)
        obtain ⟨h1, w1, a1, p1, p2, p3, p4⟩ := entAt_src hm hp
        exact good.heap.own2 h1 a1 b p2 (p4 hown) p3
    · simp at h
  · simp at h

/-! ### 3. Code -/
/-- What is asked of the functions that stand for loops. -/
def LoopsOk {β : Type} (C : Cfg) (Φ : Nat → PFn) (Λ : Nat → (St → Option β) → St → Option β) (fin : St → Option β) (l : List (Nat × Code)) : Prop :=
  ∀ p ∈ l, ∀ (K : St → Option β) (st : St) (r : β), Λ p.1 K st = some r → ∃ (sin sout : Shape) (n : Nat) (x : sin.den) (es : List Ent), absSt sin st = some (x, es) ∧ iter (roundK C Φ Λ fin p.1 p.2 sin sout K) n (mkSt sin x) = some r

theorem LoopsOk.sub {β : Type} {C : Cfg} {Φ : Nat → PFn} {Λ : Nat → (St → Option β) → St → Option β} {fin : St → Option β} {l m : List (Nat × Code)} (h : LoopsOk C Φ Λ fin l) (hs : ∀ p ∈ m, p ∈ l) : LoopsOk C Φ Λ fin m :=
  fun p hp => h p (hs p hp)

theorem exK_sound {β : Type} {C : Cfg} {Φ : Nat → PFn} {Λ : Nat → (St → Option β) → St → Option β} {fin : St → Option β} {r : β} (hnp : ∀ i V, pv i = some V → i ∈ C.np) (hT : TyOk P C.ty) (hΦ : ∀ g, (Φ g).Ok P g) (hG : GlOk P w0 W0) :
    ∀ (code : Code) (X : Nat → St → Option β) (st : St) (K : St → Option β) (φ : Nat → Option (Nat × Nat)) (a : Act) (w : World) (Q : Exit → Act → World → Prop),
      LoopsOk C Φ Λ fin (loopsOf C.blk code) → exK C Φ Λ fin code X st K = some r → Good w0 W0 C.N pv st φ a w →
      (∀ st' φ' a' w', K st' = some r → Good w0 W0 C.N pv st' φ' a' w' → Q .normal a' w') →
      (∀ id st' φ' a' w', X id st' = some r → Good w0 W0 C.N pv st' φ' a' w' → Q (.exit id) a' w') →
      (∀ st' φ' a' w', fin st' = some r → Good w0 W0 C.N pv st' φ' a' w' → Q .ret a' w') →
      code.wp P Q a w
  | .skip, X, st, K, φ, a, w, Q, hL, h, good, hK, hX, hR => by
    simp only [exK] at h
    exact wp_skip (hK st φ a w h good)
  | .region id ops dr, X, st, K, φ, a, w, Q, hL, h, good, hK, hX, hR => by
    simp only [exK] at h
    exact region_wp hnp hT hΦ hG h good hK
  | .seq c d, X, st, K, φ, a, w, Q, hL, h, good, hK, hX, hR => by
    simp only [exK] at h
    simp only [loopsOf] at hL
    refine wp_seq (exK_sound hnp hT hΦ hG c X st _ φ a w _ (hL.sub fun p hp => by simp [hp]) h good ?_ hX hR)
    intro st' φ' a' w' h' g'
    show d.wp P Q a' w'
    split at h'
    · exact exK_sound hnp hT hΦ hG d X st' K φ' a' w' Q (hL.sub fun p hp => by simp [hp]) h' g' hK hX hR
    · rename_i s hs
      split at h'
      · rename_i x es hx
        obtain ⟨φ2, g2⟩ := fold_good hx g'
        exact exK_sound hnp hT hΦ hG d X _ K φ2 a' w' Q (hL.sub fun p hp => by simp [hp]) h' g2 hK hX hR
      · simp at h'
  | .cond c x y, X, st, K, φ, a, w, Q, hL, h, good, hK, hX, hR => by
    simp only [exK] at h
    simp only [loopsOf] at hL
    split at h
    · rename_i t ht
      have hc := ev_rep (Γ := ctx st φ w) good.slot c
      rw [ht] at hc
      have hc' : a.eval c = .bool t := hc
      refine wp_cond hc' ?_
      split at h
      · rename_i htt
        rw [if_pos htt]
        exact exK_sound hnp hT hΦ hG x X st K φ a w Q (hL.sub fun p hp => by simp [hp]) h good hK hX hR
      · rename_i htf
        rw [if_neg htf]
        exact exK_sound hnp hT hΦ hG y X st K φ a w Q (hL.sub fun p hp => by simp [hp]) h good hK hX hR
    · simp at h
  | .exit id, X, st, K, φ, a, w, Q, hL, h, good, hK, hX, hR => by
    simp only [exK] at h
    exact wp_exit (hX id st φ a w h good)
  | .ret, X, st, K, φ, a, w, Q, hL, h, good, hK, hX, hR => by
    simp only [exK] at h
    exact wp_ret (hR st φ a w h good)
  | .block id c, X, st, K, φ, a, w, Q, hL, h, good, hK, hX, hR => by
    refine wp_block ?_
    cases hb : C.blk id with
    | plain =>
      have h : exK C Φ Λ fin c (fun j => match Nat.beq j id with | true => K | false => X j) st K = some r := by
        unfold exK at h
        rw [hb] at h
        exact h
      have hL' : LoopsOk C Φ Λ fin (loopsOf C.blk c) := hL.sub fun p hp => by
        cases c <;> simp only [loopsOf, hb] <;> simpa only [loopsOf] using hp
      refine exK_sound hnp hT hΦ hG c _ st K φ a w _ hL' h good hK ?_ hR
      intro j st' φ' a' w' h' g'
      show Exit.inBlock id Q (.exit j) a' w'
      simp only [Exit.inBlock]
      cases hj : Nat.beq j id with
      | true =>
        rw [hj] at h'
        rw [if_pos (Nat.eq_of_beq_eq_true hj)]
        exact hK st' φ' a' w' h' g'
      | false =>
        rw [hj] at h'
        have hne : j ≠ id := fun e => by subst e; simp at hj
        rw [if_neg hne]
        exact hX j st' φ' a' w' h' g'
    | loop =>
      cases c <;> simp only [exK, hb] at h <;> try (simp at h; done)
      rename_i b
      simp only [loopsOf, hb] at hL
      obtain ⟨sin, sout, n, x, es, hx, hit⟩ := hL (id, b) (by simp) K st r h
      obtain ⟨φ1, g1⟩ := fold_good hx good
      refine wp_loop_ghost (fun n a w => ∃ φ st, Good w0 W0 C.N pv st φ a w ∧ iter (roundK C Φ Λ fin id b sin sout K) n st = some r) n ⟨φ1, _, g1, hit⟩ ?_
      rintro n a w ⟨φ, st, g, hi⟩
      cases n with
      | zero => simp [iter] at hi
      | succ n =>
        simp only [iter, roundK] at hi
        refine exK_sound hnp hT hΦ hG b _ st _ φ a w _ (hL.sub fun p hp => by simp [hp]) hi g ?_ ?_ hR
        · intro st' φ' a' w' h' g'
          show ∃ n', n' < n + 1 ∧ _
          split at h'
          · rename_i x' es' hx'
            obtain ⟨φ2, g2⟩ := fold_good hx' g'
            exact ⟨n, Nat.lt_succ_self n, φ2, _, g2, h'⟩
          · simp at h'
        · intro j st' φ' a' w' h' g'
          show Exit.inBlock id Q (.exit j) a' w'
          simp only [Exit.inBlock]
          cases hj : Nat.beq j id with
          | true =>
            rw [hj] at h'
            rw [if_pos (Nat.eq_of_beq_eq_true hj)]
            simp only at h'
            split at h'
            · rename_i y es' hy
              obtain ⟨φ2, g2⟩ := fold_good hy g'
              exact hK _ φ2 a' w' h' g2
            · simp at h'
          | false =>
            rw [hj] at h'
            simp at h'
    | unroll m =>
      cases c <;> simp only [exK, hb] at h <;> try (simp at h; done)
      rename_i b
      simp only [loopsOf, hb] at hL
      refine wp_loop_ghost (fun n a w => ∃ φ st, Good w0 W0 C.N pv st φ a w ∧ iter (fun rec st' => exK C Φ Λ fin b (fun j => match Nat.beq j id with | true => K | false => X j) st' rec) n st = some r) m ⟨φ, _, good, h⟩ ?_
      rintro n a w ⟨φ, st, g, hi⟩
      cases n with
      | zero => simp [iter] at hi
      | succ n =>
        simp only [iter] at hi
        refine exK_sound hnp hT hΦ hG b _ st _ φ a w _ (hL.sub fun p hp => by simpa only [loopsOf] using hp) hi g ?_ ?_ hR
        · intro st' φ' a' w' h' g'
          exact ⟨n, Nat.lt_succ_self n, φ', _, g', h'⟩
        · intro j st' φ' a' w' h' g'
          show Exit.inBlock id Q (.exit j) a' w'
          simp only [Exit.inBlock]
          cases hj : Nat.beq j id with
          | true =>
            rw [hj] at h'
            rw [if_pos (Nat.eq_of_beq_eq_true hj)]
            exact hK st' φ' a' w' h' g'
          | false =>
            rw [hj] at h'
            have hne : j ≠ id := fun e => by subst e; simp at hj
            rw [if_neg hne]
            exact hX j st' φ' a' w' h' g'
  | .loop c, X, st, K, φ, a, w, Q, hL, h, good, hK, hX, hR => by simp [exK] at h
  | .scope c, X, st, K, φ, a, w, Q, hL, h, good, hK, hX, hR => by simp [exK] at h
  | .label l, X, st, K, φ, a, w, Q, hL, h, good, hK, hX, hR => by simp [exK] at h
  | .goto l, X, st, K, φ, a, w, Q, hL, h, good, hK, hX, hR => by simp [exK] at h
  | .rangeFunc .., X, st, K, φ, a, w, Q, hL, h, good, hK, hX, hR => by simp [exK] at h
end
end Go.Fx
end
