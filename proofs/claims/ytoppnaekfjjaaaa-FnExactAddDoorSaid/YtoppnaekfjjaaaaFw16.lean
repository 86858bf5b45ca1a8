/- The reflective executor, part 16: a row of operations, in a given order. -/
import Derived.Test.YtoppnaekfjjaaaaFw15
set_option linter.unusedVariables false
set_option linter.unusedSimpArgs false
set_option autoImplicit false
namespace Go.Fx
open Go

section
variable {P : Program} {w0 : World} {W0 : Nat → Prop} {ty : Ty} {N : Nat} {np : List Nat} {pv : Nat → Option Value}

/-- A callee's abstract effect is what the call does. -/
def CallOk (P : Program) (g : Nat) (objs : Nat → Option AO) (φ : Nat → Option (Nat × Nat)) (seen : Nat → Bool) (w0 : World) (W0 : Nat → Prop) (w : World) (vals : List Value) (e : Eff) : Prop :=
  ∃ fn c, P.funcs[g]? = some fn ∧ fn.body = some c ∧ (fn.name == "runtime.NumGoroutine") = false ∧
    Calls P g vals.toArray w fun
      | .returned v, w' => ∃ φ', e.val.rep (Af objs seen e φ' w') v ∧ Heap w0 W0 (Af objs seen e φ' w') w' ∧ (G objs φ seen w).le (Af objs seen e φ' w')
      | _, _ => False

structure PFn.Ok (P : Program) (g : Nat) (F : PFn) : Prop where
  nat : F.Natural
  loc : F.Local
  calls : ∀ (w0 : World) (W0 : Nat → Prop) (objs : Nat → Option AO) (φ : Nat → Option (Nat × Nat)) (seen : Nat → Bool) (w : World) (args : List SV) (vals : List Value) (d : Nat) (e : Eff),
    F.run args objs seen d some = some e → Heap w0 W0 (G objs φ seen w) w → SV.repL (G objs φ seen w) args vals → CallOk P g objs φ seen w0 W0 w vals e

/-- No function at all. -/
def noFn : PFn := ⟨fun _ _ _ _ _ => none⟩
theorem noFn_ok (g : Nat) : noFn.Ok P g where
  nat := fun _ _ _ _ _ _ => rfl
  loc := ⟨fun _ _ _ _ _ _ _ h _ => by cases h⟩
  calls := fun _ _ _ _ _ _ _ _ _ _ h => by cases h

/-- After an operation. -/
def NextOk (w0 : World) (W0 : Nat → Prop) (objs : Nat → Option AO) (φ : Nat → Option (Nat × Nat)) (seen : Nat → Bool) (w : World) (e : Eff) (K : Value → World → Prop) : Prop :=
  ∀ v w' φ', e.val.rep (Af objs seen e φ' w') v → Heap w0 W0 (Af objs seen e φ' w') w' → (G objs φ seen w).le (Af objs seen e φ' w') → K v w'

theorem oper_wp {Φ : Nat → PFn} (hT : TyOk P ty) (hΦ : ∀ g, (Φ g).Ok P g) {st : St} {φ : Nat → Option (Nat × Nat)} {a : Act} {w : World} (good : Good w0 W0 N pv st φ a w) {o : Oper} {d : Nat} {e : Eff}
    (h : opK ty Φ (ev st.slots) st.objs st.seen d o.op some = some e) {next : Act → World → Prop} {Q : Exit → Act → World → Prop}
    (hn : NextOk w0 W0 st.objs φ st.seen w e fun v w' => next (a.put o.dst v) w') : o.wp P a w next Q := by
  have hev : ∀ x, (ev st.slots x).rep (G st.objs φ st.seen w) (a.eval x) := fun x => ev_rep good.slot x
  by_cases hc : ∃ c f, o.op = .call c ∧ c.callee = .value f
  · obtain ⟨c, f, hop, hcal⟩ := hc
    rw [hop] at h
    simp only [opK, hcal] at h
    split at h
    · rename_i g caps hf
      have hfr := hev f
      rw [hf] at hfr
      obtain ⟨vs, hfv, hvs⟩ := hfr
      have hargs : SV.repL (G st.objs φ st.seen w) (c.args.toList.map (ev st.slots) ++ caps) (c.args.toList.map a.eval ++ vs) := repL_append (caps_rep hev _) hvs
      obtain ⟨fn, cd, h1, h2, h3, h4⟩ := (hΦ g).calls w0 W0 st.objs φ st.seen w _ _ d e h good.heap hargs
      have harr : (c.args.toList.map a.eval ++ vs).toArray = #[] ++ c.args.map a.eval ++ vs.toArray := by
        apply Array.ext'
        simp
      have hrun : (execOp a.eval o).run P w = .ok (.enter g (c.args.toList.map a.eval ++ vs).toArray) w := by
        obtain ⟨dst, op, rt, pos, after, guard⟩ := o
        simp only at hop
        subst hop
        rw [harr]
        simp only [execOp, resolve, hcal, hfv, Deferred.ofValue, Sem.run_bind, Sem.run_pure, Result.andThen_ok, invoke, callFunc, run_program, h1, h3, h2, Option.isNone_some, Bool.false_eq_true, if_false]
      unfold Oper.wp
      rw [hrun, Oper.upon_enter]
      refine Calls.mono h4 fun e1 w' he => ?_
      cases e1 with
      | returned v =>
        obtain ⟨φ', q1, q2, q3⟩ := he
        exact hn v w' φ' q1 q2 q3
      | panicked c => exact he.elim
      | outgrown => exact he.elim
    · simp at h
  · have hnc : ∀ c f, o.op = .call c → c.callee ≠ .value f := fun c f h1 h2 => hc ⟨c, f, h1, h2⟩
    obtain ⟨nx, v, w', φ', hrun, hnx, q1, q2, q3⟩ := opS_does hT Φ good.heap hev hnc h
    unfold Oper.wp
    rw [hrun]
    rcases hnx with rfl | ⟨rfl, rfl⟩
    · exact hn v w' φ' q1 q2 q3
    · exact hn undef w' φ' q1 q2 q3

/-! ### States after an operation -/
theorem np_none (hnp : ∀ i V, pv i = some V → i ∈ np) {d : Nat} (h : (np.all fun i => !Nat.beq i d) = true) : pv d = none := by
  cases hp : pv d with
  | none => rfl
  | some V =>
    have := List.all_eq_true.1 h d (hnp d V hp)
    simp at this

theorem Good.put {st : St} {φ : Nat → Option (Nat × Nat)} {a : Act} {w : World} (good : Good w0 W0 N pv st φ a w) {e : Eff} {v : Value} {w' : World} {φ' : Nat → Option (Nat × Nat)} {dst : Option Tmp}
    (hd : ∀ d, dst = some d → d < N ∧ pv d = none)
    (q1 : e.val.rep (Af st.objs st.seen e φ' w') v) (q2 : Heap w0 W0 (Af st.objs st.seen e φ' w') w') (q3 : (G st.objs φ st.seen w).le (Af st.objs st.seen e φ' w'))
    {i : Nat} {rd : List Nat} :
    Good w0 W0 N pv (Rec.apply ⟨i, dst, rd, e⟩ st) φ' (a.put dst v) w' where
  defers := by
    cases dst with
    | none => exact good.defers
    | some d => simpa [Act.put] using good.defers
  size := by
    cases dst with
    | none => exact good.size
    | some d => simpa [Act.put] using good.size
  heap := q2
  par := by
    intro j V hj
    cases dst with
    | none => exact good.par j V hj
    | some d =>
      have hne : d ≠ j := by
        intro e
        have h1 := (hd d rfl).2
        rw [e, hj] at h1
        cases h1
      have : (a.tmps.setIfInBounds d v).getD j undef = a.tmps.getD j undef := by
        simp [Array.getElem?_setIfInBounds_ne hne]
      exact this.trans (good.par j V hj)
  slot := by
    intro j
    cases dst with
    | none => exact SV.rep_le q3 _ _ (good.slot j)
    | some d =>
      show SV.rep _ (upd st.slots d e.val j) ((a.tmps.setIfInBounds d v).getD j undef)
      have hs : d < a.tmps.size := good.size ▸ (hd d rfl).1
      by_cases hj : j = d
      · subst hj
        rw [upd_same]
        have hv : (a.tmps.setIfInBounds j v).getD j undef = v := by simp [hs]
        rw [hv]
        exact q1
      · rw [upd_ne _ _ hj]
        have : (a.tmps.setIfInBounds d v).getD j undef = a.tmps.getD j undef := by
          simp [Array.getElem?_setIfInBounds_ne (Ne.symm hj)]
        rw [this]
        exact SV.rep_le q3 _ _ (good.slot j)

/-! ### Guards -/
theorem guard_ok {ops : List Oper} {o : Oper} {st : St} {φ : Nat → Option (Nat × Nat)} {a : Act} {w : World} (good : Good w0 W0 N pv st φ a w) {b : Bool} (h : guardOf ops o st = some b) :
    Region.wanted o (yielded ops.toArray a.tmps) = b := by
  unfold guardOf at h
  unfold Region.wanted
  split at h
  · rename_i hg
    simp only [Option.some.injEq] at h
    simp [hg, h]
  · rename_i j want hg
    simp only [hg]
    split at h
    · simp at h
    · rename_i t ht
      have hr := good.slot t
      have hy : yielded ops.toArray a.tmps j = (match a.tmps[t]? with | some (.bool b) => some b | _ => none) := by
        unfold yielded
        rw [List.getElem?_toArray, ht]
        rfl
      rw [hy]
      split at h
      · rename_i b' hs
        rw [hs] at hr
        simp only [SV.rep] at hr
        have hv : a.tmps[t]? = some (.bool b') := by
          cases hq : a.tmps[t]? with
          | none => simp [hq, undef] at hr
          | some u => simpa [hq] using hr
        simp only [Option.some.injEq] at h
        subst h
        rw [hv]
        cases b' <;> rfl
      · rename_i b' hs
        rw [hs] at hr
        simp only [SV.rep] at hr
        have hv : a.tmps[t]? = some (.bool b') := by
          cases hq : a.tmps[t]? with
          | none => simp [hq, undef] at hr
          | some u => simpa [hq] using hr
        simp only [Option.some.injEq] at h
        subst h
        rw [hv]
        cases b' <;> rfl
      · rename_i hs
        rw [hs] at hr
        obtain ⟨vs, hv, hvs⟩ := hr
        simp only [Option.some.injEq] at h
        subst h
        have : (match a.tmps[t]? with | some (.bool b) => some b | _ => none) = (none : Option Bool) := by
          cases hq : a.tmps[t]? with
          | none => rfl
          | some u =>
            have : u = .tuple vs.toArray := by simpa [hq] using hv
            subst this
            rfl
        rw [this]
        rfl
      · simp at h

/-! ### A row of operations in a given order -/
def stepA (ty : Ty) (Φ : Nat → PFn) (N : Nat) (np : List Nat) (ops : List Oper) (i : Nat) (st : St) : Option Rec :=
  match ops[i]? with
  | none => none
  | some o =>
    match dstOk N np o, guardOf ops o st with
    | true, some false => some ⟨i, o.dst, opReads ops o, ⟨.tup [], [], []⟩⟩
    | true, some true => (opK ty Φ (ev st.slots) st.objs st.seen (o.dst.getD N) o.op some).bind fun e =>
        match isGuard ops i with
        | false => some ⟨i, o.dst, opReads ops o, e⟩
        | true => match e.val with
          | .bool b => some ⟨i, o.dst, opReads ops o, ⟨.bool b, e.wr, e.touch⟩⟩
          | _ => none
    | _, _ => none

def runL (ty : Ty) (Φ : Nat → PFn) (N : Nat) (np : List Nat) (ops : List Oper) : List Nat → St → Option (List Rec × St)
  | [], st => some ([], st)
  | i :: L, st => match stepA ty Φ N np ops i st with
    | none => none
    | some r => match runL ty Φ N np ops L (r.apply st) with
      | none => none
      | some (rs, s) => some (r :: rs, s)

theorem stepA_wp {Φ : Nat → PFn} (hnp : ∀ i V, pv i = some V → i ∈ np) (hT : TyOk P ty) (hΦ : ∀ g, (Φ g).Ok P g) {ops : List Oper} {i : Nat} {st : St} {r : Rec} (h : stepA ty Φ N np ops i st = some r)
    {φ : Nat → Option (Nat × Nat)} {a : Act} {w : World} (good : Good w0 W0 N pv st φ a w) {K : Act → World → Prop} {Q : Exit → Act → World → Prop}
    (hK : ∀ φ' a' w', Good w0 W0 N pv (r.apply st) φ' a' w' → K a' w') : wpOp P ops.toArray Q i K a w := by
  unfold stepA at h
  unfold Go.wpOp
  rw [List.getElem?_toArray]
  split at h
  · simp at h
  · rename_i o ho
    simp only [ho]
    split at h
    · rename_i hd hg
      simp only [Option.some.injEq] at h
      subst h
      rw [guard_ok good hg]
      simp only [Bool.false_eq_true, if_false]
      refine hK φ _ _ (Good.put (e := ⟨.tup [], [], []⟩) (v := undef) (w' := w) (φ' := φ) good ?_ ⟨[], rfl, rfl⟩ good.heap (Ctx.le.refl _))
      intro d hdd
      simp only [dstOk, hdd, Bool.and_eq_true] at hd
      exact ⟨Nat.le_of_ble_eq_true hd.1, np_none hnp hd.2⟩
    · rename_i hd hg
      have hd' : ∀ d, o.dst = some d → d < N ∧ pv d = none := by
        intro d hdd
        simp only [dstOk, hdd, Bool.and_eq_true] at hd
        exact ⟨Nat.le_of_ble_eq_true hd.1, np_none hnp hd.2⟩
      rw [guard_ok good hg]
      simp only [if_true]
      cases he : opK ty Φ (ev st.slots) st.objs st.seen (o.dst.getD N) o.op some with
      | none => simp [he] at h
      | some e =>
        rw [he, Option.bind_some] at h
        refine .inl (oper_wp hT hΦ good he fun v w' φ' q1 q2 q3 => ?_)
        split at h
        · simp only [Option.some.injEq] at h
          subst h
          exact hK φ' _ _ (Good.put good hd' q1 q2 q3)
        · split at h
          · rename_i b hb
            simp only [Option.some.injEq] at h
            subst h
            refine hK φ' _ _ (Good.put good hd' (e := ⟨.bool b, e.wr, e.touch⟩) ?_ q2 q3)
            rw [hb] at q1
            exact q1
          · simp at h
    · simp at h

theorem runL_wp {Φ : Nat → PFn} (hnp : ∀ i V, pv i = some V → i ∈ np) (hT : TyOk P ty) (hΦ : ∀ g, (Φ g).Ok P g) {ops : List Oper} {Q : Exit → Act → World → Prop} : ∀ (L : List Nat) (st : St) (rs : List Rec) (st' : St), runL ty Φ N np ops L st = some (rs, st') →
    ∀ (φ : Nat → Option (Nat × Nat)) (a : Act) (w : World), Good w0 W0 N pv st φ a w → (∀ φ' a' w', Good w0 W0 N pv st' φ' a' w' → Q .normal a' w') → wpOps P ops.toArray Q L a w
  | [], st, rs, st', h, φ, a, w, good, hQ => by
    simp only [runL, Option.some.injEq, Prod.mk.injEq] at h
    obtain ⟨rfl, rfl⟩ := h
    exact hQ φ a w good
  | i :: L, st, rs, st', h, φ, a, w, good, hQ => by
    rw [wpOps_cons]
    simp only [runL] at h
    split at h
    · simp at h
    · rename_i r hr
      split at h
      · simp at h
      · rename_i rs1 s1 h1
        simp only [Option.some.injEq, Prod.mk.injEq] at h
        obtain ⟨rfl, rfl⟩ := h
        exact stepA_wp hnp hT hΦ hr good fun φ' a' w' g' => runL_wp hnp hT hΦ L _ _ _ h1 φ' a' w' g' hQ

/-- What the executor does in a region, as a row of steps. -/
theorem regK_runL {β : Type} {Φ : Nat → PFn} (hΦ : ∀ g, (Φ g).Natural) {ops : List Oper} : ∀ (os : List Oper) (i : Nat) (st : St) (rs : List Rec) (K : List Rec → St → Option β) (x : β), ops.drop i = os →
    regK ty Φ N np ops os i st rs K = some x → ∃ rs' st', runL ty Φ N np ops (List.range' i os.length) st = some (rs', st') ∧ K (rs'.reverse ++ rs) st' = some x
  | [], i, st, rs, K, x, hd, h => ⟨[], st, rfl, h⟩
  | o :: os, i, st, rs, K, x, hd, h => by
    have ho : ops[i]? = some o := by
      have := congrArg (fun l => l[0]?) hd
      simpa using this
    have hd' : ops.drop (i + 1) = os := by
      rw [← List.drop_drop, hd]
      rfl
    have next : ∀ (r : Rec), stepA ty Φ N np ops i st = some r → regK ty Φ N np ops os (i + 1) (r.apply st) (r :: rs) K = some x →
        ∃ rs' st', runL ty Φ N np ops (List.range' i (o :: os).length) st = some (rs', st') ∧ K (rs'.reverse ++ rs) st' = some x := by
      intro r hr hk
      obtain ⟨rs', st', h1, h2⟩ := regK_runL hΦ os (i + 1) _ _ K x hd' hk
      refine ⟨r :: rs', st', ?_, ?_⟩
      · simp only [List.length_cons, List.range'_succ, runL, hr, h1]
      · simpa using h2
    simp only [regK] at h
    split at h
    · rename_i hd1 hg
      exact next _ (by simp only [stepA, ho, hd1, hg]) h
    · rename_i hd1 hg
      rw [opK_nat hΦ] at h
      cases he : opK ty Φ (ev st.slots) st.objs st.seen (o.dst.getD N) o.op some with
      | none => simp [he] at h
      | some e =>
        rw [he, Option.bind_some] at h
        have hs : stepA ty Φ N np ops i st = (match isGuard ops i with
            | false => some ⟨i, o.dst, opReads ops o, e⟩
            | true => match e.val with
              | .bool b => some ⟨i, o.dst, opReads ops o, ⟨.bool b, e.wr, e.touch⟩⟩
              | _ => none) := by simp only [stepA, ho, hd1, hg, he, Option.bind_some]
        split at h
        · rename_i hi
          exact next _ (by rw [hs, hi]) h
        · rename_i hi
          split at h
          · rename_i b hb
            split at h
            · rename_i hbt
              refine next _ ?_ h
              rw [hs, hi]
              simp only [hb, hbt]
            · rename_i hbf
              have hbf' : b = false := by simpa using hbf
              refine next _ ?_ h
              rw [hs, hi]
              simp only [hb, hbf']
          · simp at h
    · simp at h

end
end Go.Fx
