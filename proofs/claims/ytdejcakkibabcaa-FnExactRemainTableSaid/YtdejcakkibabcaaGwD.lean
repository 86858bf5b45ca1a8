/- The reflective executor: functions that are told by Lean functions; laws and their arguments. -/
import Derived.Test.YtdejcakkibabcaaGwC
import Derived.Below
import Derived.ChangeArms
import Derived.WideShapes
import Derived.Carry
import Derived.OpenShut
import Derived.ChangeOld
import Derived.ProofKit
noncomputable section
set_option linter.unusedVariables false
set_option linter.unusedSimpArgs false
set_option autoImplicit false
namespace Go.Fx
open Go

/-! ### 1. Results -/
def resSV (ty : Ty) : List ResultVar → St → Option (List SV)
  | [], _ => some []
  | .tmp t :: r, st => match resSV ty r st with
    | some l => some (st.slots t :: l)
    | none => none
  | .cell a t :: r, st => match loadK ty t (st.slots a) st.objs some with
    | some e => match resSV ty r st with
      | some l => some (e.val :: l)
      | none => none
    | none => none

section
variable {P : Program} {w0 : World} {W0 : Nat → Option (Option EK) → Prop} {N : Nat} {pv : Nat → Option Value} {ty : Ty}

theorem resSV_run (hT : TyOk P ty) {st : St} {φ : Nat → Option (Nat × Nat)} {a : Act} {w : World} (good : Good w0 W0 N pv st φ a w) : ∀ (rs : List ResultVar) (l : List SV), resSV ty rs st = some l →
    ∃ us : List Value, (rs.mapM fun (r : ResultVar) => (match r with
      | .tmp t => pure (a.tmps.getD t undef)
      | .cell b t => do loadVar t (← asAddr (a.tmps.getD b undef)) : Sem Value)).run P w = .ok us w ∧ SV.repL (ctx st φ w) l us
  | [], l, h => by
    simp only [resSV, Option.some.injEq] at h
    subst h
    exact ⟨[], by simp, rfl⟩
  | .tmp t :: rs, l, h => by
    simp only [resSV] at h
    split at h
    · rename_i l' hl
      simp only [Option.some.injEq] at h
      subst h
      obtain ⟨us, h1, h2⟩ := resSV_run hT good rs l' hl
      refine ⟨a.tmps.getD t undef :: us, ?_, _, _, rfl, good.slot t, h2⟩
      rw [List.mapM_cons]
      simp only [Sem.run_bind, Sem.run_pure, Result.andThen_ok]
      rw [h1]
      simp
    · simp at h
  | .cell b t :: rs, l, h => by
    simp only [resSV] at h
    split at h
    · rename_i e he
      split at h
      · rename_i l' hl
        simp only [Option.some.injEq] at h
        subst h
        obtain ⟨us, h1, h2⟩ := resSV_run hT good rs l' hl
        obtain ⟨v, hv, _, hr⟩ := load_ok hT good.heap he (good.slot b)
        have hv' : (do loadVar t (← asAddr (a.tmps.getD b undef)) : Sem Value).run P w = .ok v w := by
          unfold Instr.loadAt at hv
          cases hb : a.tmps.getD b undef <;> rw [hb] at hv
          case pointer p =>
            cases p with
            | none => simp [Instr.sureAddr, stuck] at hv
            | some ad => simpa [Instr.sureAddr, asAddr] using hv
          all_goals simp [Instr.sureAddr, stuck] at hv
        refine ⟨v :: us, ?_, _, _, rfl, hr, h2⟩
        rw [List.mapM_cons]
        simp only [Sem.run_bind, hv', Result.andThen_ok]
        rw [h1]
        simp
      · simp at h
    · simp at h

def valC : List Value → Value
  | [u] => u
  | us => .tuple us.toArray
def valOf : List SV → SV
  | [v] => v
  | vs => .tup vs

theorem results_run (hT : TyOk P ty) {st : St} {φ : Nat → Option (Nat × Nat)} {a : Act} {w : World} (good : Good w0 W0 N pv st φ a w) {fn : Func} {l : List SV} (h : resSV ty fn.results.toList st = some l) :
    ∃ us : List Value, (results fn a.tmps).run P w = .ok (valC us) w ∧ SV.repL (ctx st φ w) l us := by
  obtain ⟨us, h1, h2⟩ := resSV_run hT good fn.results.toList l h
  refine ⟨us, ?_, h2⟩
  unfold results
  rw [Array.mapM_eq_mapM_toList]
  simp only [Sem.run_bind, bind_pure_comp, Functor.map_map]
  rw [Sem.run_map]
  refine (congrArg (fun r => r.andThen fun (a : List Value) w' => Result.ok (if h : a.toArray.size = 1 then a.toArray[0] else Value.tuple a.toArray) w') h1).trans ?_
  match us with
  | [] => simp [valC]
  | [u] => simp [valC]
  | u :: v :: us => simp [valC]

theorem valOf_rep {Γ : Ctx} : ∀ {l : List SV} {us : List Value}, SV.repL Γ l us → (valOf l).rep Γ (valC us)
  | [], us, h => by
    simp only [SV.repL] at h
    subst h
    exact ⟨[], rfl, rfl⟩
  | [v], us, h => by
    obtain ⟨x, xs, rfl, h1, h2⟩ := h
    simp only [SV.repL] at h2
    subst h2
    exact h1
  | v :: v' :: l, us, h => by
    obtain ⟨x, xs, rfl, h1, h2⟩ := h
    obtain ⟨x', xs', rfl, h3, h4⟩ := h2
    exact ⟨x :: x' :: xs', rfl, _, _, rfl, h1, _, _, rfl, h3, h4⟩
end

/-! ### 2. What is read off is local -/
theorem extB_loc {look look' : Nat → Option AO} : ∀ {b : BK} {v : SV} {es es1 : List Ent} {y : b.den}, extB look b v es = some (y, es1) → (∃ de, es1 = es ++ de) ∧ ((∀ x ∈ es1, ∀ h w, x.src = some (h, w) → look' h = look h) → extB look' b v es = some (y, es1)) := by
  intro b v es es1 y h
  cases b with
  | row e own =>
    cases v <;> simp only [extB] at h <;> try (simp at h; done)
    · simp only [Option.some.injEq, Prod.mk.injEq] at h
      obtain ⟨rfl, rfl⟩ := h
      exact ⟨⟨_, rfl⟩, fun _ => rfl⟩
    · rename_i hh win
      split at h
      · rename_i ro e' l ho
        split at h
        · rename_i he
          subst he
          split at h
          · simp at h
          · rename_i hoo
            simp only [Option.some.injEq, Prod.mk.injEq] at h
            obtain ⟨rfl, rfl⟩ := h
            refine ⟨⟨_, rfl⟩, fun hq => ?_⟩
            have := hq ⟨some (hh, win), own⟩ (by simp) hh win rfl
            simp only [extB, this, ho, hoo, dite_true]
        · simp at h
      · simp at h
  | ref i =>
    cases v <;> simp only [extB] at h <;> try (simp at h; done)
    rename_i hh win
    cases win <;> simp only [extB] at h <;> try (simp at h; done)
    have h0 := h
    split at h
    · split at h
      · simp only [Option.some.injEq, Prod.mk.injEq] at h
        refine ⟨⟨[], by simp [h.2]⟩, fun _ => ?_⟩
        simpa only [extB] using h0
      · simp at h
    · simp at h
  | part i =>
    cases v <;> simp only [extB] at h <;> try (simp at h; done)
    rename_i hh win
    cases win <;> simp only [extB] at h <;> try (simp at h; done)
    rename_i q
    have h0 := h
    split at h
    · split at h
      · simp only [Option.some.injEq, Prod.mk.injEq] at h
        refine ⟨⟨[], by simp [h.2]⟩, fun _ => ?_⟩
        simpa only [extB] using h0
      · simp at h
    · simp at h
  | lit c =>
    have h' : (match litEq c v with | true => (some ((), es) : Option (Unit × List Ent)) | false => none) = some (y, es1) := by
      cases v <;> (simp only [extB] at h; exact h)
    have e1 : es1 = es := by
      split at h'
      · simp only [Option.some.injEq, Prod.mk.injEq] at h'
        exact h'.2.symm
      · simp at h'
    refine ⟨⟨[], by simp [e1]⟩, fun _ => ?_⟩
    cases v <;> (simp only [extB] at h ⊢; exact h)
  | map own =>
    cases v <;> simp only [extB] at h <;> try (simp at h; done)
    rename_i hh
    split at h
    · rename_i ro l ho
      split at h
      · simp at h
      · rename_i hoo
        simp only [Option.some.injEq, Prod.mk.injEq] at h
        obtain ⟨rfl, rfl⟩ := h
        refine ⟨⟨_, rfl⟩, fun hq => ?_⟩
        have := hq ⟨some (hh, .all), own⟩ (by simp) hh .all rfl
        simp only [extB, this, ho, hoo]
    · simp at h
  | tab own =>
    cases v <;> simp only [extB] at h <;> try (simp at h; done)
    · simp only [Option.some.injEq, Prod.mk.injEq] at h
      obtain ⟨rfl, rfl⟩ := h
      exact ⟨⟨_, rfl⟩, fun _ => rfl⟩
    · rename_i hh win
      cases win <;> simp only [extB] at h <;> try (simp at h; done)
      split at h
      · rename_i ro l ho
        split at h
        · simp at h
        · rename_i hoo
          simp only [Option.some.injEq, Prod.mk.injEq] at h
          obtain ⟨rfl, rfl⟩ := h
          refine ⟨⟨_, rfl⟩, fun hq => ?_⟩
          have := hq ⟨some (hh, .all), own⟩ (by simp) hh .all rfl
          simp only [extB, this, ho, hoo]
      · simp at h
  | clo f rs =>
    cases v <;> simp only [extB] at h <;> try (simp at h; done)
    have h0 := h
    split at h
    · simp only [Option.some.injEq, Prod.mk.injEq] at h
      exact ⟨⟨[], by simp [h.2]⟩, fun _ => by simpa only [extB] using h0⟩
    · simp at h
  | int k =>
    cases v <;> simp only [extB] at h <;> try (simp at h; done)
    have h0 := h
    split at h
    · simp only [Option.some.injEq, Prod.mk.injEq] at h
      refine ⟨⟨[], by simp [h.2]⟩, fun _ => ?_⟩
      simpa only [extB] using h0
    · simp at h
  | bool =>
    cases v <;> simp only [extB] at h <;> try (simp at h; done)
    have h0 := h
    simp only [Option.some.injEq, Prod.mk.injEq] at h
    exact ⟨⟨[], by simp [h.2]⟩, fun _ => by simpa only [extB] using h0⟩
  | str =>
    cases v <;> simp only [extB] at h <;> try (simp at h; done)
    have h0 := h
    simp only [Option.some.injEq, Prod.mk.injEq] at h
    exact ⟨⟨[], by simp [h.2]⟩, fun _ => by simpa only [extB] using h0⟩

theorem extBs_loc {look look' : Nat → Option AO} : ∀ {bs : List BK} {vs : List SV} {es es1 : List Ent} {y : denB bs}, extBs look bs vs es = some (y, es1) →
    (∃ de, es1 = es ++ de) ∧ ((∀ x ∈ es1, ∀ h w, x.src = some (h, w) → look' h = look h) → extBs look' bs vs es = some (y, es1))
  | [], vs, es, es1, y, h => by
    cases vs <;> simp only [extBs] at h <;> try (simp at h; done)
    have h0 := h
    simp only [Option.some.injEq, Prod.mk.injEq] at h
    exact ⟨⟨[], by simp [h.2]⟩, fun _ => by simpa only [extBs] using h0⟩
  | b :: bs, vs, es, es1, y, h => by
    cases vs with
    | nil => simp [extBs] at h
    | cons v vs =>
      simp only [extBs] at h
      split at h
      · rename_i x es2 hx
        split at h
        · rename_i xs es3 hxs
          simp only [Option.some.injEq, Prod.mk.injEq] at h
          obtain ⟨rfl, rfl⟩ := h
          obtain ⟨⟨d1, k1⟩, l1⟩ := extB_loc (look' := look') hx
          obtain ⟨⟨d2, k2⟩, l2⟩ := extBs_loc (look' := look') hxs
          refine ⟨⟨d1 ++ d2, by rw [k2, k1]; simp⟩, fun hq => ?_⟩
          simp only [extBs, l1 fun z hz => hq z (by rw [k2]; simp [hz]), l2 hq]
        · simp at h
      · simp at h

theorem extK_loc {look look' : Nat → Option AO} {k : KD} {v : SV} {es es1 : List Ent} {y : k.den} (h : extK look k v es = some (y, es1)) :
    (∃ de, es1 = es ++ de) ∧ ((∀ x ∈ es1, ∀ h w, x.src = some (h, w) → look' h = look h) → extK look' k v es = some (y, es1)) := by
  induction k generalizing v es es1 with
  | one b =>
    have h' : extB look b v es = some (y, es1) := by simpa only [extK] using h
    obtain ⟨h1, h2⟩ := extB_loc (look' := look') h'
    exact ⟨h1, fun q => by simpa only [extK] using h2 q⟩
  | agg bs =>
    cases v <;> simp only [extK] at h <;> try (simp at h; done)
    obtain ⟨h1, h2⟩ := extBs_loc (look' := look') h
    exact ⟨h1, fun q => by simpa only [extK] using h2 q⟩
  | box own bs =>
    cases v <;> try (simp [extK] at h; done)
    rename_i hh i
    cases i with
    | succ i => simp only [extK] at h; simp at h
    | zero =>
      simp only [extK] at h
      split at h
      · rename_i ro cs ho
        split at h
        · simp at h
        · rename_i hoo
          obtain ⟨⟨d, h1⟩, h2⟩ := extBs_loc (look' := look') h
          refine ⟨⟨⟨some (hh, .all), own⟩ :: d, by rw [h1]; simp⟩, fun q => ?_⟩
          have := q ⟨some (hh, .all), own⟩ (by rw [h1]; simp) hh .all rfl
          simp only [extK, this, ho, hoo]
          exact h2 q
      · simp at h
  | vec own bs =>
    cases v <;> try (simp [extK] at h; done)
    rename_i hh i
    cases i with
    | drop i => simp only [extK] at h; simp at h
    | take i => simp only [extK] at h; simp at h
    | sub i j => simp only [extK] at h; simp at h
    | all =>
      simp only [extK] at h
      split at h
      · rename_i ro cs ho
        split at h
        · simp at h
        · rename_i hoo
          obtain ⟨⟨d, h1⟩, h2⟩ := extBs_loc (look' := look') h
          refine ⟨⟨⟨some (hh, .all), own⟩ :: d, by rw [h1]; simp⟩, fun q => ?_⟩
          have := q ⟨some (hh, .all), own⟩ (by rw [h1]; simp) hh .all rfl
          simp only [extK, this, ho, hoo]
          exact h2 q
      · simp at h
  | arr n own =>
    cases v <;> try (simp [extK] at h; done)
    rename_i hh i j
    cases i with
    | succ i => simp only [extK] at h; simp at h
    | zero =>
      cases j with
      | succ j => simp only [extK] at h; simp at h
      | zero =>
        simp only [extK] at h
        split at h
        · rename_i ro m l ho
          have h0 := h
          split at h
          · simp only [Option.some.injEq, Prod.mk.injEq] at h
            obtain ⟨_, rfl⟩ := h
            refine ⟨⟨_, rfl⟩, fun q => ?_⟩
            have := q ⟨some (hh, .all), own⟩ (by simp) hh .all rfl
            simp only [extK, this, ho]
            exact h0
          · simp at h
        · simp at h
  | ints n =>
    cases v <;> simp only [extK] at h <;> try (simp at h; done)
    have h0 := h
    split at h
    · simp only [Option.some.injEq, Prod.mk.injEq] at h
      exact ⟨⟨[], by simp [h.2]⟩, fun _ => by simpa only [extK] using h0⟩
    · simp at h
  | fn f bs =>
    cases v <;> simp only [extK] at h <;> try (simp at h; done)
    split at h
    · rename_i hb
      obtain ⟨h1, h2⟩ := extBs_loc (look' := look') h
      exact ⟨h1, fun q => by simp only [extK, hb]; exact h2 q⟩
    · simp at h
  | fna f bs =>
    cases v <;> try (simp only [extK] at h; simp at h; done)
    rename_i g caps
    cases caps with
    | nil => simp [extK] at h
    | cons c caps =>
      cases caps with
      | cons c2 caps => cases c <;> (simp only [extK] at h; simp at h)
      | nil =>
        cases c <;> try (simp only [extK] at h; simp at h; done)
        simp only [extK] at h
        split at h
        · rename_i hb
          obtain ⟨h1, h2⟩ := extBs_loc (look' := look') h
          exact ⟨h1, fun q => by simp only [extK, hb]; exact h2 q⟩
        · simp at h
  | pref i off =>
    cases v <;> simp only [extK] at h <;> try (simp at h; done)
    have h0 := h
    split at h
    · split at h
      · simp only [Option.some.injEq, Prod.mk.injEq] at h
        exact ⟨⟨[], by simp [h.2]⟩, fun _ => by simpa only [extK] using h0⟩
      · simp at h
    · simp at h
  | aref i =>
    cases v <;> try (simp [extK] at h; done)
    rename_i hh a b
    cases a with
    | succ a => simp only [extK] at h; simp at h
    | zero =>
      cases b with
      | succ b => simp only [extK] at h; simp at h
      | zero =>
        simp only [extK] at h
        have h0 := h
        split at h
        · split at h
          · simp only [Option.some.injEq, Prod.mk.injEq] at h
            exact ⟨⟨[], by simp [h.2]⟩, fun _ => by simpa only [extK] using h0⟩
          · simp at h
        · simp at h
  | cap k r ihk ihr =>
    cases v <;> try (simp only [extK] at h; simp at h; done)
    rename_i g caps
    cases caps with
    | nil => simp [extK] at h
    | cons c cs =>
      simp only [extK] at h
      split at h
      · rename_i x es2 hx
        split at h
        · rename_i xs es3 hxs
          simp only [Option.some.injEq, Prod.mk.injEq] at h
          obtain ⟨rfl, rfl⟩ := h
          obtain ⟨⟨d1, k1⟩, l1⟩ := ihk hx
          obtain ⟨⟨d2, k2⟩, l2⟩ := ihr hxs
          refine ⟨⟨d1 ++ d2, by rw [k2, k1]; simp⟩, fun hq => ?_⟩
          simp only [extK, l1 fun z hz => hq z (by rw [k2]; simp [hz]), l2 hq]
        · simp at h
      · simp at h

theorem extL_loc {look look' : Nat → Option AO} : ∀ {ks : List KD} {vs : List SV} {es es1 : List Ent} {y : denL ks}, extL look ks vs es = some (y, es1) →
    (∃ de, es1 = es ++ de) ∧ ((∀ x ∈ es1, ∀ h w, x.src = some (h, w) → look' h = look h) → extL look' ks vs es = some (y, es1))
  | [], vs, es, es1, y, h => by
    cases vs <;> simp only [extL] at h <;> try (simp at h; done)
    have h0 := h
    simp only [Option.some.injEq, Prod.mk.injEq] at h
    exact ⟨⟨[], by simp [h.2]⟩, fun _ => by simpa only [extL] using h0⟩
  | b :: bs, vs, es, es1, y, h => by
    cases vs with
    | nil => simp [extL] at h
    | cons v vs =>
      simp only [extL] at h
      split at h
      · rename_i x es2 hx
        split at h
        · rename_i xs es3 hxs
          simp only [Option.some.injEq, Prod.mk.injEq] at h
          obtain ⟨rfl, rfl⟩ := h
          obtain ⟨⟨d1, k1⟩, l1⟩ := extK_loc (look' := look') hx
          obtain ⟨⟨d2, k2⟩, l2⟩ := extL_loc (look' := look') hxs
          refine ⟨⟨d1 ++ d2, by rw [k2, k1]; simp⟩, fun hq => ?_⟩
          simp only [extL, l1 fun z hz => hq z (by rw [k2]; simp [hz]), l2 hq]
        · simp at h
      · simp at h

/-! ### 3. A function is entered -/
def entHs (es : List Ent) : List Nat := es.filterMap fun x => x.src.map (·.1)
/-- The blocks of what the callee takes over (none: what it may write; some: where what it refers to lies, by kinds) -/
def takenOver (Γ : Ctx) (es : List Ent) (b : Nat) : Option (Option EK) → Prop
  | none => ∃ x, x ∈ es ∧ x.own = true ∧ entAt Γ x b
  | some t => (∃ x h w a o, x ∈ es ∧ x.src = some (h, w) ∧ Γ.objs h = some a ∧ Γ.φ h = some (b, o) ∧ a.tag = t) ∨
      (t = some (.int .i64) ∧ ∃ x h w, x ∈ es ∧ x.src = some (h, w) ∧ Γ.inB h b)

section
variable {P : Program} {w0 : World} {W0 : Nat → Option (Option EK) → Prop}

/-- What is asked of the worlds holds in a callee too. -/
theorem GlOk.enter {objs : Nat → Option AO} {φ : Nat → Option (Nat × Nat)} {seen : Nat → Bool} {w : World} (hG : GlOk P w0 W0) (H : Heap w0 W0 (G objs φ seen w) w) {ks : List KD} {args : List SV} {vals : List Value} {x : denL ks} {es : List Ent}
    (hx : extL objs ks args [] = some (x, es)) (hv : SV.repL (G objs φ seen w) args vals) : GlOk P w (takenOver (G objs φ seen w) es) := by
  intro w' hs hk
  refine hG w' (Nat.le_trans H.size hs) fun b hb hW => ?_
  have hnt : ¬ takenOver (G objs φ seen w) es b none := by
    rintro ⟨z, hz, hown, hp⟩
    have hx' : extL (G objs φ seen w).objs ks args [] = some (x, es) := hx
    have p := extL_pair (base := 0) (os := []) H.obj hx' hv rfl
    have hl := p.lens rfl
    obtain ⟨k, hk⟩ := List.getElem?_of_mem hz
    have hlt := (List.getElem?_eq_some_iff.1 hk).1
    have om := (p.om []).2 k z _ (Nat.zero_le _) hk (List.getElem?_eq_getElem (by omega))
    obtain ⟨h1, w1, a1, q1, q2, q3, q4⟩ := entAt_src om hp
    rcases H.own2 h1 a1 b q2 (q4 hown) q3 with h | h
    · omega
    · exact hW h
  rw [hk b (Nat.lt_of_lt_of_le hb H.size) hnt, H.keep b hb hW]
theorem entered {Γ : Ctx} {w : World} (H : Heap w0 W0 Γ w) {shp : Shape} {args : List SV} {vals : List Value} {x : shp.den} {es : List Ent} (hx : extL Γ.objs shp.ks args [] = some (x, es)) (hok : entsOk es = true) (hv : SV.repL Γ args vals)
    (hshp : shp.map (·.1) = List.range shp.length) {N : Nat} (hN : shp.length ≤ N) {pv : Nat → Option Value} (hpv : ∀ i V, pv i = some V → vals[i]? = some V) :
    ∃ φ', Good w (takenOver Γ es) N pv (mkSt shp x) φ' { tmps := vals.toArray ++ Array.replicate (N - vals.toArray.size) undef, defers := [] } w := by
  have hlen : (bldL 0 shp.ks x []).2.length = es.length := (extL_pair (base := 0) (os := []) H.obj hx hv rfl).lens rfl
  have hla : args.length = shp.length := by
    have : ∀ {ks : List KD} {vs : List SV} {es es1 : List Ent} {y : denL ks}, extL Γ.objs ks vs es = some (y, es1) → vs.length = ks.length := by
      intro ks
      induction ks with
      | nil => intro vs es es1 y h; cases vs <;> simp [extL] at h ⊢
      | cons k ks ih =>
        intro vs es es1 y h
        cases vs with
        | nil => simp [extL] at h
        | cons v vs =>
          simp only [extL] at h
          split at h
          · split at h
            · rename_i h2
              simp [ih h2]
            · simp at h
          · simp at h
    have := this hx
    simpa using this
  have hlv : vals.length = shp.length := by rw [← repL_length hv, hla]
  let φ' : Nat → Option (Nat × Nat) := fun k => match es[k]? with | some e => entPlace Γ e | none => none
  obtain ⟨T, hr⟩ := extL_tgt (base := 0) H.obj hx hv (Γ' := ctx (mkSt shp x) φ' w) (fun k a ha => by rw [Nat.zero_add]; exact ha)
    (fun k e he => by rw [Nat.zero_add]; show (match es[k]? with | some e => entPlace Γ e | none => none) = _; rw [he])
    (fun k hk => by rw [Nat.zero_add]; show Nat.blt k _ = true; exact Nat.ble_eq_true_of_le hk) (fun b => (H.bs b).symm) (fun b i => (H.mem b i).symm)
  have htmp : ∀ i V, vals[i]? = some V → (vals.toArray ++ Array.replicate (N - vals.toArray.size) undef).getD i undef = V := by
    intro i V h
    have hlt := (List.getElem?_eq_some_iff.1 h).1
    simp only [Array.getD_eq_getD_getElem?]
    rw [Array.getElem?_append_left (by simpa using hlt)]
    simp [h]
  refine ⟨φ', rfl, ?_, ?_, ?_, ?_⟩
  · simp
    omega
  · intro i V h
    exact htmp i V (hpv i V h)
  · intro i
    refine assocS_rep (a := { tmps := vals.toArray ++ Array.replicate (N - vals.toArray.size) undef, defers := [] }) ?_ i
    rw [hshp]
    have : ((List.range shp.length).map fun i => (vals.toArray ++ Array.replicate (N - vals.toArray.size) undef).getD i undef) = vals := by
      apply List.ext_getElem?
      intro i
      rw [List.getElem?_map]
      by_cases hi : i < shp.length
      · rw [List.getElem?_range hi]
        have hiv : i < vals.length := by omega
        rw [List.getElem?_eq_getElem hiv]
        simp only [Option.map_some]
        rw [htmp i vals[i] (List.getElem?_eq_getElem hiv)]
      · rw [List.getElem?_eq_none (by simp; omega), List.getElem?_eq_none (by omega)]
        rfl
    rw [this]
    exact hr
  · refine tgt_heap H T hok (fun h a ha => ⟨h, by rw [Nat.zero_add], ha⟩) rfl ⟨rfl, .of (Nat.le_refl _)⟩ rfl (Nat.le_refl _) (fun _ _ _ => rfl) (fun b cur T fz hb hw => ⟨cur, hw, rfl⟩) (fun k e b he hown hp => .inr ⟨e, List.mem_of_getElem? he, hown, hp⟩) (fun k e a b o he ha hp => by
      obtain ⟨h1, w1, a1, o1, q1, q2, q3, q4⟩ := OM_tag (T.om k e a he ha) hp
      exact .inr (.inl ⟨e, h1, w1, a1, o1, List.mem_of_getElem? he, q1, q2, q3, q4⟩)) (fun k e b h v he hs hb => .inr (.inr ⟨rfl, e, h, v, List.mem_of_getElem? he, hs, hb⟩))
end
end Go.Fx
end

noncomputable section
set_option linter.unusedVariables false
set_option linter.unusedSimpArgs false
set_option autoImplicit false
namespace Go.Fx
open Go

def cntB : BK → Nat
  | .row _ _ => 1
  | .map _ => 1
  | .tab _ => 1
  | _ => 0
def cntBs : List BK → Nat
  | [] => 0
  | b :: bs => cntB b + cntBs bs
def cntK : KD → Nat
  | .one b => cntB b
  | .agg bs => cntBs bs
  | .box _ bs => 1 + cntBs bs
  | .vec _ bs => 1 + cntBs bs
  | .arr _ _ => 1
  | .ints _ => 0
  | .fn _ bs => cntBs bs
  | .fna _ bs => cntBs bs
  | .pref _ _ => 0
  | .aref _ => 0
  | .cap k r => cntK k + cntK r
def cntL : List KD → Nat
  | [] => 0
  | k :: ks => cntK k + cntL ks

def ownB : BK → Bool
  | .row _ own => own
  | .map own => own
  | .tab own => own
  | _ => true
def ownK : KD → Bool
  | .one b => ownB b
  | .agg bs => bs.all ownB
  | .box own bs => own && bs.all ownB
  | .vec own bs => own && bs.all ownB
  | .arr _ own => own
  | .ints _ => true
  | .fn _ bs => bs.all ownB
  | .fna _ bs => bs.all ownB
  | .pref _ _ => true
  | .aref _ => true
  | .cap k r => ownK k && ownK r

theorem bldB_len (base : Nat) (b : BK) (x : b.den) (os : List AO) : (bldB base b x os).2.length = os.length + cntB b := by
  cases b <;> simp [bldB, cntB]
theorem bldBs_len (base : Nat) : ∀ (bs : List BK) (x : denB bs) (os : List AO), (bldBs base bs x os).2.length = os.length + cntBs bs
  | [], x, os => rfl
  | b :: bs, x, os => by
    simp only [bldBs, cntBs]
    rw [bldBs_len base bs, bldB_len]
    omega
theorem bldK_len (base : Nat) (k : KD) (x : k.den) (os : List AO) : (bldK base k x os).2.length = os.length + cntK k := by
  induction k generalizing os with
  | cap k r ihk ihr => simp only [bldK, cntK, ihr, ihk, Nat.add_assoc]
  | _ => simp only [bldK, cntK, bldB_len, bldBs_len, List.length_set, List.length_append, List.length_singleton, Nat.add_zero, Nat.add_assoc]
theorem bldL_len (base : Nat) : ∀ (ks : List KD) (x : denL ks) (os : List AO), (bldL base ks x os).2.length = os.length + cntL ks
  | [], x, os => rfl
  | k :: ks, x, os => by
    simp only [bldL, cntL]
    rw [bldL_len base ks, bldK_len]
    omega

theorem extB_own {look : Nat → Option AO} {b : BK} {v : SV} {es es1 : List Ent} {y : b.den} (h : extB look b v es = some (y, es1)) (ho : ownB b = true) (hes : ∀ x ∈ es, x.own = true) : ∀ x ∈ es1, x.own = true := by
  cases b with
  | row e own =>
    simp only [ownB] at ho
    subst ho
    cases v <;> simp only [extB] at h <;> try (simp at h; done)
    · simp only [Option.some.injEq, Prod.mk.injEq] at h
      obtain ⟨_, rfl⟩ := h
      intro x hx
      rcases List.mem_append.1 hx with hx | hx
      · exact hes x hx
      · simp at hx; subst hx; rfl
    · split at h
      · split at h
        · split at h
          · simp at h
          · simp only [Option.some.injEq, Prod.mk.injEq] at h
            obtain ⟨_, rfl⟩ := h
            intro x hx
            rcases List.mem_append.1 hx with hx | hx
            · exact hes x hx
            · simp at hx; subst hx; rfl
        · simp at h
      · simp at h
  | ref i =>
    cases v <;> simp only [extB] at h <;> try (simp at h; done)
    rename_i hh win
    cases win <;> simp only [extB] at h <;> try (simp at h; done)
    split at h
    · split at h
      · simp only [Option.some.injEq, Prod.mk.injEq] at h
        rw [← h.2]; exact hes
      · simp at h
    · simp at h
  | part i =>
    cases v <;> simp only [extB] at h <;> try (simp at h; done)
    rename_i hh win
    cases win <;> simp only [extB] at h <;> try (simp at h; done)
    rename_i q
    split at h
    · split at h
      · simp only [Option.some.injEq, Prod.mk.injEq] at h
        rw [← h.2]; exact hes
      · simp at h
    · simp at h
  | lit c =>
    have h' : (match litEq c v with | true => (some ((), es) : Option (Unit × List Ent)) | false => none) = some (y, es1) := by
      cases v <;> (simp only [extB] at h; exact h)
    split at h'
    · simp only [Option.some.injEq, Prod.mk.injEq] at h'
      rw [← h'.2]; exact hes
    · simp at h'
  | map own =>
    simp only [ownB] at ho
    subst ho
    cases v <;> simp only [extB] at h <;> try (simp at h; done)
    split at h
    · split at h
      · simp at h
      · simp only [Option.some.injEq, Prod.mk.injEq] at h
        obtain ⟨_, rfl⟩ := h
        intro x hx
        rcases List.mem_append.1 hx with hx | hx
        · exact hes x hx
        · simp at hx; subst hx; rfl
    · simp at h
  | tab own =>
    simp only [ownB] at ho
    subst ho
    cases v <;> simp only [extB] at h <;> try (simp at h; done)
    · simp only [Option.some.injEq, Prod.mk.injEq] at h
      obtain ⟨_, rfl⟩ := h
      intro x hx
      rcases List.mem_append.1 hx with hx | hx
      · exact hes x hx
      · simp at hx; subst hx; rfl
    · rename_i hh win
      cases win <;> simp only [extB] at h <;> try (simp at h; done)
      split at h
      · split at h
        · simp at h
        · simp only [Option.some.injEq, Prod.mk.injEq] at h
          obtain ⟨_, rfl⟩ := h
          intro x hx
          rcases List.mem_append.1 hx with hx | hx
          · exact hes x hx
          · simp at hx; subst hx; rfl
      · simp at h
  | clo f rs =>
    cases v <;> simp only [extB] at h <;> try (simp at h; done)
    split at h
    · simp only [Option.some.injEq, Prod.mk.injEq] at h
      rw [← h.2]; exact hes
    · simp at h
  | int k =>
    cases v <;> simp only [extB] at h <;> try (simp at h; done)
    split at h
    · simp only [Option.some.injEq, Prod.mk.injEq] at h
      rw [← h.2]; exact hes
    · simp at h
  | bool =>
    cases v <;> simp only [extB] at h <;> try (simp at h; done)
    simp only [Option.some.injEq, Prod.mk.injEq] at h
    rw [← h.2]; exact hes
  | str =>
    cases v <;> simp only [extB] at h <;> try (simp at h; done)
    simp only [Option.some.injEq, Prod.mk.injEq] at h
    rw [← h.2]; exact hes
theorem extBs_own {look : Nat → Option AO} : ∀ {bs : List BK} {vs : List SV} {es es1 : List Ent} {y : denB bs}, extBs look bs vs es = some (y, es1) → bs.all ownB = true → (∀ x ∈ es, x.own = true) → ∀ x ∈ es1, x.own = true
  | [], vs, es, es1, y, h, ho, hes => by
    cases vs <;> simp only [extBs] at h <;> try (simp at h; done)
    simp only [Option.some.injEq, Prod.mk.injEq] at h
    rw [← h.2]; exact hes
  | b :: bs, vs, es, es1, y, h, ho, hes => by
    cases vs with
    | nil => simp [extBs] at h
    | cons v vs =>
      simp only [extBs] at h
      simp only [List.all_cons, Bool.and_eq_true] at ho
      split at h
      · rename_i x es2 hx
        split at h
        · rename_i xs es3 hxs
          simp only [Option.some.injEq, Prod.mk.injEq] at h
          rw [← h.2]
          exact extBs_own hxs ho.2 (extB_own hx ho.1 hes)
        · simp at h
      · simp at h
theorem extK_own {look : Nat → Option AO} {k : KD} {v : SV} {es es1 : List Ent} {y : k.den} (h : extK look k v es = some (y, es1)) (ho : ownK k = true) (hes : ∀ x ∈ es, x.own = true) : ∀ x ∈ es1, x.own = true := by
  induction k generalizing v es es1 with
  | one b => exact extB_own (by simpa only [extK] using h) ho hes
  | agg bs =>
    cases v <;> simp only [extK] at h <;> try (simp at h; done)
    exact extBs_own h ho hes
  | box own bs =>
    cases v <;> try (simp [extK] at h; done)
    rename_i hh i
    simp only [ownK, Bool.and_eq_true] at ho
    cases i with
    | succ i => simp only [extK] at h; simp at h
    | zero =>
      simp only [extK] at h
      split at h
      · split at h
        · simp at h
        · refine extBs_own h ho.2 fun x hx => ?_
          rcases List.mem_append.1 hx with hx | hx
          · exact hes x hx
          · simp at hx; subst hx; exact ho.1
      · simp at h
  | vec own bs =>
    cases v <;> try (simp [extK] at h; done)
    rename_i hh i
    simp only [ownK, Bool.and_eq_true] at ho
    cases i with
    | drop i => simp only [extK] at h; simp at h
    | take i => simp only [extK] at h; simp at h
    | sub i j => simp only [extK] at h; simp at h
    | all =>
      simp only [extK] at h
      split at h
      · split at h
        · simp at h
        · refine extBs_own h ho.2 fun x hx => ?_
          rcases List.mem_append.1 hx with hx | hx
          · exact hes x hx
          · simp at hx; subst hx; exact ho.1
      · simp at h
  | arr n own =>
    cases v <;> try (simp [extK] at h; done)
    rename_i hh i j
    simp only [ownK] at ho
    cases i with
    | succ i => simp only [extK] at h; simp at h
    | zero =>
      cases j with
      | succ j => simp only [extK] at h; simp at h
      | zero =>
        simp only [extK] at h
        split at h
        · split at h
          · simp only [Option.some.injEq, Prod.mk.injEq] at h
            rw [← h.2]
            intro x hx
            rcases List.mem_append.1 hx with hx | hx
            · exact hes x hx
            · simp at hx; subst hx; exact ho
          · simp at h
        · simp at h
  | ints n =>
    cases v <;> simp only [extK] at h <;> try (simp at h; done)
    split at h
    · simp only [Option.some.injEq, Prod.mk.injEq] at h
      rw [← h.2]; exact hes
    · simp at h
  | fn f bs =>
    cases v <;> simp only [extK] at h <;> try (simp at h; done)
    split at h
    · exact extBs_own h ho hes
    · simp at h
  | fna f bs =>
    cases v <;> try (simp only [extK] at h; simp at h; done)
    rename_i g caps
    cases caps with
    | nil => simp [extK] at h
    | cons c caps =>
      cases caps with
      | cons c2 caps => cases c <;> (simp only [extK] at h; simp at h)
      | nil =>
        cases c <;> try (simp only [extK] at h; simp at h; done)
        simp only [extK] at h
        split at h
        · exact extBs_own h ho hes
        · simp at h
  | pref i off =>
    cases v <;> simp only [extK] at h <;> try (simp at h; done)
    split at h
    · split at h
      · simp only [Option.some.injEq, Prod.mk.injEq] at h
        rw [← h.2]; exact hes
      · simp at h
    · simp at h
  | aref i =>
    cases v <;> try (simp [extK] at h; done)
    rename_i hh a b
    cases a with
    | succ a => simp only [extK] at h; simp at h
    | zero =>
      cases b with
      | succ b => simp only [extK] at h; simp at h
      | zero =>
        simp only [extK] at h
        split at h
        · split at h
          · simp only [Option.some.injEq, Prod.mk.injEq] at h
            rw [← h.2]; exact hes
          · simp at h
        · simp at h
  | cap k r ihk ihr =>
    cases v <;> try (simp only [extK] at h; simp at h; done)
    rename_i g caps
    cases caps with
    | nil => simp [extK] at h
    | cons c cs =>
      simp only [extK] at h
      simp only [ownK, Bool.and_eq_true] at ho
      split at h
      · rename_i x es2 hx
        split at h
        · rename_i xs es3 hxs
          simp only [Option.some.injEq, Prod.mk.injEq] at h
          rw [← h.2]
          exact ihr hxs ho.2 (ihk hx ho.1 hes)
        · simp at h
      · simp at h
theorem extL_own {look : Nat → Option AO} : ∀ {ks : List KD} {vs : List SV} {es es1 : List Ent} {y : denL ks}, extL look ks vs es = some (y, es1) → ks.all ownK = true → (∀ x ∈ es, x.own = true) → ∀ x ∈ es1, x.own = true
  | [], vs, es, es1, y, h, ho, hes => by
    cases vs <;> simp only [extL] at h <;> try (simp at h; done)
    simp only [Option.some.injEq, Prod.mk.injEq] at h
    rw [← h.2]; exact hes
  | b :: bs, vs, es, es1, y, h, ho, hes => by
    cases vs with
    | nil => simp [extL] at h
    | cons v vs =>
      simp only [extL] at h
      simp only [List.all_cons, Bool.and_eq_true] at ho
      split at h
      · rename_i x es2 hx
        split at h
        · rename_i xs es3 hxs
          simp only [Option.some.injEq, Prod.mk.injEq] at h
          rw [← h.2]
          exact extL_own hxs ho.2 (extK_own hx ho.1 hes)
        · simp at h
      · simp at h

/-! ### 1. The callee -/
def killL : List Ent → List (Nat × Option AO)
  | [] => []
  | ⟨some (h, _), true⟩ :: r => (h, none) :: killL r
  | _ :: r => killL r
def newL : Nat → List AO → List (Nat × Option AO)
  | _, [] => []
  | b, o :: os => (b, some o) :: newL (b + 1) os
def newOk (seen : Nat → Bool) : Nat → Nat → Bool
  | _, 0 => true
  | b, n + 1 => !seen b && newOk seen (b + 1) n

def mkFn {R : Type} (shp : Shape) (outs : List KD) (F : shp.den → Option R) (out : R → denL outs) : PFn where
  run := fun args look seen d K =>
    match extL look shp.ks args [] with
    | some (x, es) => match entsOk es && newOk seen (nm d 0) (cntL outs) with
      | true => (F x).bind fun r => K ⟨valOf (bldL (nm d 0) outs (out r) []).1, killL es ++ newL (nm d 0) (bldL (nm d 0) outs (out r) []).2, entHs es⟩
      | false => none
    | none => none

def finOf {R : Type} (ty : Ty) (results : List ResultVar) (outs : List KD) (into : denL outs → R) (st : St) : Option R :=
  match resSV ty results st with
  | some vs => match extL st.objs outs vs [] with
    | some (y, es) => match entsOk es with
      | true => some (into y)
      | false => none
    | none => none
  | none => none

theorem killL_mem : ∀ {es : List Ent} {h : Nat}, h ∈ (killL es).map (·.1) ↔ ∃ w, (⟨some (h, w), true⟩ : Ent) ∈ es
  | [], h => by simp [killL]
  | ⟨some (k, w), true⟩ :: r, h => by
    simp only [killL, List.map_cons, List.mem_cons, killL_mem (es := r)]
    constructor
    · rintro (rfl | ⟨w', hw⟩)
      · exact ⟨w, .inl rfl⟩
      · exact ⟨w', .inr hw⟩
    · rintro ⟨w', hw | hw⟩
      · simp only [Ent.mk.injEq, Option.some.injEq, Prod.mk.injEq, and_true] at hw
        exact .inl hw.1
      · exact .inr ⟨w', hw⟩
  | ⟨some (k, w), false⟩ :: r, h => by
    simp only [killL, killL_mem (es := r), List.mem_cons]
    constructor
    · rintro ⟨w', hw⟩; exact ⟨w', .inr hw⟩
    · rintro ⟨w', hw | hw⟩
      · simp at hw
      · exact ⟨w', hw⟩
  | ⟨none, o⟩ :: r, h => by
    have : killL (⟨none, o⟩ :: r) = killL r := by cases o <;> rfl
    rw [this]
    simp only [killL_mem (es := r), List.mem_cons]
    constructor
    · rintro ⟨w', hw⟩; exact ⟨w', .inr hw⟩
    · rintro ⟨w', hw | hw⟩
      · simp at hw
      · exact ⟨w', hw⟩
theorem killL_none : ∀ (es : List Ent) (f : Nat → Option AO) (h : Nat), h ∈ (killL es).map (·.1) → wrObjs (killL es) f h = none := by
  have key : ∀ (l : List (Nat × Option AO)), (∀ p ∈ l, p.2 = none) → ∀ (f : Nat → Option AO) (h : Nat), h ∈ l.map (·.1) → wrObjs l f h = none := by
    intro l
    induction l with
    | nil => intro _ f h hh; simp at hh
    | cons p l ih =>
      intro hl f h hh
      obtain ⟨k, a⟩ := p
      have ha : a = none := hl (k, a) (by simp)
      subst ha
      simp only [wrObjs]
      by_cases hm : h ∈ l.map (·.1)
      · exact ih (fun p hp => hl p (by simp [hp])) _ h hm
      · rw [wrObjs_ne l _ h hm]
        simp only [List.map_cons, List.mem_cons] at hh
        rcases hh with rfl | hh
        · exact upd_same _ _ _
        · exact absurd hh hm
  intro es
  refine key _ ?_
  induction es with
  | nil => simp [killL]
  | cons x es ih =>
    intro p hp
    obtain ⟨src, o⟩ := x
    cases src with
    | none =>
      have : killL (⟨none, o⟩ :: es) = killL es := by cases o <;> rfl
      rw [this] at hp
      exact ih p hp
    | some q =>
      obtain ⟨k, w⟩ := q
      cases o with
      | false => exact ih p hp
      | true =>
        simp only [killL, List.mem_cons] at hp
        rcases hp with rfl | hp
        · rfl
        · exact ih p hp
theorem wrObjs_append : ∀ (l m : List (Nat × Option AO)) (f : Nat → Option AO), wrObjs (l ++ m) f = wrObjs m (wrObjs l f)
  | [], m, f => rfl
  | (h, a) :: l, m, f => by simp only [List.cons_append, wrObjs]; rw [wrObjs_append l m]
theorem newL_keys : ∀ {os : List AO} {b h : Nat}, h ∈ (newL b os).map (·.1) ↔ b ≤ h ∧ h < b + os.length
  | [], b, h => by
    simp only [newL, List.map_nil, List.not_mem_nil, List.length_nil, Nat.add_zero, false_iff]
    omega
  | o :: os, b, h => by
    simp only [newL, List.map_cons, List.mem_cons, newL_keys (os := os), List.length_cons]
    omega
theorem newL_at : ∀ {os : List AO} {b k : Nat} {a : AO} (f : Nat → Option AO), os[k]? = some a → wrObjs (newL b os) f (b + k) = some a
  | [], b, k, a, f, h => by simp at h
  | o :: os, b, k, a, f, h => by
    simp only [newL, wrObjs]
    cases k with
    | zero =>
      simp at h
      subst h
      rw [wrObjs_ne]
      · exact upd_same _ _ _
      · rw [newL_keys]; omega
    | succ k =>
      have := newL_at (os := os) (b := b + 1) (k := k) (upd f b (some o)) (by simpa using h)
      rw [show b + 1 + k = b + (k + 1) by omega] at this
      exact this
theorem wrSeen_mem : ∀ (l : List (Nat × Option AO)) (f : Nat → Bool) (h : Nat), h ∈ l.map (·.1) → wrSeen l f h = true
  | (k, a) :: l, f, h, hh => by
    simp only [wrSeen]
    by_cases hm : h ∈ l.map (·.1)
    · exact wrSeen_mem l _ h hm
    · rw [wrSeen_ne l _ h hm]
      simp only [List.map_cons, List.mem_cons] at hh
      rcases hh with rfl | hh
      · exact upd_same _ _ _
      · exact absurd hh hm
theorem wrSeen_keep : ∀ (l : List (Nat × Option AO)) (f : Nat → Bool) (h : Nat), f h = true → wrSeen l f h = true := by
  intro l f h hf
  by_cases hm : h ∈ l.map (·.1)
  · exact wrSeen_mem l f h hm
  · rw [wrSeen_ne l f h hm]; exact hf
theorem newOk_spec {seen : Nat → Bool} : ∀ {n b : Nat}, newOk seen b n = true → ∀ k, k < n → seen (b + k) = false
  | 0, b, h, k, hk => by omega
  | n + 1, b, h, k, hk => by
    simp only [newOk, Bool.and_eq_true, Bool.not_eq_true'] at h
    cases k with
    | zero => exact h.1
    | succ k =>
      have := newOk_spec h.2 k (by omega)
      rw [show b + 1 + k = b + (k + 1) by omega] at this
      exact this
theorem newOk_loc {seen seen' : Nat → Bool} : ∀ {n b : Nat}, (∀ k, k < n → seen' (b + k) = seen (b + k)) → newOk seen' b n = newOk seen b n
  | 0, b, h => rfl
  | n + 1, b, h => by
    have a1 := newOk_loc (seen := seen) (seen' := seen') (n := n) (b := b + 1) fun k hk => by
      have := h (k + 1) (by omega)
      rw [show b + (k + 1) = b + 1 + k by omega] at this
      exact this
    have a2 := h 0 (by omega)
    simp only [Nat.add_zero] at a2
    simp only [newOk, a1, a2]

theorem entHs_mem {es : List Ent} {x : Ent} {h : Nat} {w : Win} (hx : x ∈ es) (hs : x.src = some (h, w)) : h ∈ entHs es :=
  List.mem_filterMap.2 ⟨x, hx, by rw [hs]; rfl⟩

section
variable {P : Program} {R : Type} {shp : Shape} {outs : List KD} {F : shp.den → Option R} {out : R → denL outs}

theorem mkFn_nat : (mkFn shp outs F out).Natural := by
  intro β args look seen d K
  simp only [mkFn]
  split
  · split
    · rw [Option.bind_assoc]
      rfl
    · rfl
  · rfl

theorem mkFn_run {args : List SV} {look : Nat → Option AO} {seen : Nat → Bool} {d : Nat} {e : Eff} (h : (mkFn shp outs F out).run args look seen d some = some e) :
    ∃ x es r, extL look shp.ks args [] = some (x, es) ∧ entsOk es = true ∧ newOk seen (nm d 0) (cntL outs) = true ∧ F x = some r ∧
      e = ⟨valOf (bldL (nm d 0) outs (out r) []).1, killL es ++ newL (nm d 0) (bldL (nm d 0) outs (out r) []).2, entHs es⟩ := by
  simp only [mkFn] at h
  split at h
  · rename_i x es hx
    split at h
    · rename_i hc
      simp only [Bool.and_eq_true] at hc
      cases hF : F x with
      | none => simp [hF] at h
      | some r =>
        simp only [hF, Option.bind_some, Option.some.injEq] at h
        exact ⟨x, es, r, hx, hc.1, hc.2, hF, h.symm⟩
    · simp at h
  · simp at h

theorem mkFn_loc : (mkFn shp outs F out).Local := by
  refine ⟨fun args look look' seen seen' d ef h S => ?_⟩
  obtain ⟨x, es, r, h1, h2, h3, h4, rfl⟩ := mkFn_run h
  have e1 : extL look' shp.ks args [] = some (x, es) := (extL_loc h1).2 fun y hy hh w hs => S.look hh (List.mem_append_left _ (entHs_mem hy hs))
  have e2 : newOk seen' (nm d 0) (cntL outs) = newOk seen (nm d 0) (cntL outs) := newOk_loc fun k hk => S.seen _ (by
    simp only [List.map_append, List.mem_append]
    right
    rw [newL_keys, bldL_len]
    simp only [List.length_nil, Nat.zero_add]
    omega)
  simp only [mkFn, e1, h2, e2, h3, Bool.and_self, h4, Option.bind_some]

/-- What the caller has after the call. -/
theorem returned_ok {w0 : World} {W0 : Nat → Option (Option EK) → Prop} {objs : Nat → Option AO} {φ : Nat → Option (Nat × Nat)} {seen : Nat → Bool} {w : World} (H : Heap w0 W0 (G objs φ seen w) w)
    {ks : List KD} {args : List SV} {vals : List Value} {x : denL ks} {es : List Ent} (hx : extL objs ks args [] = some (x, es)) (hv : SV.repL (G objs φ seen w) args vals)
    {d : Nat} (hnew : newOk seen (nm d 0) (cntL outs) = true) (hown : outs.all ownK = true)
    {Γ' : Ctx} {w' : World} (H' : Heap w (takenOver (G objs φ seen w) es) Γ' w') {vs : List SV} {us : List Value} {y : denL outs} {es' : List Ent} (hy : extL Γ'.objs outs vs [] = some (y, es')) (hok : entsOk es' = true)
    (hus : SV.repL Γ' vs us) {t : List Nat} :
    ∃ φ'', let e : Eff := ⟨valOf (bldL (nm d 0) outs y []).1, killL es ++ newL (nm d 0) (bldL (nm d 0) outs y []).2, t⟩
      e.val.rep (Af objs seen e φ'' w') (valC us) ∧ Heap w0 W0 (Af objs seen e φ'' w') w' ∧ (G objs φ seen w).le (Af objs seen e φ'' w') := by
  generalize hos : (bldL (nm d 0) outs y []).2 = os
  have hol : os.length = cntL outs := by rw [← hos, bldL_len]; simp
  have hlen : os.length = es'.length := by rw [← hos]; exact (extL_pair (base := nm d 0) (os := []) H'.obj hy hus rfl).lens rfl
  generalize hb : nm d 0 = base at *
  have hfresh : ∀ k, k < os.length → seen (base + k) = false := fun k hk => newOk_spec hnew k (by omega)
  let φ'' : Nat → Option (Nat × Nat) := fun h => if base ≤ h ∧ h < base + os.length then (match es'[h - base]? with | some e => entPlace Γ' e | none => none) else φ h
  refine ⟨φ'', ?_⟩
  intro e
  -- what the context holds
  have o_new : ∀ k a, os[k]? = some a → (Af objs seen e φ'' w').objs (base + k) = some a := by
    intro k a hk
    show wrObjs (killL es ++ newL base os) objs (base + k) = some a
    rw [wrObjs_append]
    exact newL_at _ hk
  have o_kill : ∀ h, ¬ (base ≤ h ∧ h < base + os.length) → (∃ w, (⟨some (h, w), true⟩ : Ent) ∈ es) → (Af objs seen e φ'' w').objs h = none := by
    intro h hn hk
    show wrObjs (killL es ++ newL base os) objs h = none
    rw [wrObjs_append, wrObjs_ne _ _ h (by rw [newL_keys]; exact hn)]
    exact killL_none es objs h (killL_mem.2 hk)
  have o_old : ∀ h, ¬ (base ≤ h ∧ h < base + os.length) → ¬ (∃ w, (⟨some (h, w), true⟩ : Ent) ∈ es) → (Af objs seen e φ'' w').objs h = objs h := by
    intro h hn hk
    show wrObjs (killL es ++ newL base os) objs h = objs h
    rw [wrObjs_append, wrObjs_ne _ _ h (by rw [newL_keys]; exact hn), wrObjs_ne _ _ h (by rw [killL_mem]; exact hk)]
  have p_old : ∀ h, ¬ (base ≤ h ∧ h < base + os.length) → (Af objs seen e φ'' w').φ h = φ h := by
    intro h hn
    show (if base ≤ h ∧ h < base + os.length then _ else _) = _
    rw [if_neg hn]
  have s_old : ∀ h, seen h = true → ¬ (base ≤ h ∧ h < base + os.length) := by
    intro h hs hn
    have := hfresh (h - base) (by omega)
    rw [show base + (h - base) = h by omega, hs] at this
    cases this
  obtain ⟨T, hr⟩ := extL_tgt (base := base) H'.obj hy hus (Γ' := Af objs seen e φ'' w') (fun k a hk => o_new k a (by rw [← hos]; exact hk))
    (fun k x hk => by
      have hlt := (List.getElem?_eq_some_iff.1 hk).1
      show (if base ≤ base + k ∧ base + k < base + os.length then (match es'[base + k - base]? with | some e => entPlace Γ' e | none => none) else φ (base + k)) = _
      rw [if_pos (by omega), show base + k - base = k by omega, hk])
    (fun k hk => by
      rw [hos] at hk
      show wrSeen (killL es ++ newL base os) seen (base + k) = true
      refine wrSeen_mem _ _ _ ?_
      simp only [List.map_append, List.mem_append]
      right
      rw [newL_keys]
      omega)
    (fun b => (H'.bs b).symm) (fun b i => (H'.mem b i).symm)
  rw [hos] at T
  have howns := extL_own hy hown (by simp)
  -- the entries that are taken over
  have tk : ∀ z ∈ es, z.own = true → ∀ b, entAt (G objs φ seen w) z b → ∃ h v a0, z.src = some (h, v) ∧ objs h = some a0 ∧ (G objs φ seen w).at h b ∧ a0.ro = false := by
    intro z hz ho b hp
    have p := extL_pair (base := 0) (os := []) H.obj hx hv rfl
    have hl := p.lens rfl
    obtain ⟨k, hk⟩ := List.getElem?_of_mem hz
    have hlt := (List.getElem?_eq_some_iff.1 hk).1
    have om := (p.om []).2 k z _ (Nat.zero_le _) hk (List.getElem?_eq_getElem (by omega))
    obtain ⟨h1, w1, a1, q1, q2, q3, q4⟩ := entAt_src om hp
    exact ⟨h1, w1, a1, q1, q2, q3, q4 ho⟩
  -- old objects that stay keep their blocks
  have stay : ∀ h a, objs h = some a → ¬ (∃ w, (⟨some (h, w), true⟩ : Ent) ∈ es) → ∀ b, (G objs φ seen w).at h b → ¬ takenOver (G objs φ seen w) es b none := by
    rintro h a ha hk b hp ⟨z, hz, ho, hpz⟩
    obtain ⟨h1, w1, a1, q1, q2, q3, q4⟩ := tk z hz ho b hpz
    by_cases hh : h = h1
    · subst hh
      refine hk ⟨w1, ?_⟩
      have : z = ⟨some (h, w1), true⟩ := by
        cases z
        simp only at q1 ho
        rw [q1, ho]
      rw [← this]
      exact hz
    · have := H.sep2 h h1 a a1 b ha q2 hp q3 hh
      rw [q4] at this
      cases this.2
  have blk : ∀ h a, objs h = some a → ¬ (∃ w, (⟨some (h, w), true⟩ : Ent) ∈ es) → ∀ b, (G objs φ seen w).at h b → w'.heap[b]? = w.heap[b]? := fun h a ha hk b hp => H'.keep b (H.lt2 h a b ha hp) (stay h a ha hk b hp)
  have hle : (G objs φ seen w).le (Af objs seen e φ'' w') := by
    refine le_of (fun h hs => wrSeen_keep _ _ _ hs) (fun h hs => ?_)
    have hn := s_old h hs
    by_cases hk : ∃ w, (⟨some (h, w), true⟩ : Ent) ∈ es
    · exact .inl (o_kill h hn hk)
    · rw [o_old h hn hk]
      cases ho : objs h with
      | none => exact .inl rfl
      | some a =>
        refine .inr ⟨a, a, ho, rfl, AO.like.refl a, p_old h hn, fun b o hp => ?_⟩
        show bsOf w' b = bsOf w b
        unfold bsOf
        rw [blk h a ho hk b (.inl ⟨o, hp⟩)]
  have classify : ∀ h a, (Af objs seen e φ'' w').objs h = some a → (∃ k, h = base + k ∧ os[k]? = some a) ∨ (¬ (base ≤ h ∧ h < base + os.length) ∧ ¬ (∃ w, (⟨some (h, w), true⟩ : Ent) ∈ es) ∧ objs h = some a) := by
    intro h a ha
    by_cases hn : base ≤ h ∧ h < base + os.length
    · left
      refine ⟨h - base, by omega, ?_⟩
      have hlt : h - base < os.length := by omega
      have h1 := o_new (h - base) _ (List.getElem?_eq_getElem hlt)
      rw [show base + (h - base) = h by omega, ha] at h1
      rw [List.getElem?_eq_getElem hlt]
      exact h1.symm
    · right
      by_cases hk : ∃ w, (⟨some (h, w), true⟩ : Ent) ∈ es
      · rw [o_kill h hn hk] at ha
        cases ha
      · rw [o_old h hn hk] at ha
        exact ⟨hn, hk, ha⟩
  -- blocks of old objects that stay
  have oldmem : ∀ h a, ¬ (base ≤ h ∧ h < base + os.length) → ¬ (∃ w, (⟨some (h, w), true⟩ : Ent) ∈ es) → objs h = some a → ∀ b0 o0 i, (G objs φ seen w).φ h = some (b0, o0) → (Af objs seen e φ'' w').mem b0 i = (G objs φ seen w).mem b0 i := by
    intro h a hn hk ho b0 o0 i hp
    exact memOf_of_block (blk h a ho hk b0 (.inl ⟨o0, hp⟩)) i
  have oldat : ∀ h a b, ¬ (base ≤ h ∧ h < base + os.length) → ¬ (∃ w, (⟨some (h, w), true⟩ : Ent) ∈ es) → objs h = some a → (Af objs seen e φ'' w').at h b → (G objs φ seen w).at h b := by
    intro h a b hn hk ho hb
    exact Ctx.at_same (Γ := G objs φ seen w) (o_old h hn hk) (p_old h hn) (oldmem h a hn hk ho) hb
  -- new objects
  have fresh : ∀ k a b, os[k]? = some a → (Af objs seen e φ'' w').at (base + k) b → ∃ z h1 w1 a1, es'[k]? = some z ∧ z.src = some (h1, w1) ∧ Γ'.objs h1 = some a1 ∧ Γ'.at h1 b ∧ a1.ro = false ∧ a.ro = false := by
    intro k a b hk hp
    have hlt : k < es'.length := by
      have := (List.getElem?_eq_some_iff.1 hk).1
      omega
    have hz := List.getElem?_eq_getElem hlt
    have om := T.om k _ a hz hk
    obtain ⟨h1, w1, a1, q1, q2, q3, q4⟩ := entAt_src om (T.at hz hp)
    have ho := howns es'[k] (List.mem_of_getElem? hz)
    exact ⟨_, h1, w1, a1, hz, q1, q2, q3, q4 ho, by rw [(OM_src om).1, ho]; rfl⟩
  refine ⟨valOf_rep hr, ⟨H'.os.trans H.os, ⟨H'.tape.1.trans H.tape.1, H.tape.2.trans H'.tape.2⟩, H'.output.trans H.output, Nat.le_trans H.size H'.size, ?_, ?_, fun _ => rfl, fun _ _ => rfl, ?_, ?_, ?_, ?_, ?_, ?_, ?_⟩, hle⟩
  · intro b hbl hW
    have hnt : ¬ takenOver (G objs φ seen w) es b none := by
      rintro ⟨z, hz, ho, hpz⟩
      obtain ⟨h1, w1, a1, q1, q2, q3, q4⟩ := tk z hz ho b hpz
      rcases H.own2 h1 a1 b q2 q4 q3 with h | h
      · omega
      · exact hW h
    rw [H'.keep b (Nat.lt_of_lt_of_le hbl H.size) hnt, H.keep b hbl hW]
  · intro b cur T fz hbl hw
    obtain ⟨c1, k1, k2⟩ := H.kind b cur T fz hbl hw
    obtain ⟨c2, k3, k4⟩ := H'.kind b c1 T fz (Nat.lt_of_lt_of_le hbl H.size) k1
    exact ⟨c2, k3, k4.trans k2⟩
  · intro h a ha
    rcases classify h a ha with ⟨k, rfl, hk⟩ | ⟨hn, hkl, ho⟩
    · have hlt : k < es'.length := by
        have := (List.getElem?_eq_some_iff.1 hk).1
        omega
      exact OM_rep T H'.obj (List.getElem?_eq_getElem hlt) hk
    · exact oRep_le hle (p_old h hn) H.mem ho (fun b hp => blk h a ho hkl b hp) (H.obj h a ho)
  · intro h a ha
    rcases classify h a ha with ⟨k, rfl, hk⟩ | ⟨hn, hkl, ho⟩
    · exact T.seen k (List.getElem?_eq_some_iff.1 hk).1
    · exact hle.seen h (H.sn h a ho)
  · intro h a b ha hp
    rcases classify h a ha with ⟨k, rfl, hk⟩ | ⟨hn, hkl, ho⟩
    · obtain ⟨z, h1, w1, a1, _, _, q2, q3, _, _⟩ := fresh k a b hk hp
      exact H'.lt2 h1 a1 b q2 q3
    · exact Nat.lt_of_lt_of_le (H.lt2 h a b ho (oldat h a b hn hkl ho hp)) H'.size
  · have mixed : ∀ k a b, os[k]? = some a → (Af objs seen e φ'' w').at (base + k) b → ∀ h a', ¬ (base ≤ h ∧ h < base + os.length) → ¬ (∃ w, (⟨some (h, w), true⟩ : Ent) ∈ es) → objs h = some a' → (G objs φ seen w).at h b → False := by
      intro k a b hk hp h a' hn hkl ho hp'
      obtain ⟨z, h1, w1, a1, _, _, q2, q3, q4, _⟩ := fresh k a b hk hp
      have hlt := H.lt2 h a' b ho hp'
      rcases H'.own2 h1 a1 b q2 q4 q3 with hge | htk
      · omega
      · exact stay h a' ho hkl b hp' htk
    intro h h' a a' b ha ha' hp hp' hne
    rcases classify h a ha with ⟨k, rfl, hk⟩ | ⟨hn, hkl, ho⟩
    · rcases classify h' a' ha' with ⟨k', rfl, hk'⟩ | ⟨hn', hkl', ho'⟩
      · obtain ⟨z, h1, w1, a1, z1, z2, q2, q3, q4, q5⟩ := fresh k a b hk hp
        obtain ⟨z', h1', w1', a1', z1', z2', q2', q3', q4', q5'⟩ := fresh k' a' b hk' hp'
        have hkk : k ≠ k' := fun e => hne (by rw [e])
        exfalso
        by_cases hh : h1 = h1'
        · subst hh
          have hap : z.apart z' = true ∨ z'.apart z = true := by
            rcases Nat.lt_or_ge k k' with h | h
            · exact .inl (entsOk_spec hok k k' z z' h z1 z1')
            · exact .inr (entsOk_spec hok k' k z' z (by omega) z1' z1)
          have e1 := howns z (List.mem_of_getElem? z1)
          have e2 := howns z' (List.mem_of_getElem? z1')
          unfold Ent.apart at hap
          rw [z2, z2', e1, e2] at hap
          simp at hap
        · have := H'.sep2 h1 h1' a1 a1' b q2 q2' q3 q3' hh
          rw [q4] at this
          cases this.1
      · exact (mixed k a b hk hp h' a' hn' hkl' ho' (oldat h' a' b hn' hkl' ho' hp')).elim
    · have hp2 := oldat h a b hn hkl ho hp
      rcases classify h' a' ha' with ⟨k', rfl, hk'⟩ | ⟨hn', hkl', ho'⟩
      · exact (mixed k' a' b hk' hp' h a hn hkl ho hp2).elim
      · exact H.sep2 h h' a a' b ho ho' hp2 (oldat h' a' b hn' hkl' ho' hp') hne
  · intro h a b ha hro hp
    rcases classify h a ha with ⟨k, rfl, hk⟩ | ⟨hn, hkl, ho⟩
    · obtain ⟨z, h1, w1, a1, _, _, q2, q3, q4, _⟩ := fresh k a b hk hp
      rcases H'.own2 h1 a1 b q2 q4 q3 with hge | ⟨z', hz, hoz, hpz⟩
      · exact .inl (Nat.le_trans H.size hge)
      · obtain ⟨h2, w2, a2, r1, r2, r3, r4⟩ := tk z' hz hoz b hpz
        exact H.own2 h2 a2 b r2 r4 r3
    · exact H.own2 h a b ho hro (oldat h a b hn hkl ho hp)
  · intro h a b o ha hp
    rcases classify h a ha with ⟨k, rfl, hk⟩ | ⟨hn, hkl, ho⟩
    · have hlt : k < es'.length := by
        have := (List.getElem?_eq_some_iff.1 hk).1
        omega
      have hz := List.getElem?_eq_getElem hlt
      rw [T.φ k _ hz] at hp
      obtain ⟨h1, w1, a1, o1, q1, q2, q3, q4⟩ := OM_tag (T.om k _ a hz hk) hp
      rcases H'.rng h1 a1 b o1 q2 q3 with hge | ⟨z', h2, w2, a2, o2, _, _, r2, r3, r4⟩ | ⟨ht, z', h2, w2, _, _, r2⟩
      · exact .inl (Nat.le_trans H.size hge)
      · rw [← q4, ← r4]
        exact H.rng h2 a2 b o2 r2 r3
      · rw [← q4, ht]
        exact H.rngi h2 b r2
    · rw [p_old h hn] at hp
      exact H.rng h a b o ho hp
  · intro h b hb
    obtain ⟨ro, ll, ha⟩ := Ctx.inB_tab hb
    rcases classify h _ ha with ⟨k, rfl, hk⟩ | ⟨hn, hkl, ho⟩
    · have hlt : k < es'.length := by
        have := (List.getElem?_eq_some_iff.1 hk).1
        omega
      have hz := List.getElem?_eq_getElem hlt
      obtain ⟨h1, w1, _, q2⟩ := T.inB hz hb
      rcases H'.rngi h1 b q2 with hge | ⟨z', h2, w2, a2, o2, _, _, r2, r3, r4⟩ | ⟨_, z', h2, w2, _, _, r2⟩
      · exact .inl (Nat.le_trans H.size hge)
      · rw [← r4]
        exact H.rng h2 a2 b o2 r2 r3
      · exact H.rngi h2 b r2
    · exact H.rngi h b (Ctx.inB_same (Γ := G objs φ seen w) (o_old h hn hkl) (p_old h hn) (oldmem h _ hn hkl ho) hb)

/-- A function of the program that is told by a Lean function. -/
theorem mkFn_ok {g : Nat} {fn : Func} {code : Code} (hf : P.funcs[g]? = some fn) (hb : fn.body = some code) (hname : (fn.name == "runtime.NumGoroutine") = false)
    {C : Cfg} {Φ : Nat → PFn} {Λ : Nat → (St → Option R) → St → Option R} {into : denL outs → R}
    (hT : TyOk P C.ty) (hΦ : ∀ g, (Φ g).Ok P g) (hN : C.N = fn.ntmps) (hshp : shp.map (·.1) = List.range shp.length) (hsl : shp.length ≤ fn.ntmps) (hown : outs.all ownK = true)
    (hoi : ∀ y, out (into y) = y)
    (hL : LoopsOk C Φ Λ (finOf C.ty fn.results.toList outs into) (loopsOf C.blk code))
    (hF : ∀ x r, F x = some r → exK C Φ Λ (finOf C.ty fn.results.toList outs into) code (fun _ _ => none) (mkSt shp x) (finOf C.ty fn.results.toList outs into) = some r) :
    (mkFn shp outs F out).Ok P g where
  nat := mkFn_nat
  loc := mkFn_loc
  calls := by
    intro w0 W0 objs φ seen w args vals d e h H hv hG
    obtain ⟨x, es, r, h1, h2, h3, h4, rfl⟩ := mkFn_run h
    obtain ⟨φ1, g1⟩ := entered H h1 h2 hv hshp (N := C.N) (by rw [hN]; exact hsl) (pv := fun _ => none) (fun i V hi => by cases hi)
    refine ⟨fn, code, hf, hb, hname, calls_of_wp hf hb ?_⟩
    have fin : ∀ st' φ' a' w', finOf C.ty fn.results.toList outs into st' = some r → Good w (takenOver (G objs φ seen w) es) C.N (fun _ => none) st' φ' a' w' → a'.defers = [] ∧ ∃ v, (results fn a'.tmps).run P w' = .ok v w' ∧
        ∃ φ'', let e : Eff := ⟨valOf (bldL (nm d 0) outs (out r) []).1, killL es ++ newL (nm d 0) (bldL (nm d 0) outs (out r) []).2, entHs es⟩
          e.val.rep (Af objs seen e φ'' w') v ∧ Heap w0 W0 (Af objs seen e φ'' w') w' ∧ (G objs φ seen w).le (Af objs seen e φ'' w') := by
      intro st' φ' a' w' hfin good
      unfold finOf at hfin
      split at hfin
      · rename_i vs hvs
        split at hfin
        · rename_i y es' hy
          split at hfin
          · rename_i hok
            simp only [Option.some.injEq] at hfin
            subst hfin
            rw [hoi]
            obtain ⟨us, hrun, hus⟩ := results_run hT good hvs
            refine ⟨good.defers, _, hrun, ?_⟩
            exact returned_ok H h1 hv h3 hown good.heap hy hok hus
          · simp at hfin
        · simp at hfin
      · simp at hfin
    rw [← hN]
    refine exK_sound (pv := fun _ => none) (fun i V hi => by cases hi) hT hΦ (hG.enter H h1 hv) code _ _ _ φ1 _ w _ hL (hF x r h4) g1 ?_ ?_ ?_
    · intro st' φ' a' w' h' good
      exact fin st' φ' a' w' h' good
    · intro id st' φ' a' w' h' good
      cases h'
    · intro st' φ' a' w' h' good
      exact fin st' φ' a' w' h' good
end
end Go.Fx
end

noncomputable section
set_option autoImplicit false
namespace Go.Fx
open Go
def pick : List (Nat × PFn) → Nat → PFn
  | [], _ => noFn
  | (g, F) :: r, h => match Nat.beq h g with
    | true => F
    | false => pick r h
theorem pick_ok {P : Program} : ∀ {l : List (Nat × PFn)}, (∀ p ∈ l, p.2.Ok P p.1) → ∀ g, (pick l g).Ok P g
  | [], _, g => noFn_ok g
  | (k, F) :: r, h, g => by
    simp only [pick]
    split
    · rename_i hb
      have := Nat.eq_of_beq_eq_true hb
      subst this
      exact h (g, F) (by simp)
    · exact pick_ok (fun p hp => h p (by simp [hp])) g
end Go.Fx
end

noncomputable section
set_option linter.unusedVariables false
set_option linter.unusedSimpArgs false
set_option autoImplicit false
namespace Go.Fx
open Go Go.RowKit

/-! ### 1. Arguments as they are read -/
def RB (W : World) : (b : BK) → b.den → Value → Prop
  | .int k, x, u => u = .int k x
  | .bool, x, u => u = .bool x
  | .str, x, u => u = .string x
  | .row e own, l, u => own = false ∧ ∃ A cap, u = .slice A (List.length l) cap ∧ List.length l ≤ cap ∧ cap ≤ maxLen ∧
      (cap = 0 ∨ ∃ b o, A = some ⟨b, o, none⟩ ∧ b < W.heap.size ∧ ∀ i v, (encAll e l)[i]? = some v → W.cell? ⟨b, o + i, none⟩ = some v)
  | _, _, _ => False
def RBs (W : World) : (bs : List BK) → denB bs → List Value → Prop
  | [], _, us => us = []
  | b :: bs, x, us => ∃ u us', us = u :: us' ∧ RB W b x.1 u ∧ RBs W bs x.2 us'
def RK (W : World) : (k : KD) → k.den → Value → Prop
  | .one b, x, u => RB W b x u
  | .agg bs, x, u => ∃ us : List Value, u = .agg us.toArray ∧ RBs W bs x us
  | _, _, _ => False
def RL (W : World) : (ks : List KD) → denL ks → List Value → Prop
  | [], _, us => us = []
  | k :: ks, x, us => ∃ u us', us = u :: us' ∧ RK W k x.1 u ∧ RL W ks x.2 us'

/-- An object of the caller's, read only. -/
def OR (W : World) (a : AO) (p : Option (Nat × Nat)) : Prop :=
  ∃ e l, a = ⟨true, .row e l⟩ ∧ ((p = none ∧ l = []) ∨ ∃ b o, p = some (b, o) ∧ b < W.heap.size ∧ ∀ i v, (encAll e l)[i]? = some v → W.cell? ⟨b, o + i, none⟩ = some v)

def Has (Γ : Ctx) (os : List AO) (pl : List (Option (Nat × Nat))) : Prop :=
  ∀ k a p, os[k]? = some a → pl[k]? = some p → Γ.objs k = some a ∧ Γ.φ k = p ∧ Γ.seen k = true

structure RP (W : World) (os os1 : List AO) (pl pl1 : List (Option (Nat × Nat))) (p : Ctx → Prop) : Prop where
  ex : ∃ dd dp, os1 = os ++ dd ∧ pl1 = pl ++ dp ∧ dd.length = dp.length
  rep : ∀ Γ, Has Γ os1 pl1 → p Γ
  obj : ∀ (k : Nat) (a : AO) (q : Option (Nat × Nat)), os.length ≤ k → os1[k]? = some a → pl1[k]? = some q → OR W a q

theorem RP.none {W : World} {os : List AO} {pl : List (Option (Nat × Nat))} {p : Ctx → Prop} (h : ∀ Γ, p Γ) : RP W os os pl pl p :=
  ⟨⟨[], [], by simp, by simp, rfl⟩, fun Γ _ => h Γ, fun k a q hk ha _ => by
    have := (List.getElem?_eq_some_iff.1 ha).1
    omega⟩
theorem RP.lens {W : World} {os os1 : List AO} {pl pl1 : List (Option (Nat × Nat))} {p : Ctx → Prop} (h : RP W os os1 pl pl1 p) (hl : os.length = pl.length) : os1.length = pl1.length := by
  obtain ⟨dd, dp, h1, h2, h3⟩ := h.ex
  rw [h1, h2, List.length_append, List.length_append, hl, h3]
theorem RP.seq {W : World} {os os1 os2 : List AO} {pl pl1 pl2 : List (Option (Nat × Nat))} {p q : Ctx → Prop} (hl : os.length = pl.length) (h : RP W os os1 pl pl1 p) (k : RP W os1 os2 pl1 pl2 q) :
    RP W os os2 pl pl2 (fun Γ => p Γ ∧ q Γ) := by
  obtain ⟨dd, dp, h1, h2, h3⟩ := h.ex
  obtain ⟨dd', dp', k1, k2, k3⟩ := k.ex
  have hl1 := h.lens hl
  refine ⟨⟨dd ++ dd', dp ++ dp', by rw [k1, h1]; simp, by rw [k2, h2]; simp, by simp [h3, k3]⟩, fun Γ hh => ⟨h.rep Γ fun i a r hi hr => hh i a r ?_ ?_, k.rep Γ hh⟩, ?_⟩
  · rw [k1, List.getElem?_append_left (List.getElem?_eq_some_iff.1 hi).1]; exact hi
  · rw [k2, List.getElem?_append_left (List.getElem?_eq_some_iff.1 hr).1]; exact hr
  · intro i a r hi ha hr
    by_cases c : os1.length ≤ i
    · exact k.obj i a r c ha hr
    · rw [k1, List.getElem?_append_left (by omega)] at ha
      rw [k2, List.getElem?_append_left (by omega)] at hr
      exact h.obj i a r hi ha hr
theorem RP.imp {W : World} {os os1 : List AO} {pl pl1 : List (Option (Nat × Nat))} {p q : Ctx → Prop} (h : RP W os os1 pl pl1 p) (hpq : ∀ Γ, p Γ → q Γ) : RP W os os1 pl pl1 q :=
  ⟨h.ex, fun Γ hh => hpq Γ (h.rep Γ hh), h.obj⟩

theorem RB_rp {W : World} {b : BK} {x : b.den} {u : Value} (h : RB W b x u) (os : List AO) (pl : List (Option (Nat × Nat))) (hl : os.length = pl.length) :
    ∃ pl1, RP W os (bldB 0 b x os).2 pl pl1 (fun Γ => (bldB 0 b x os).1.rep Γ u) := by
  cases b with
  | int k => exact ⟨pl, .none fun Γ => h⟩
  | bool => exact ⟨pl, .none fun Γ => h⟩
  | str => exact ⟨pl, .none fun Γ => h⟩
  | ref i => exact h.elim
  | part i => exact h.elim
  | lit c => exact h.elim
  | map own => exact h.elim
  | tab own => exact h.elim
  | clo f rs => exact h.elim
  | row e own =>
    obtain ⟨rfl, A, cap, hu, h1, h2, h3⟩ := h
    subst hu
    have key : ∀ p, OR W ⟨true, .row e x⟩ p → (∀ Γ : Ctx, Γ.objs os.length = some ⟨true, .row e x⟩ → Γ.φ os.length = p → Γ.seen os.length = true → (SV.sl os.length .all).rep Γ (.slice A (List.length x) cap)) →
        ∃ pl1, RP W os (bldB 0 (.row e false) x os).2 pl pl1 (fun Γ => (bldB 0 (.row e false) x os).1.rep Γ (.slice A (List.length x) cap)) := by
      intro p hor hrep
      refine ⟨pl ++ [p], ⟨⟨[⟨true, .row e x⟩], [p], rfl, rfl, rfl⟩, fun Γ hh => ?_, fun k a q hk ha hq => ?_⟩⟩
      · obtain ⟨q1, q2, q3⟩ := hh os.length ⟨true, .row e x⟩ p (by simp [bldB]) (by rw [hl]; simp)
        have := hrep Γ q1 q2 q3
        simpa [bldB] using this
      · have hlt := (List.getElem?_eq_some_iff.1 hq).1
        simp only [List.length_append, List.length_singleton] at hlt
        have : k = os.length := by omega
        subst this
        simp [bldB] at ha
        rw [hl, List.getElem?_append_right (Nat.le_refl _)] at hq
        simp at hq
        subst ha; subst hq
        exact hor
    rcases h3 with h3 | ⟨b, o, hA, hb, hc⟩
    · have hx : x = [] := List.length_eq_zero_iff.1 (by omega)
      refine key none ⟨e, x, rfl, .inl ⟨rfl, hx⟩⟩ fun Γ q1 q2 q3 => ⟨q3, ⟨_, _, _, rfl⟩, ?_⟩
      unfold Ctx.slOk
      rw [q1]
      exact ⟨trivial, A, cap, rfl, ⟨h1, by simpa [Win.off] using h1⟩, h2, .inl h3⟩
    · refine key (some (b, o)) ⟨e, x, rfl, .inr ⟨b, o, rfl, hb, hc⟩⟩ fun Γ q1 q2 q3 => ⟨q3, ⟨_, _, _, rfl⟩, ?_⟩
      unfold Ctx.slOk
      rw [q1]
      exact ⟨trivial, A, cap, rfl, ⟨h1, by simpa [Win.off] using h1⟩, h2, .inr ⟨b, o, q2, by rw [hA]; simp [Win.off], fun h => by cases h⟩⟩
theorem RBs_rp {W : World} : ∀ {bs : List BK} {x : denB bs} {us : List Value}, RBs W bs x us → ∀ (os : List AO) (pl : List (Option (Nat × Nat))), os.length = pl.length →
    ∃ pl1, RP W os (bldBs 0 bs x os).2 pl pl1 (fun Γ => SV.repL Γ (bldBs 0 bs x os).1 us)
  | [], x, us, h, os, pl, hl => by
    simp only [RBs] at h
    subst h
    exact ⟨pl, .none fun Γ => rfl⟩
  | b :: bs, x, us, h, os, pl, hl => by
    obtain ⟨u, us', rfl, h1, h2⟩ := h
    obtain ⟨pl1, p1⟩ := RB_rp h1 os pl hl
    obtain ⟨pl2, p2⟩ := RBs_rp h2 (bldB 0 b x.1 os).2 pl1 (p1.lens hl)
    exact ⟨pl2, (p1.seq hl p2).imp fun Γ hh => ⟨u, us', rfl, hh.1, hh.2⟩⟩
theorem RK_rp {W : World} {k : KD} {x : k.den} {u : Value} (h : RK W k x u) (os : List AO) (pl : List (Option (Nat × Nat))) (hl : os.length = pl.length) :
    ∃ pl1, RP W os (bldK 0 k x os).2 pl pl1 (fun Γ => (bldK 0 k x os).1.rep Γ u) := by
  cases k with
  | one b => exact RB_rp h os pl hl
  | agg bs =>
    obtain ⟨us, hu, h1⟩ := h
    obtain ⟨pl1, p1⟩ := RBs_rp h1 os pl hl
    exact ⟨pl1, p1.imp fun Γ hh => ⟨us, hu, hh⟩⟩
  | _ => exact h.elim
theorem RL_rp {W : World} : ∀ {ks : List KD} {x : denL ks} {us : List Value}, RL W ks x us → ∀ (os : List AO) (pl : List (Option (Nat × Nat))), os.length = pl.length →
    ∃ pl1, RP W os (bldL 0 ks x os).2 pl pl1 (fun Γ => SV.repL Γ (bldL 0 ks x os).1 us)
  | [], x, us, h, os, pl, hl => by
    simp only [RL] at h
    subst h
    exact ⟨pl, .none fun Γ => rfl⟩
  | b :: bs, x, us, h, os, pl, hl => by
    obtain ⟨u, us', rfl, h1, h2⟩ := h
    obtain ⟨pl1, p1⟩ := RK_rp h1 os pl hl
    obtain ⟨pl2, p2⟩ := RL_rp h2 (bldK 0 b x.1 os).2 pl1 (p1.lens hl)
    exact ⟨pl2, (p1.seq hl p2).imp fun Γ hh => ⟨u, us', rfl, hh.1, hh.2⟩⟩

/-- The arguments stand in the memory. -/
theorem RL_heap {W : World} {shp : Shape} {x : shp.den} {us : List Value} (h : RL W shp.ks x us) :
    ∃ φ, Heap W (fun _ m => m ≠ none) (ctx (mkSt shp x) φ W) W ∧ SV.repL (ctx (mkSt shp x) φ W) (bldL 0 shp.ks x []).1 us := by
  obtain ⟨pl, p⟩ := RL_rp h [] [] rfl
  have hl := p.lens rfl
  let φ : Nat → Option (Nat × Nat) := fun k => match pl[k]? with | some q => q | none => none
  have get : ∀ k a, (bldL 0 shp.ks x []).2[k]? = some a → ∃ q, pl[k]? = some q ∧ φ k = q ∧ OR W a q := by
    intro k a ha
    have hlt : k < pl.length := hl ▸ (List.getElem?_eq_some_iff.1 ha).1
    have hq := List.getElem?_eq_getElem hlt
    exact ⟨pl[k], hq, by show (match pl[k]? with | some q => q | none => none) = _; rw [hq], p.obj k a _ (Nat.zero_le _) ha hq⟩
  have notab : ∀ k b, ¬ (ctx (mkSt shp x) φ W).inB k b := by
    rintro k b ⟨ro, ll, b0, o0, i, o, n, c, h1, _⟩
    obtain ⟨q, _, _, e, l, q3, _⟩ := get k _ h1
    cases q3
  refine ⟨φ, ⟨rfl, ⟨rfl, .of (Nat.le_refl _)⟩, rfl, Nat.le_refl _, fun _ _ _ => rfl, fun b cur T fz _ hw => ⟨cur, hw, rfl⟩, fun _ => rfl, fun _ _ => rfl, ?_, ?_, ?_, ?_, ?_, fun h a b o _ _ => .inr (fun e => by cases e), fun k b hb => absurd hb (notab k b)⟩, p.rep _ ?_⟩
  · intro k a ha
    obtain ⟨q, h1, h2, e, l, rfl, h3⟩ := get k a ha
    rcases h3 with ⟨h3, hl⟩ | ⟨b, o, h3, hb, hc⟩
    · exact .inl ⟨h2.trans h3, hl⟩
    · exact .inr ⟨b, o, h2.trans h3, hc, fun h => by cases h⟩
  · intro k a ha
    exact Nat.ble_eq_true_of_le (List.getElem?_eq_some_iff.1 ha).1
  · intro k a b ha hpp
    obtain ⟨o, hp⟩ := hpp.resolve_right (notab k b)
    obtain ⟨q, h1, h2, e, l, rfl, h3⟩ := get k a ha
    have hp' : φ k = some (b, o) := hp
    rcases h3 with ⟨h3, hl⟩ | ⟨b', o', h3, hb, hc⟩
    · rw [h2, h3] at hp'; cases hp'
    · rw [h2, h3] at hp'; cases hp'; exact hb
  · intro k k' a a' b ha ha' hp hp' hne
    obtain ⟨q, h1, h2, e, l, rfl, h3⟩ := get k a ha
    obtain ⟨q', h1', h2', e', l', rfl, h3'⟩ := get k' a' ha'
    exact ⟨rfl, rfl⟩
  · intro k a b ha hr hp
    obtain ⟨q, h1, h2, e, l, rfl, h3⟩ := get k a ha
    cases hr
  · intro k a q ha hq
    refine ⟨ha, ?_, Nat.ble_eq_true_of_le (List.getElem?_eq_some_iff.1 ha).1⟩
    show (match pl[k]? with | some q => q | none => none) = _
    rw [hq]

/-! ### 2. A law that tells true -/
theorem RL_length {W : World} : ∀ {ks : List KD} {x : denL ks} {us : List Value}, RL W ks x us → us.length = ks.length
  | [], x, us, h => by simp only [RL] at h; simp [h]
  | k :: ks, x, us, h => by
    obtain ⟨u, us', rfl, _, h2⟩ := h
    simp [RL_length h2]

theorem law_calls {P : Program} {g : Nat} {fn : Func} {code : Code} (hf : P.funcs[g]? = some fn) (hb : fn.body = some code)
    {C : Cfg} {Φ : Nat → PFn} {Λ : Nat → (St → Option Bool) → St → Option Bool} {shp : Shape}
    (hT : TyOk P C.ty) (hΦ : ∀ g, (Φ g).Ok P g) (hN : C.N = fn.ntmps) (hshp : shp.map (·.1) = List.range shp.length) (hsl : shp.length ≤ fn.ntmps)
    (hL : LoopsOk C Φ Λ (finOf C.ty fn.results.toList [.one .bool] (fun y => y.1)) (loopsOf C.blk code)) {x : shp.den}
    (hF : exK C Φ Λ (finOf C.ty fn.results.toList [.one .bool] (fun y => y.1)) code (fun _ _ => none) (mkSt shp x) (finOf C.ty fn.results.toList [.one .bool] (fun y => y.1)) = some true)
    {W : World} {vals : List Value} (hR : RL W shp.ks x vals) (hG : GlOk P W (fun _ m => m ≠ none) := by exact fun _ _ _ => trivial) :
    Calls P g vals.toArray W fun e W' => e = .returned (.bool true) ∧ Below W.heap.size W W' := by
  obtain ⟨φ, H, hr⟩ := RL_heap hR
  have hlv : vals.length = shp.length := by rw [RL_length hR]; simp
  have htmp : ∀ i V, vals[i]? = some V → (vals.toArray ++ Array.replicate (fn.ntmps - vals.toArray.size) undef).getD i undef = V := by
    intro i V h
    have hlt := (List.getElem?_eq_some_iff.1 h).1
    simp only [Array.getD_eq_getD_getElem?]
    rw [Array.getElem?_append_left (by simpa using hlt)]
    simp [h]
  have good : Good W (fun _ m => m ≠ none) C.N (fun _ => none) (mkSt shp x) φ { tmps := vals.toArray ++ Array.replicate (fn.ntmps - vals.toArray.size) undef, defers := [] } W := by
    refine ⟨rfl, ?_, (fun i V hi => by cases hi), ?_, H⟩
    · rw [hN]
      simp
      omega
    · intro i
      refine assocS_rep (a := { tmps := vals.toArray ++ Array.replicate (fn.ntmps - vals.toArray.size) undef, defers := [] }) ?_ i
      rw [hshp]
      have : ((List.range shp.length).map fun i => (vals.toArray ++ Array.replicate (fn.ntmps - vals.toArray.size) undef).getD i undef) = vals := by
        apply List.ext_getElem?
        intro i
        rw [List.getElem?_map]
        by_cases hi : i < shp.length
        · rw [List.getElem?_range hi]
          have hiv : i < vals.length := by omega
          rw [List.getElem?_eq_getElem hiv]
          simp only [Option.map_some]
          rw [htmp i vals[i] (List.getElem?_eq_getElem hiv)]
        · rw [List.getElem?_eq_none (by simp; omega), List.getElem?_eq_none (by omega)]
          rfl
      rw [this]
      exact hr
  refine calls_of_wp hf hb ?_
  have fin : ∀ st' φ' a' w', finOf C.ty fn.results.toList [.one .bool] (fun y => y.1) st' = some true → Good W (fun _ m => m ≠ none) C.N (fun _ => none) st' φ' a' w' → a'.defers = [] ∧ ∃ v, (results fn a'.tmps).run P w' = .ok v w' ∧
      ((Ending.returned v) = .returned (.bool true) ∧ Below W.heap.size W w') := by
    intro st' φ' a' w' hfin g'
    unfold finOf at hfin
    split at hfin
    · rename_i vs hvs
      split at hfin
      · rename_i y es' hy
        split at hfin
        · rename_i hok
          simp only [Option.some.injEq] at hfin
          obtain ⟨us, hrun, hus⟩ := results_run hT g' hvs
          refine ⟨g'.defers, _, hrun, ?_, ⟨g'.heap.os, g'.heap.tape.1, g'.heap.output, g'.heap.size, fun k hk => g'.heap.keep k hk (fun h => h rfl)⟩⟩
          cases vs with
          | nil => simp [extL] at hy
          | cons v vs =>
            cases vs with
            | cons v2 vs =>
              simp only [extL] at hy
              split at hy <;> simp at hy
            | nil =>
              cases v <;> simp only [extL, extK, extB] at hy <;> try (simp at hy; done)
              rename_i b
              simp only [Option.some.injEq, Prod.mk.injEq] at hy
              obtain ⟨hy1, _⟩ := hy
              obtain ⟨u, us', rfl, hu, hus'⟩ := hus
              simp only [SV.repL] at hus'
              subst hus'
              have hu' : u = .bool b := hu
              have hb' : b = true := by
                rw [← hy1] at hfin
                exact hfin
              simp [valC, hu', hb']
        · simp at hfin
      · simp at hfin
    · simp at hfin
  refine exK_sound (pv := fun _ => none) (fun i V hi => by cases hi) hT hΦ hG code _ _ _ φ _ W _ hL hF good ?_ ?_ ?_
  · intro st' φ' a' w' h' g'
    exact fin st' φ' a' w' h' g'
  · intro id st' φ' a' w' h' g'
    cases h'
  · intro st' φ' a' w' h' g'
    exact fin st' φ' a' w' h' g'
end Go.Fx
end

noncomputable section
set_option linter.unusedVariables false
set_option linter.unusedSimpArgs false
set_option autoImplicit false
namespace Go.Fx
open Go Go.RowKit Go.WideShapes Go.ChangeShapes Go.ChangeAt

def WfE : (e : EK) → e.den → Prop
  | .int k, x => (Lit.int k x).wf = true
  | .bool, _ => True
  | .str, s => ByteArray.size s ≤ maxLen
  | .p2, x => (Lit.int .i64 x.1).wf = true ∧ (Lit.int .i64 x.2).wf = true
  | .t3, x => (Lit.int .i64 x.1).wf = true ∧ (Lit.int .i64 x.2.1).wf = true ∧ (Lit.int .i64 x.2.2).wf = true
def WfB : (b : BK) → b.den → Prop
  | .int k, x => (Lit.int k x).wf = true
  | .str, s => ByteArray.size s ≤ maxLen
  | .row e _, l => List.length l ≤ maxLen ∧ ∀ x ∈ (l : List e.den), WfE e x
  | _, _ => True
def WfBs : (bs : List BK) → denB bs → Prop
  | [], _ => True
  | b :: bs, x => WfB b x.1 ∧ WfBs bs x.2
def WfK : (k : KD) → k.den → Prop
  | .one b, x => WfB b x
  | .agg bs, x => WfBs bs x
  | _, _ => True
def WfL : (ks : List KD) → denL ks → Prop
  | [], _ => True
  | k :: ks, x => WfK k x.1 ∧ WfL ks x.2

def i64At (ty : Ty) (u : Nat) : Bool := (match (ty u).kind with | .int .i64 => true | _ => false) && Nat.beq (ty u).size 1
/-- An element's type. -/
def ekTy (ty : Ty) (u : Nat) : EK → Bool
  | .int k => match (ty u).kind with | .int k' => decide (k' = k) | _ => false
  | .bool => match (ty u).kind with | .bool => true | _ => false
  | .str => match (ty u).kind with | .str => true | _ => false
  | .p2 => match (ty u).kind with
    | .arr 2 v => i64At ty v && Nat.beq (ty u).size 2
    | .struct [(a, 0), (b, 1)] => i64At ty a && i64At ty b && Nat.beq (ty u).size 2
    | _ => false
  | .t3 => match (ty u).kind with
    | .arr 3 v => i64At ty v && Nat.beq (ty u).size 3
    | _ => false
def bkTy (ty : Ty) (t : Nat) : BK → Bool
  | .int k => match (ty t).kind with | .int k' => decide (k' = k) | _ => false
  | .bool => match (ty t).kind with | .bool => true | _ => false
  | .str => match (ty t).kind with | .str => true | _ => false
  | .row e own => !own && (match (ty t).kind with | .slice u => decide ((ty u).ek = some e) && ekTy ty u e | _ => false)
  | _ => false
def fieldsTy (ty : Ty) : List (Nat × Nat) → List BK → Nat → Bool
  | [], [], _ => true
  | (t, o) :: fs, b :: bs, i => Nat.beq o i && Nat.beq (ty t).size 1 && bkTy ty t b && fieldsTy ty fs bs (i + 1)
  | _, _, _ => false
def kdTy (ty : Ty) (t : Nat) : KD → Bool
  | .one b => bkTy ty t b
  | .agg bs => match (ty t).kind with
    | .struct fs => fieldsTy ty fs bs 0 && Nat.beq (ty t).size bs.length
    | .arr n u => i64At ty u && Nat.beq bs.length n && bs.all (fun b => match b with | .int .i64 => true | _ => false) && Nat.beq (ty t).size n
    | _ => false
  | _ => false
def kdTys (ty : Ty) : List Nat → List KD → Bool
  | [], [] => true
  | t :: ts, k :: ks => kdTy ty t k && kdTys ty ts ks
  | _, _ => false

section
variable {H : Type} {enc : TypeId × Value → H} {P : Program} {w : World} {base : Nat} {held : Bool} {ty : Ty} {sp : Nat → Bool}

theorem cells_ty (hT : TyOk P ty) {t : Nat} (hk : (ty t).kind ≠ .other ∨ (ty t).ek ≠ none) : P.cellsOf t = (ty t).size := by
  rcases hT t with h | h
  · rcases hk with h1 | h1
    · exact absurd h.1 h1
    · exact absurd h.2 h1
  · obtain ⟨d, i, z, _, h2, _, h4, _⟩ := h.ok
    rw [cellsOf_eq h2, h4]
theorem ek_cells (hT : TyOk P ty) {t : Nat} {e : EK} (hk : (ty t).ek = some e) : P.cellsOf t = e.sz := by
  rcases hT t with h | h
  · rw [h.2] at hk; cases hk
  · obtain ⟨d, i, z, _, h2, _, h4, _, _, _, _, h8⟩ := h.ok
    rw [cellsOf_eq h2, h4, (h8 e hk).1]

theorem i64At_spec (hT : TyOk P ty) {u : Nat} (h : i64At ty u = true) : P.underlying u = some (.int .i64) ∧ P.cellsOf u = 1 := by
  simp only [i64At, Bool.and_eq_true] at h
  obtain ⟨h1, h2⟩ := h
  split at h1
  · rename_i hk
    exact ⟨ty_int hT hk, by rw [cells_ty hT (.inl (by rw [hk]; simp))]; exact Nat.eq_of_beq_eq_true h2⟩
  · cases h1

theorem trod_array {t e n fuel : Nat} {cs : List Value} {x : DataW H × List MemPlace} (ht : P.underlying t = some (.array n e)) (h : DataW.trod enc P w base sp held fuel t cs = some x) :
    ∃ (xs : List (DataW H × List MemPlace)) (m : Nat), cs.length = P.cellsOf t ∧ xs.length = n ∧ ∀ i, i < n → DataW.trod enc P w base sp held m e ((cs.drop (i * P.cellsOf e)).take (P.cellsOf e)) = xs[i]? := by
  cases fuel with
  | zero => simp [DataW.trod] at h
  | succ m =>
    unfold DataW.trod at h
    rw [ht] at h
    split at h <;> simp_all
    obtain ⟨hl, xs, hp, hd⟩ := h
    exact ⟨xs, by simpa using mapM_some_length hp, m, fun i hi => mapM_some_get hp i i (by simp [hi])⟩

theorem int_cell {u fuel : Nat} {c : List Value} {x : Option (DataW H × List MemPlace)} (hu : P.underlying u = some (.int .i64)) (hx : x.isSome = true) (h : DataW.trod enc P w base sp held fuel u c = x) :
    ∃ n, c = [.int .i64 n] ∧ (Lit.int .i64 n).wf = true := by
  cases x with
  | none => simp at hx
  | some x =>
    obtain ⟨n, h1, _, h2⟩ := DataW.trod_int hu h
    exact ⟨n, h1, h2⟩

theorem read_E (hT : TyOk P ty) {u : Nat} {e : EK} (he : ekTy ty u e = true) {fuel : Nat} {cs : List Value} {z : DataW H × List MemPlace} (h : DataW.trod enc P w base sp held fuel u cs = some z) : ∃ x : e.den, cs = e.enc x ∧ WfE e x := by
  cases e with
  | int k =>
    simp only [ekTy] at he
    split at he
    · rename_i k' hk
      have : k' = k := by simpa using he
      subst this
      obtain ⟨n, h1, _, h2⟩ := DataW.trod_int (ty_int hT hk) h
      exact ⟨n, h1, h2⟩
    · cases he
  | bool =>
    simp only [ekTy] at he
    split at he
    · rename_i hk
      obtain ⟨n, h1, _⟩ := DataW.trod_bool (ty_bool hT hk) h
      exact ⟨n, h1, trivial⟩
    · cases he
  | str =>
    simp only [ekTy] at he
    split at he
    · rename_i hk
      obtain ⟨n, h1, _, h2⟩ := DataW.trod_string (ty_str hT hk) h
      exact ⟨n, h1, h2⟩
    · cases he
  | p2 =>
    simp only [ekTy] at he
    split at he
    · rename_i v hk
      simp only [Bool.and_eq_true] at he
      obtain ⟨hv, hs⟩ := he
      obtain ⟨hv1, hv2⟩ := i64At_spec hT hv
      obtain ⟨xs, m, hl, hx, hi⟩ := trod_array (ty_arr hT hk) h
      rw [cells_ty hT (.inl (by rw [hk]; simp)), Nat.eq_of_beq_eq_true hs] at hl
      match cs, hl with
      | [c0, c1], _ =>
        have h0 := hi 0 (by omega)
        have h1 := hi 1 (by omega)
        simp only [hv2, Nat.zero_mul, Nat.one_mul, List.drop_zero, List.drop_succ_cons, List.take_succ_cons, List.take_zero] at h0 h1
        obtain ⟨a, ha, wa⟩ := int_cell hv1 (by simp [hx]) h0
        obtain ⟨b, hb, wb⟩ := int_cell hv1 (by simp [hx]) h1
        simp at ha hb
        exact ⟨(a, b), by simp [EK.enc, ha, hb], wa, wb⟩
    · rename_i a b hk
      simp only [Bool.and_eq_true] at he
      obtain ⟨⟨ha, hb⟩, hs⟩ := he
      obtain ⟨ha1, ha2⟩ := i64At_spec hT ha
      obtain ⟨hb1, hb2⟩ := i64At_spec hT hb
      obtain ⟨fs, hf, hfs⟩ := ty_struct hT hk
      obtain ⟨xs, m, _, _, hl, hx, hi⟩ := DataW.trod_struct hf h
      rw [cells_ty hT (.inl (by rw [hk]; simp)), Nat.eq_of_beq_eq_true hs] at hl
      have hfl : fs.toList.length = 2 := by simpa using congrArg List.length hfs
      obtain ⟨f0, f1, hff⟩ : ∃ f0 f1, fs.toList = [f0, f1] := by
        match hq : fs.toList, hfl with
        | [f0, f1], _ => exact ⟨f0, f1, rfl⟩
      rw [hff] at hfs
      simp only [List.map_cons, List.map_nil, List.cons.injEq, Prod.mk.injEq, and_true] at hfs
      obtain ⟨⟨e1, e2⟩, e3, e4⟩ := hfs
      have g0 : fs[0]? = some f0 := by rw [← Array.getElem?_toList, hff]; rfl
      have g1 : fs[1]? = some f1 := by rw [← Array.getElem?_toList, hff]; rfl
      have hxl : xs.length = 2 := by rw [hx]; simpa using hfl
      match cs, hl with
      | [c0, c1], _ =>
        have h0 := hi 0 f0 g0
        have h1 := hi 1 f1 g1
        rw [e1, e2, ha2] at h0
        rw [e3, e4, hb2] at h1
        simp only [List.drop_zero, List.drop_succ_cons, List.take_succ_cons, List.take_zero] at h0 h1
        obtain ⟨a, ha, wa⟩ := int_cell ha1 (by simp [hxl]) h0
        obtain ⟨b, hb, wb⟩ := int_cell hb1 (by simp [hxl]) h1
        simp at ha hb
        exact ⟨(a, b), by simp [EK.enc, ha, hb], wa, wb⟩
    · cases he
  | t3 =>
    simp only [ekTy] at he
    split at he
    · rename_i v hk
      simp only [Bool.and_eq_true] at he
      obtain ⟨hv, hs⟩ := he
      obtain ⟨hv1, hv2⟩ := i64At_spec hT hv
      obtain ⟨xs, m, hl, hx, hi⟩ := trod_array (ty_arr hT hk) h
      rw [cells_ty hT (.inl (by rw [hk]; simp)), Nat.eq_of_beq_eq_true hs] at hl
      match cs, hl with
      | [c0, c1, c2], _ =>
        have h0 := hi 0 (by omega)
        have h1 := hi 1 (by omega)
        have h2 := hi 2 (by omega)
        simp only [hv2, Nat.zero_mul, Nat.one_mul, Nat.mul_one, List.drop_zero, List.drop_succ_cons, List.take_succ_cons, List.take_zero] at h0 h1 h2
        obtain ⟨a, ha, wa⟩ := int_cell hv1 (by simp [hx]) h0
        obtain ⟨b, hb, wb⟩ := int_cell hv1 (by simp [hx]) h1
        obtain ⟨c, hc, wc⟩ := int_cell hv1 (by simp [hx]) h2
        simp at ha hb hc
        exact ⟨(a, b, c), by simp [EK.enc, ha, hb, hc], wa, wb, wc⟩
    · cases he

theorem cell_some {a : Addr} {v : Value} (h : w.cell? a = some v) : a.spot = none ∧ a.block < w.heap.size := by
  unfold World.cell? at h
  split at h
  · rename_i c _ _ hb
    refine ⟨?_, (Array.getElem?_eq_some_iff.1 hb).1⟩
    split at h
    · cases h
    · rename_i hs
      simpa using hs
  · cases h

theorem read_row (hT : TyOk P ty) {t u : Nat} {e : EK} (hk : (ty t).kind = .slice u) (hek : (ty u).ek = some e) (he : ekTy ty u e = true) {fuel : Nat} {cs : List Value} {z : DataW H × List MemPlace}
    (h : DataW.trod enc P w 0 (fun _ => true) held fuel t cs = some z) : ∃ (l : List e.den) (v : Value), cs = [v] ∧ RB w (.row e false) l v ∧ WfB (.row e false) l := by
  have hsz := ek_cells hT hek
  rcases DataW.trod_slice (ty_slice hT hk) h with ⟨rfl, _⟩ | ⟨a, len, cap, elems, rest, n, _, rfl, _, _, hl, hm, hlen, hel, hsp, _⟩
  · exact ⟨[], _, rfl, ⟨rfl, none, 0, rfl, Nat.le_refl _, Nat.zero_le _, .inl rfl⟩, Nat.zero_le _, by simp⟩
  · rw [hsz] at hel hsp
    have each : ∀ i, i < len → ∃ x : e.den, w.cells? 0 (a.add (i * e.sz)) e.sz = some (e.enc x) ∧ WfE e x := by
      intro i hi
      have h1 := hel i hi
      have h2 : elems[i]? = some elems[i] := List.getElem?_eq_getElem (by omega)
      rw [h2] at h1
      cases hc : w.cells? 0 (a.add (i * e.sz)) e.sz with
      | none => rw [hc] at h1; simp at h1
      | some c =>
        rw [hc, Option.bind_some] at h1
        obtain ⟨x, hx, wx⟩ := read_E hT he h1
        exact ⟨x, by rw [hx], wx⟩
    have build : ∀ m, m ≤ len → ∃ l : List e.den, l.length = m ∧ (∀ i, i < m → w.cells? 0 (a.add (i * e.sz)) e.sz = some (e.enc (l.getD i e.dflt))) ∧ ∀ x ∈ l, WfE e x := by
      intro m
      induction m with
      | zero => exact fun _ => ⟨[], rfl, fun i hi => by omega, by simp⟩
      | succ m ih =>
        intro hm
        obtain ⟨l, h1, h2, h3⟩ := ih (by omega)
        obtain ⟨x, h4, h5⟩ := each m (by omega)
        refine ⟨l ++ [x], by simp [h1], fun i hi => ?_, fun y hy => ?_⟩
        · by_cases c : i = m
          · subst c
            rw [h4]
            simp [← h1]
          · have := h2 i (by omega)
            rw [this]
            simp [List.getElem?_append_left (show i < l.length by omega)]
        · rcases List.mem_append.1 hy with hy | hy
          · exact h3 y hy
          · simp at hy; subst hy; exact h5
    obtain ⟨l, h1, h2, h3⟩ := build len (Nat.le_refl _)
    have getc : ∀ {b : Addr} {n : Nat} {c : List Value}, w.cells? 0 b n = some c → ∀ j, j < n → w.cell? (b.add j) = c[j]? := by
      intro b n c hc j hj
      unfold World.cells? at hc
      rw [if_pos (Nat.zero_le _)] at hc
      exact mapM_some_get hc j j (by simp [hj])
    refine ⟨l, _, rfl, ⟨rfl, some a, cap, by rw [h1], by rw [h1]; exact hl, hm, ?_⟩, by rw [h1]; exact Nat.le_trans hl hm, h3⟩
    rcases Nat.eq_zero_or_pos cap with hc0 | hcp
    · exact .inl hc0
    · right
      have first : ∃ v, w.cell? a = some v := by
        have hadd : (a.add (0 * e.sz)).add 0 = a := by simp [Addr.add]
        rcases Nat.eq_zero_or_pos len with hl0 | hlp
        · obtain ⟨r1, r2⟩ := hsp rfl
          have h4 := r2 0 (by omega)
          obtain ⟨q0, h5⟩ : ∃ q0, rest[0]? = some q0 := ⟨_, List.getElem?_eq_getElem (by omega)⟩
          rw [h5, hl0] at h4
          cases hc : w.cells? 0 (a.add ((0 + 0) * e.sz)) e.sz with
          | none => rw [hc] at h4; simp at h4
          | some c =>
            rw [hc, Option.bind_some] at h4
            obtain ⟨x, hx, _⟩ := read_E hT he h4
            have h6 := getc hc 0 (sz_pos e)
            rw [hx] at h6
            rw [show (0 + 0) * e.sz = 0 * e.sz by simp, hadd] at h6
            have : 0 < (e.enc x).length := by rw [enc_length]; exact sz_pos e
            exact ⟨_, h6.trans (List.getElem?_eq_getElem this)⟩
        · have hc := h2 0 hlp
          have h6 := getc hc 0 (sz_pos e)
          rw [hadd] at h6
          have : 0 < (e.enc (l.getD 0 e.dflt)).length := by rw [enc_length]; exact sz_pos e
          exact ⟨_, h6.trans (List.getElem?_eq_getElem this)⟩
      obtain ⟨v0, hv0⟩ := first
      obtain ⟨hs, hb⟩ := cell_some hv0
      obtain ⟨ab, ao, as⟩ := a
      simp only at hs hb
      subst hs
      refine ⟨ab, ao, rfl, hb, fun k v hv => ?_⟩
      have hk : k < len * e.sz := by
        have := (List.getElem?_eq_some_iff.1 hv).1
        rw [encAll_length, h1] at this
        exact this
      have hpos := sz_pos e
      have hi : k / e.sz < len := Nat.div_lt_of_lt_mul (by rw [Nat.mul_comm]; exact hk)
      have hj : k % e.sz < e.sz := Nat.mod_lt _ hpos
      have hkk : k / e.sz * e.sz + k % e.sz = k := by rw [Nat.mul_comm]; exact Nat.div_add_mod k e.sz
      have h6 := getc (h2 (k / e.sz) hi) (k % e.sz) hj
      rw [add_spot, add_spot, Nat.add_assoc, hkk] at h6
      have h7 := encAll_get e l (k / e.sz) (k % e.sz) (by rw [h1]; exact hi) hj
      rw [hkk, hv] at h7
      rw [h6, ← h7]

theorem read_B (hT : TyOk P ty) {t : Nat} {b : BK} (hb : bkTy ty t b = true) {fuel : Nat} {cs : List Value} {z : DataW H × List MemPlace}
    (h : DataW.trod enc P w 0 (fun _ => true) held fuel t cs = some z) : ∃ (x : b.den) (v : Value), cs = [v] ∧ RB w b x v ∧ WfB b x := by
  cases b with
  | int k =>
    simp only [bkTy] at hb
    split at hb
    · rename_i k' hk
      have : k' = k := by simpa using hb
      subst this
      obtain ⟨n, h1, _, h2⟩ := DataW.trod_int (ty_int hT hk) h
      exact ⟨n, _, h1, rfl, h2⟩
    · cases hb
  | bool =>
    simp only [bkTy] at hb
    split at hb
    · rename_i hk
      obtain ⟨n, h1, _⟩ := DataW.trod_bool (ty_bool hT hk) h
      exact ⟨n, _, h1, rfl, trivial⟩
    · cases hb
  | str =>
    simp only [bkTy] at hb
    split at hb
    · rename_i hk
      obtain ⟨n, h1, _, h2⟩ := DataW.trod_string (ty_str hT hk) h
      exact ⟨n, _, h1, rfl, h2⟩
    · cases hb
  | row e own =>
    simp only [bkTy, Bool.and_eq_true, Bool.not_eq_true'] at hb
    obtain ⟨rfl, hb⟩ := hb
    split at hb
    · rename_i u hk
      simp only [Bool.and_eq_true, decide_eq_true_eq] at hb
      exact read_row hT hk hb.1 hb.2 h
    · cases hb
  | ref i => cases hb
  | part i => cases hb
  | lit c => cases hb
  | map own => cases hb
  | tab own => cases hb
  | clo f rs => cases hb

theorem read_fields (hT : TyOk P ty) {cs : List Value} : ∀ (fs : List (Nat × Nat)) (bs : List BK) (k : Nat), fieldsTy ty fs bs k = true → cs.length = k + bs.length →
    (∀ (i t o : Nat), fs[i]? = some (t, o) → ∃ fuel z, DataW.trod enc P w 0 (fun _ => true) held fuel t ((cs.drop o).take (P.cellsOf t)) = some z) → ∃ x : denB bs, RBs w bs x (cs.drop k) ∧ WfBs bs x
  | [], [], k, h, hl, hf => ⟨(), by simp only [RBs]; simp at hl; simp [hl], trivial⟩
  | [], b :: bs, k, h, hl, hf => by simp [fieldsTy] at h
  | (t, o) :: fs, [], k, h, hl, hf => by simp [fieldsTy] at h
  | (t, o) :: fs, b :: bs, k, h, hl, hf => by
    simp only [fieldsTy, Bool.and_eq_true] at h
    obtain ⟨⟨⟨h1, h2⟩, h3⟩, h4⟩ := h
    have ho := Nat.eq_of_beq_eq_true h1
    subst ho
    have hkn : (ty t).kind ≠ .other := by
      intro hq
      cases b <;> simp [bkTy, hq] at h3
    have hc : P.cellsOf t = 1 := by rw [cells_ty hT (.inl hkn)]; exact Nat.eq_of_beq_eq_true h2
    obtain ⟨fuel, z, hz⟩ := hf 0 t o rfl
    obtain ⟨x, v, hv, hr, hw⟩ := read_B hT h3 hz
    obtain ⟨xs, hrs, hws⟩ := read_fields hT fs bs (o + 1) h4 (by simp at hl; omega) (fun i t' o' hi => hf (i + 1) t' o' (by simpa using hi))
    refine ⟨(x, xs), ⟨v, cs.drop (o + 1), ?_, hr, hrs⟩, hw, hws⟩
    rw [hc] at hv
    have hlt : o < cs.length := by simp at hl; omega
    rw [List.drop_eq_getElem_cons hlt] at hv ⊢
    simp only [List.take_succ_cons, List.take_zero, List.cons.injEq, and_true] at hv
    rw [hv]

theorem read_ints {cs : List Value} : ∀ (bs : List BK) (k : Nat), bs.all (fun b => match b with | .int .i64 => true | _ => false) = true → cs.length = k + bs.length →
    (∀ i, k ≤ i → i < cs.length → ∃ n, (cs.drop i).take 1 = [Value.int .i64 n] ∧ (Lit.int .i64 n).wf = true) → ∃ x : denB bs, RBs w bs x (cs.drop k) ∧ WfBs bs x
  | [], k, h, hl, hf => ⟨(), by simp only [RBs]; simp at hl; simp [hl], trivial⟩
  | b :: bs, k, h, hl, hf => by
    simp only [List.all_cons, Bool.and_eq_true] at h
    obtain ⟨h1, h2⟩ := h
    have hb : b = .int .i64 := by
      split at h1
      · rfl
      · cases h1
    subst hb
    simp at hl
    obtain ⟨n, hn, hw⟩ := hf k (Nat.le_refl _) (by omega)
    obtain ⟨xs, hrs, hws⟩ := read_ints bs (k + 1) h2 (by omega) (fun i hi hi2 => hf i (by omega) hi2)
    refine ⟨(n, xs), ⟨.int .i64 n, cs.drop (k + 1), ?_, rfl, hrs⟩, hw, hws⟩
    have hlt : k < cs.length := by omega
    rw [List.drop_eq_getElem_cons hlt] at hn ⊢
    simp only [List.take_succ_cons, List.take_zero, List.cons.injEq, and_true] at hn
    rw [hn]

theorem okWide_array {n e t : Nat} {r : Reach} {b0 : Nat} {v : Value} (ht : P.underlying t = some (.array n e)) (h : Value.okWide P w r b0 t v) : ∃ cs, v = .agg cs ∧ cs.size = P.cellsOf t := by
  simp only [Value.okWide, ht] at h
  obtain ⟨cs, h1, h2, _⟩ := h
  exact ⟨cs, h1, h2⟩

theorem okWide_one {t : Nat} {r : Reach} {b0 : Nat} {v u : Value} (hT : TyOk P ty) {b : BK} (hb : bkTy ty t b = true) (h : Value.okWide P w r b0 t v) (hc : v.cells.toList = [u]) : v = u := by
  have one : v.oneCell' = true → v = u := by
    intro ho
    have : v.cells = #[v] := by cases v <;> simp [Value.oneCell'] at ho <;> rfl
    rw [this] at hc
    simpa using hc
  cases b with
  | int k =>
    simp only [bkTy] at hb
    split at hb
    · rename_i hk
      obtain ⟨n, rfl⟩ := okWide_int (ty_int hT hk) h
      exact one rfl
    · cases hb
  | bool =>
    simp only [bkTy] at hb
    split at hb
    · rename_i hk
      obtain ⟨n, rfl⟩ := okWide_bool (ty_bool hT hk) h
      exact one rfl
    · cases hb
  | str =>
    simp only [bkTy] at hb
    split at hb
    · rename_i hk
      obtain ⟨n, rfl⟩ := okWide_string (ty_str hT hk) h
      exact one rfl
    · cases hb
  | row e own =>
    simp only [bkTy, Bool.and_eq_true] at hb
    obtain ⟨_, hb⟩ := hb
    split at hb
    · rename_i u hk
      obtain ⟨a, l, c, rfl⟩ := okWide_slice (ty_slice hT hk) h
      exact one rfl
    · cases hb
  | ref i => cases hb
  | part i => cases hb
  | lit c => cases hb
  | map own => cases hb
  | tab own => cases hb
  | clo f rs => cases hb

theorem read_K (hT : TyOk P ty) {t : Nat} {k : KD} (hk : kdTy ty t k = true) {r : Reach} {b0 : Nat} {v : Value} (hv : Value.okWide P w r b0 t v) {d : DataW H} {ps : List MemPlace}
    (h : DataW.Trod enc P w 0 (fun _ => true) held t v d ps) : ∃ x : k.den, RK w k x v ∧ WfK k x := by
  obtain ⟨fuel, hf⟩ := h
  cases k with
  | one b =>
    obtain ⟨x, u, hc, hr, hw⟩ := read_B hT hk hf
    have := okWide_one hT hk hv hc
    subst this
    exact ⟨x, hr, hw⟩
  | agg bs =>
    simp only [kdTy] at hk
    split at hk
    · rename_i fs hks
      simp only [Bool.and_eq_true] at hk
      obtain ⟨hk1, hk2⟩ := hk
      obtain ⟨fa, hfa, hfm⟩ := ty_struct hT hks
      obtain ⟨cs, rfl, hcs⟩ := okWide_struct hfa hv
      have hcl : cs.toList.length = bs.length := by
        rw [Array.length_toList, hcs, cells_ty hT (.inl (by rw [hks]; simp))]
        exact Nat.eq_of_beq_eq_true hk2
      obtain ⟨xs, m, _, _, _, hxl, hi⟩ := DataW.trod_struct hfa hf
      obtain ⟨x, hr, hw⟩ := read_fields (w := w) (enc := enc) (held := held) hT (cs := cs.toList) fs bs 0 hk1 (by omega) (fun i t' o' hio => by
        rw [← hfm, List.getElem?_map] at hio
        cases hq : fa.toList[i]? with
        | none => rw [hq] at hio; simp at hio
        | some f =>
          rw [hq] at hio
          simp only [Option.map_some, Option.some.injEq, Prod.mk.injEq] at hio
          obtain ⟨rfl, rfl⟩ := hio
          have hq' : fa[i]? = some f := by rw [← Array.getElem?_toList]; exact hq
          have h1 := hi i f hq'
          have hlt : i < xs.length := by
            rw [hxl]
            exact (Array.getElem?_eq_some_iff.1 hq').1
          refine ⟨m, xs[i], ?_⟩
          have h1' : DataW.trod enc P w 0 (fun _ => true) held m f.type ((cs.toList.drop f.offset).take (P.cellsOf f.type)) = xs[i]? := by simpa [Value.cells] using h1
          rw [h1', List.getElem?_eq_getElem hlt])
      exact ⟨x, ⟨cs.toList, by simp, by simpa using hr⟩, hw⟩
    · rename_i n u hks
      simp only [Bool.and_eq_true] at hk
      obtain ⟨⟨⟨hu, hn⟩, hall⟩, hs⟩ := hk
      obtain ⟨hu1, hu2⟩ := i64At_spec hT hu
      obtain ⟨cs, rfl, hcs⟩ := okWide_array (ty_arr hT hks) hv
      have hn' := Nat.eq_of_beq_eq_true hn
      have hcl : cs.toList.length = n := by
        rw [Array.length_toList, hcs, cells_ty hT (.inl (by rw [hks]; simp))]
        exact Nat.eq_of_beq_eq_true hs
      obtain ⟨xs, m, _, hxl, hi⟩ := trod_array (ty_arr hT hks) hf
      obtain ⟨x, hr, hw⟩ := read_ints (w := w) (cs := cs.toList) bs 0 hall (by omega) (fun i _ hlt => by
        have h1 := hi i (by omega)
        rw [hu2, Nat.mul_one] at h1
        have h1' : DataW.trod enc P w 0 (fun _ => true) held m u ((cs.toList.drop i).take 1) = xs[i]? := by simpa [Value.cells] using h1
        exact int_cell hu1 (by simp; omega) h1')
      exact ⟨x, ⟨cs.toList, by simp, by simpa using hr⟩, hw⟩
    · cases hk
  | _ => cases hk

theorem read_L (hT : TyOk P ty) {r : Reach} {b0 : Nat} : ∀ {ts : List Nat} {ks : List KD} {vs : List Value} {ds : List (DataW H)} {ps : List MemPlace}, kdTys ty ts ks = true → (∀ (j : Nat) (t : TypeId) (v : Value), ts[j]? = some t → vs[j]? = some v → Value.okWide P w r b0 t v) →
    DataW.TrodAll enc P w 0 (fun _ => true) held ts vs ds ps → ∃ x : denL ks, RL w ks x vs ∧ WfL ks x
  | [], [], vs, ds, ps, hk, hv, h => by
    obtain ⟨rfl, _, _⟩ := trodAll_nil h
    exact ⟨(), rfl, trivial⟩
  | [], k :: ks, vs, ds, ps, hk, hv, h => by simp [kdTys] at hk
  | t :: ts, [], vs, ds, ps, hk, hv, h => by simp [kdTys] at hk
  | t :: ts, k :: ks, vs, ds, ps, hk, hv, h => by
    simp only [kdTys, Bool.and_eq_true] at hk
    obtain ⟨v, vs', d, ds', p, q, rfl, rfl, rfl, h1, h2⟩ := trodAll_cons h
    obtain ⟨x, hr, hw⟩ := read_K hT hk.1 (hv 0 t v rfl rfl) h1
    obtain ⟨xs, hrs, hws⟩ := read_L hT hk.2 (fun j t' v' ht hv' => hv (j + 1) t' v' (by simpa using ht) (by simpa using hv')) h2
    exact ⟨(x, xs), ⟨v, vs', rfl, hr, hrs⟩, hw, hws⟩

/-- The arguments read as they did. -/
theorem trodAll_below (hl : laidOutB P = true) {W W' : World} (hb : Below W.heap.size W W') : ∀ {ts : List TypeId} {vs : List Value} {ds : List (DataW H)} {ps : List MemPlace}, ts.all (fun t => P.readableRec t && decide (t < P.types.size)) = true →
    DataW.TrodAll enc P W 0 (fun _ => true) true ts vs ds ps → DataW.TrodAll enc P W' 0 (fun b => decide (b < W.heap.size)) true ts vs ds ps
  | [], vs, ds, ps, ht, h => by
    obtain ⟨rfl, rfl, rfl⟩ := trodAll_nil h
    exact trodAll_mk0
  | t :: ts, vs, ds, ps, ht, h => by
    simp only [List.all_cons, Bool.and_eq_true, decide_eq_true_eq] at ht
    obtain ⟨v, vs', d, ds', p, q, rfl, rfl, rfl, h1, h2⟩ := trodAll_cons h
    have lt : ∀ x ∈ p, x.block < W.heap.size := by obtain ⟨m, hm⟩ := h1; exact DataW.trod_lt m _ _ _ hm
    exact trodAll_cons_mk (Below.trod hl ht.1.1 ht.1.2 h1 hb lt) (trodAll_below hl hb (by simpa using ht.2) h2)
end
end Go.Fx
end
