/- The reflective executor, part 20: the results of a function, and how it is entered. -/
import Derived.Test.YtkledlpiilcagaaFw19
set_option linter.unusedVariables false
set_option linter.unusedSimpArgs false
set_option autoImplicit false
namespace Go.Fx
open Go

/-! ### 1. Results -/
def resSV (ty : Ty) : List ResultVar → St → Option (List SV)
  | [], _ => some []
  | .tmp t :: r, st => match resSV ty r st with
    | some l => some (st.slots t :: l)
    | none => none
  | .cell a t :: r, st => match loadK ty t (st.slots a) st.objs some with
    | some e => match resSV ty r st with
      | some l => some (e.val :: l)
      | none => none
    | none => none

section
variable {P : Program} {w0 : World} {W0 : Nat → Prop} {N : Nat} {pv : Nat → Option Value} {ty : Ty}

theorem resSV_run (hT : TyOk P ty) {st : St} {φ : Nat → Option (Nat × Nat)} {a : Act} {w : World} (good : Good w0 W0 N pv st φ a w) : ∀ (rs : List ResultVar) (l : List SV), resSV ty rs st = some l →
    ∃ us : List Value, (rs.mapM fun (r : ResultVar) => (match r with
      | .tmp t => pure (a.tmps.getD t undef)
      | .cell b t => do loadVar t (← asAddr (a.tmps.getD b undef)) : Sem Value)).run P w = .ok us w ∧ SV.repL (ctx st φ w) l us
  | [], l, h => by
    simp only [resSV, Option.some.injEq] at h
    subst h
    exact ⟨[], by simp, rfl⟩
  | .tmp t :: rs, l, h => by
    simp only [resSV] at h
    split at h
    · rename_i l' hl
      simp only [Option.some.injEq] at h
      subst h
      obtain ⟨us, h1, h2⟩ := resSV_run hT good rs l' hl
      refine ⟨a.tmps.getD t undef :: us, ?_, _, _, rfl, good.slot t, h2⟩
      rw [List.mapM_cons]
      simp only [Sem.run_bind, Sem.run_pure, Result.andThen_ok]
      rw [h1]
      simp
    · simp at h
  | .cell b t :: rs, l, h => by
    simp only [resSV] at h
    split at h
    · rename_i e he
      split at h
      · rename_i l' hl
        simp only [Option.some.injEq] at h
        subst h
        obtain ⟨us, h1, h2⟩ := resSV_run hT good rs l' hl
        obtain ⟨v, hv, _, hr⟩ := load_ok hT good.heap he (good.slot b)
        have hv' : (do loadVar t (← asAddr (a.tmps.getD b undef)) : Sem Value).run P w = .ok v w := by
          unfold Instr.loadAt at hv
          cases hb : a.tmps.getD b undef <;> rw [hb] at hv
          case pointer p =>
            cases p with
            | none => simp [Instr.sureAddr, stuck] at hv
            | some ad => simpa [Instr.sureAddr, asAddr] using hv
          all_goals simp [Instr.sureAddr, stuck] at hv
        refine ⟨v :: us, ?_, _, _, rfl, hr, h2⟩
        rw [List.mapM_cons]
        simp only [Sem.run_bind, hv', Result.andThen_ok]
        rw [h1]
        simp
      · simp at h
    · simp at h

def valC : List Value → Value
  | [u] => u
  | us => .tuple us.toArray
def valOf : List SV → SV
  | [v] => v
  | vs => .tup vs

theorem results_run (hT : TyOk P ty) {st : St} {φ : Nat → Option (Nat × Nat)} {a : Act} {w : World} (good : Good w0 W0 N pv st φ a w) {fn : Func} {l : List SV} (h : resSV ty fn.results.toList st = some l) :
    ∃ us : List Value, (results fn a.tmps).run P w = .ok (valC us) w ∧ SV.repL (ctx st φ w) l us := by
  obtain ⟨us, h1, h2⟩ := resSV_run hT good fn.results.toList l h
  refine ⟨us, ?_, h2⟩
  unfold results
  rw [Array.mapM_eq_mapM_toList]
  simp only [Sem.run_bind, bind_pure_comp, Functor.map_map]
  rw [Sem.run_map]
  refine (congrArg (fun r => r.andThen fun (a : List Value) w' => Result.ok (if h : a.toArray.size = 1 then a.toArray[0] else Value.tuple a.toArray) w') h1).trans ?_
  match us with
  | [] => simp [valC]
  | [u] => simp [valC]
  | u :: v :: us => simp [valC]

theorem valOf_rep {Γ : Ctx} : ∀ {l : List SV} {us : List Value}, SV.repL Γ l us → (valOf l).rep Γ (valC us)
  | [], us, h => by
    simp only [SV.repL] at h
    subst h
    exact ⟨[], rfl, rfl⟩
  | [v], us, h => by
    obtain ⟨x, xs, rfl, h1, h2⟩ := h
    simp only [SV.repL] at h2
    subst h2
    exact h1
  | v :: v' :: l, us, h => by
    obtain ⟨x, xs, rfl, h1, h2⟩ := h
    obtain ⟨x', xs', rfl, h3, h4⟩ := h2
    exact ⟨x :: x' :: xs', rfl, _, _, rfl, h1, _, _, rfl, h3, h4⟩
end

/-! ### 2. What is read off is local -/
theorem extB_loc {look look' : Nat → Option AO} : ∀ {b : BK} {v : SV} {es es1 : List Ent} {y : b.den}, extB look b v es = some (y, es1) → (∃ de, es1 = es ++ de) ∧ ((∀ x ∈ es1, ∀ h w, x.src = some (h, w) → look' h = look h) → extB look' b v es = some (y, es1)) := by
  intro b v es es1 y h
  cases b with
  | row e own =>
    cases v <;> simp only [extB] at h <;> try (simp at h; done)
    · simp only [Option.some.injEq, Prod.mk.injEq] at h
      obtain ⟨rfl, rfl⟩ := h
      exact ⟨⟨_, rfl⟩, fun _ => rfl⟩
    · rename_i hh win
      split at h
      · rename_i ro e' l ho
        split at h
        · rename_i he
          subst he
          split at h
          · simp at h
          · rename_i hoo
            simp only [Option.some.injEq, Prod.mk.injEq] at h
            obtain ⟨rfl, rfl⟩ := h
            refine ⟨⟨_, rfl⟩, fun hq => ?_⟩
            have := hq ⟨some (hh, win), own⟩ (by simp) hh win rfl
            simp only [extB, this, ho, hoo, dite_true]
        · simp at h
      · simp at h
  | ref i =>
    cases v <;> simp only [extB] at h <;> try (simp at h; done)
    rename_i hh win
    cases win <;> simp only [extB] at h <;> try (simp at h; done)
    have h0 := h
    split at h
    · split at h
      · simp only [Option.some.injEq, Prod.mk.injEq] at h
        refine ⟨⟨[], by simp [h.2]⟩, fun _ => ?_⟩
        simpa only [extB] using h0
      · simp at h
    · simp at h
  | part i =>
    cases v <;> simp only [extB] at h <;> try (simp at h; done)
    rename_i hh win
    cases win <;> simp only [extB] at h <;> try (simp at h; done)
    rename_i q
    have h0 := h
    split at h
    · split at h
      · simp only [Option.some.injEq, Prod.mk.injEq] at h
        refine ⟨⟨[], by simp [h.2]⟩, fun _ => ?_⟩
        simpa only [extB] using h0
      · simp at h
    · simp at h
  | lit c =>
    have h' : (match litEq c v with | true => (some ((), es) : Option (Unit × List Ent)) | false => none) = some (y, es1) := by
      cases v <;> (simp only [extB] at h; exact h)
    have e1 : es1 = es := by
      split at h'
      · simp only [Option.some.injEq, Prod.mk.injEq] at h'
        exact h'.2.symm
      · simp at h'
    refine ⟨⟨[], by simp [e1]⟩, fun _ => ?_⟩
    cases v <;> (simp only [extB] at h ⊢; exact h)
  | int k =>
    cases v <;> simp only [extB] at h <;> try (simp at h; done)
    have h0 := h
    split at h
    · simp only [Option.some.injEq, Prod.mk.injEq] at h
      refine ⟨⟨[], by simp [h.2]⟩, fun _ => ?_⟩
      simpa only [extB] using h0
    · simp at h
  | bool =>
    cases v <;> simp only [extB] at h <;> try (simp at h; done)
    have h0 := h
    simp only [Option.some.injEq, Prod.mk.injEq] at h
    exact ⟨⟨[], by simp [h.2]⟩, fun _ => by simpa only [extB] using h0⟩
  | str =>
    cases v <;> simp only [extB] at h <;> try (simp at h; done)
    have h0 := h
    simp only [Option.some.injEq, Prod.mk.injEq] at h
    exact ⟨⟨[], by simp [h.2]⟩, fun _ => by simpa only [extB] using h0⟩

theorem extBs_loc {look look' : Nat → Option AO} : ∀ {bs : List BK} {vs : List SV} {es es1 : List Ent} {y : denB bs}, extBs look bs vs es = some (y, es1) →
    (∃ de, es1 = es ++ de) ∧ ((∀ x ∈ es1, ∀ h w, x.src = some (h, w) → look' h = look h) → extBs look' bs vs es = some (y, es1))
  | [], vs, es, es1, y, h => by
    cases vs <;> simp only [extBs] at h <;> try (simp at h; done)
    have h0 := h
    simp only [Option.some.injEq, Prod.mk.injEq] at h
    exact ⟨⟨[], by simp [h.2]⟩, fun _ => by simpa only [extBs] using h0⟩
  | b :: bs, vs, es, es1, y, h => by
    cases vs with
    | nil => simp [extBs] at h
    | cons v vs =>
      simp only [extBs] at h
      split at h
      · rename_i x es2 hx
        split at h
        · rename_i xs es3 hxs
          simp only [Option.some.injEq, Prod.mk.injEq] at h
          obtain ⟨rfl, rfl⟩ := h
          obtain ⟨⟨d1, k1⟩, l1⟩ := extB_loc (look' := look') hx
          obtain ⟨⟨d2, k2⟩, l2⟩ := extBs_loc (look' := look') hxs
          refine ⟨⟨d1 ++ d2, by rw [k2, k1]; simp⟩, fun hq => ?_⟩
          simp only [extBs, l1 fun z hz => hq z (by rw [k2]; simp [hz]), l2 hq]
        · simp at h
      · simp at h

theorem extK_loc {look look' : Nat → Option AO} {k : KD} {v : SV} {es es1 : List Ent} {y : k.den} (h : extK look k v es = some (y, es1)) :
    (∃ de, es1 = es ++ de) ∧ ((∀ x ∈ es1, ∀ h w, x.src = some (h, w) → look' h = look h) → extK look' k v es = some (y, es1)) := by
  induction k generalizing v es es1 with
  | one b =>
    have h' : extB look b v es = some (y, es1) := by simpa only [extK] using h
    obtain ⟨h1, h2⟩ := extB_loc (look' := look') h'
    exact ⟨h1, fun q => by simpa only [extK] using h2 q⟩
  | agg bs =>
    cases v <;> simp only [extK] at h <;> try (simp at h; done)
    obtain ⟨h1, h2⟩ := extBs_loc (look' := look') h
    exact ⟨h1, fun q => by simpa only [extK] using h2 q⟩
  | box own bs =>
    cases v <;> try (simp [extK] at h; done)
    rename_i hh i
    cases i with
    | succ i => simp only [extK] at h; simp at h
    | zero =>
      simp only [extK] at h
      split at h
      · rename_i ro cs ho
        split at h
        · simp at h
        · rename_i hoo
          obtain ⟨⟨d, h1⟩, h2⟩ := extBs_loc (look' := look') h
          refine ⟨⟨⟨some (hh, .all), own⟩ :: d, by rw [h1]; simp⟩, fun q => ?_⟩
          have := q ⟨some (hh, .all), own⟩ (by rw [h1]; simp) hh .all rfl
          simp only [extK, this, ho, hoo]
          exact h2 q
      · simp at h
  | arr n own =>
    cases v <;> try (simp [extK] at h; done)
    rename_i hh i j
    cases i with
    | succ i => simp only [extK] at h; simp at h
    | zero =>
      cases j with
      | succ j => simp only [extK] at h; simp at h
      | zero =>
        simp only [extK] at h
        split at h
        · rename_i ro m l ho
          have h0 := h
          split at h
          · simp only [Option.some.injEq, Prod.mk.injEq] at h
            obtain ⟨_, rfl⟩ := h
            refine ⟨⟨_, rfl⟩, fun q => ?_⟩
            have := q ⟨some (hh, .all), own⟩ (by simp) hh .all rfl
            simp only [extK, this, ho]
            exact h0
          · simp at h
        · simp at h
  | ints n =>
    cases v <;> simp only [extK] at h <;> try (simp at h; done)
    have h0 := h
    split at h
    · simp only [Option.some.injEq, Prod.mk.injEq] at h
      exact ⟨⟨[], by simp [h.2]⟩, fun _ => by simpa only [extK] using h0⟩
    · simp at h
  | fn f bs =>
    cases v <;> simp only [extK] at h <;> try (simp at h; done)
    split at h
    · rename_i hb
      obtain ⟨h1, h2⟩ := extBs_loc (look' := look') h
      exact ⟨h1, fun q => by simp only [extK, hb]; exact h2 q⟩
    · simp at h
  | fna f bs =>
    cases v <;> try (simp only [extK] at h; simp at h; done)
    rename_i g caps
    cases caps with
    | nil => simp [extK] at h
    | cons c caps =>
      cases caps with
      | cons c2 caps => cases c <;> (simp only [extK] at h; simp at h)
      | nil =>
        cases c <;> try (simp only [extK] at h; simp at h; done)
        simp only [extK] at h
        split at h
        · rename_i hb
          obtain ⟨h1, h2⟩ := extBs_loc (look' := look') h
          exact ⟨h1, fun q => by simp only [extK, hb]; exact h2 q⟩
        · simp at h
  | pref i off =>
    cases v <;> simp only [extK] at h <;> try (simp at h; done)
    have h0 := h
    split at h
    · split at h
      · simp only [Option.some.injEq, Prod.mk.injEq] at h
        exact ⟨⟨[], by simp [h.2]⟩, fun _ => by simpa only [extK] using h0⟩
      · simp at h
    · simp at h
  | aref i =>
    cases v <;> try (simp [extK] at h; done)
    rename_i hh a b
    cases a with
    | succ a => simp only [extK] at h; simp at h
    | zero =>
      cases b with
      | succ b => simp only [extK] at h; simp at h
      | zero =>
        simp only [extK] at h
        have h0 := h
        split at h
        · split at h
          · simp only [Option.some.injEq, Prod.mk.injEq] at h
            exact ⟨⟨[], by simp [h.2]⟩, fun _ => by simpa only [extK] using h0⟩
          · simp at h
        · simp at h
  | cap k r ihk ihr =>
    cases v <;> try (simp only [extK] at h; simp at h; done)
    rename_i g caps
    cases caps with
    | nil => simp [extK] at h
    | cons c cs =>
      simp only [extK] at h
      split at h
      · rename_i x es2 hx
        split at h
        · rename_i xs es3 hxs
          simp only [Option.some.injEq, Prod.mk.injEq] at h
          obtain ⟨rfl, rfl⟩ := h
          obtain ⟨⟨d1, k1⟩, l1⟩ := ihk hx
          obtain ⟨⟨d2, k2⟩, l2⟩ := ihr hxs
          refine ⟨⟨d1 ++ d2, by rw [k2, k1]; simp⟩, fun hq => ?_⟩
          simp only [extK, l1 fun z hz => hq z (by rw [k2]; simp [hz]), l2 hq]
        · simp at h
      · simp at h

theorem extL_loc {look look' : Nat → Option AO} : ∀ {ks : List KD} {vs : List SV} {es es1 : List Ent} {y : denL ks}, extL look ks vs es = some (y, es1) →
    (∃ de, es1 = es ++ de) ∧ ((∀ x ∈ es1, ∀ h w, x.src = some (h, w) → look' h = look h) → extL look' ks vs es = some (y, es1))
  | [], vs, es, es1, y, h => by
    cases vs <;> simp only [extL] at h <;> try (simp at h; done)
    have h0 := h
    simp only [Option.some.injEq, Prod.mk.injEq] at h
    exact ⟨⟨[], by simp [h.2]⟩, fun _ => by simpa only [extL] using h0⟩
  | b :: bs, vs, es, es1, y, h => by
    cases vs with
    | nil => simp [extL] at h
    | cons v vs =>
      simp only [extL] at h
      split at h
      · rename_i x es2 hx
        split at h
        · rename_i xs es3 hxs
          simp only [Option.some.injEq, Prod.mk.injEq] at h
          obtain ⟨rfl, rfl⟩ := h
          obtain ⟨⟨d1, k1⟩, l1⟩ := extK_loc (look' := look') hx
          obtain ⟨⟨d2, k2⟩, l2⟩ := extL_loc (look' := look') hxs
          refine ⟨⟨d1 ++ d2, by rw [k2, k1]; simp⟩, fun hq => ?_⟩
          simp only [extL, l1 fun z hz => hq z (by rw [k2]; simp [hz]), l2 hq]
        · simp at h
      · simp at h

/-! ### 3. A function is entered -/
def entHs (es : List Ent) : List Nat := es.filterMap fun x => x.src.map (·.1)
/-- The blocks of what the callee takes over. -/
def takenOver (Γ : Ctx) (es : List Ent) (b : Nat) : Prop := ∃ x o, x ∈ es ∧ x.own = true ∧ entPlace Γ x = some (b, o)

section
variable {P : Program} {w0 : World} {W0 : Nat → Prop}

theorem entered {Γ : Ctx} {w : World} (H : Heap w0 W0 Γ w) {shp : Shape} {args : List SV} {vals : List Value} {x : shp.den} {es : List Ent} (hx : extL Γ.objs shp.ks args [] = some (x, es)) (hok : entsOk es = true) (hv : SV.repL Γ args vals)
    (hshp : shp.map (·.1) = List.range shp.length) {N : Nat} (hN : shp.length ≤ N) {pv : Nat → Option Value} (hpv : ∀ i V, pv i = some V → vals[i]? = some V) :
    ∃ φ', Good w (takenOver Γ es) N pv (mkSt shp x) φ' { tmps := vals.toArray ++ Array.replicate (N - vals.toArray.size) undef, defers := [] } w := by
  have hlen : (bldL 0 shp.ks x []).2.length = es.length := (extL_pair (base := 0) (os := []) H.obj hx hv rfl).lens rfl
  have hla : args.length = shp.length := by
    have : ∀ {ks : List KD} {vs : List SV} {es es1 : List Ent} {y : denL ks}, extL Γ.objs ks vs es = some (y, es1) → vs.length = ks.length := by
      intro ks
      induction ks with
      | nil => intro vs es es1 y h; cases vs <;> simp [extL] at h ⊢
      | cons k ks ih =>
        intro vs es es1 y h
        cases vs with
        | nil => simp [extL] at h
        | cons v vs =>
          simp only [extL] at h
          split at h
          · split at h
            · rename_i h2
              simp [ih h2]
            · simp at h
          · simp at h
    have := this hx
    simpa using this
  have hlv : vals.length = shp.length := by rw [← repL_length hv, hla]
  let φ' : Nat → Option (Nat × Nat) := fun k => match es[k]? with | some e => entPlace Γ e | none => none
  obtain ⟨T, hr⟩ := extL_tgt (base := 0) H.obj hx hv (Γ' := ctx (mkSt shp x) φ' w) (fun k a ha => by rw [Nat.zero_add]; exact ha)
    (fun k e he => by rw [Nat.zero_add]; show (match es[k]? with | some e => entPlace Γ e | none => none) = _; rw [he])
    (fun k hk => by rw [Nat.zero_add]; show Nat.blt k _ = true; exact Nat.ble_eq_true_of_le hk) (fun b => (H.bs b).symm)
  have htmp : ∀ i V, vals[i]? = some V → (vals.toArray ++ Array.replicate (N - vals.toArray.size) undef).getD i undef = V := by
    intro i V h
    have hlt := (List.getElem?_eq_some_iff.1 h).1
    simp only [Array.getD_eq_getD_getElem?]
    rw [Array.getElem?_append_left (by simpa using hlt)]
    simp [h]
  refine ⟨φ', rfl, ?_, ?_, ?_, ?_⟩
  · simp
    omega
  · intro i V h
    exact htmp i V (hpv i V h)
  · intro i
    refine assocS_rep (a := { tmps := vals.toArray ++ Array.replicate (N - vals.toArray.size) undef, defers := [] }) ?_ i
    rw [hshp]
    have : ((List.range shp.length).map fun i => (vals.toArray ++ Array.replicate (N - vals.toArray.size) undef).getD i undef) = vals := by
      apply List.ext_getElem?
      intro i
      rw [List.getElem?_map]
      by_cases hi : i < shp.length
      · rw [List.getElem?_range hi]
        have hiv : i < vals.length := by omega
        rw [List.getElem?_eq_getElem hiv]
        simp only [Option.map_some]
        rw [htmp i vals[i] (List.getElem?_eq_getElem hiv)]
      · rw [List.getElem?_eq_none (by simp; omega), List.getElem?_eq_none (by omega)]
        rfl
    rw [this]
    exact hr
  · refine tgt_heap H T hok (fun h a ha => ⟨h, by rw [Nat.zero_add], ha⟩) rfl ⟨rfl, Nat.le_refl _⟩ rfl (Nat.le_refl _) (fun _ _ _ => rfl) (fun b cur T hb hw => ⟨cur, hw, rfl⟩) ?_
    intro k e b o he hown hp
    exact .inr ⟨e, o, List.mem_of_getElem? he, hown, hp⟩
end
end Go.Fx
