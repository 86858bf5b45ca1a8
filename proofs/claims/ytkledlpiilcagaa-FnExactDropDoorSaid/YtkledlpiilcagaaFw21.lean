/- The reflective executor, part 21: a function of the program, told by a Lean function, as a callee. -/
import Derived.Test.YtkledlpiilcagaaFw20
set_option linter.unusedVariables false
set_option linter.unusedSimpArgs false
set_option autoImplicit false
namespace Go.Fx
open Go

def cntB : BK → Nat
  | .row _ _ => 1
  | _ => 0
def cntBs : List BK → Nat
  | [] => 0
  | b :: bs => cntB b + cntBs bs
def cntK : KD → Nat
  | .one b => cntB b
  | .agg bs => cntBs bs
  | .box _ bs => 1 + cntBs bs
  | .arr _ _ => 1
  | .ints _ => 0
  | .fn _ bs => cntBs bs
  | .fna _ bs => cntBs bs
  | .pref _ _ => 0
  | .aref _ => 0
  | .cap k r => cntK k + cntK r
def cntL : List KD → Nat
  | [] => 0
  | k :: ks => cntK k + cntL ks

def ownB : BK → Bool
  | .row _ own => own
  | _ => true
def ownK : KD → Bool
  | .one b => ownB b
  | .agg bs => bs.all ownB
  | .box own bs => own && bs.all ownB
  | .arr _ own => own
  | .ints _ => true
  | .fn _ bs => bs.all ownB
  | .fna _ bs => bs.all ownB
  | .pref _ _ => true
  | .aref _ => true
  | .cap k r => ownK k && ownK r

theorem bldB_len (base : Nat) (b : BK) (x : b.den) (os : List AO) : (bldB base b x os).2.length = os.length + cntB b := by
  cases b <;> simp [bldB, cntB]
theorem bldBs_len (base : Nat) : ∀ (bs : List BK) (x : denB bs) (os : List AO), (bldBs base bs x os).2.length = os.length + cntBs bs
  | [], x, os => rfl
  | b :: bs, x, os => by
    simp only [bldBs, cntBs]
    rw [bldBs_len base bs, bldB_len]
    omega
theorem bldK_len (base : Nat) (k : KD) (x : k.den) (os : List AO) : (bldK base k x os).2.length = os.length + cntK k := by
  induction k generalizing os with
  | cap k r ihk ihr => simp only [bldK, cntK, ihr, ihk, Nat.add_assoc]
  | _ => simp only [bldK, cntK, bldB_len, bldBs_len, List.length_set, List.length_append, List.length_singleton, Nat.add_zero, Nat.add_assoc]
theorem bldL_len (base : Nat) : ∀ (ks : List KD) (x : denL ks) (os : List AO), (bldL base ks x os).2.length = os.length + cntL ks
  | [], x, os => rfl
  | k :: ks, x, os => by
    simp only [bldL, cntL]
    rw [bldL_len base ks, bldK_len]
    omega

theorem extB_own {look : Nat → Option AO} {b : BK} {v : SV} {es es1 : List Ent} {y : b.den} (h : extB look b v es = some (y, es1)) (ho : ownB b = true) (hes : ∀ x ∈ es, x.own = true) : ∀ x ∈ es1, x.own = true := by
  cases b with
  | row e own =>
    simp only [ownB] at ho
    subst ho
    cases v <;> simp only [extB] at h <;> try (simp at h; done)
    · simp only [Option.some.injEq, Prod.mk.injEq] at h
      obtain ⟨_, rfl⟩ := h
      intro x hx
      rcases List.mem_append.1 hx with hx | hx
      · exact hes x hx
      · simp at hx; subst hx; rfl
    · split at h
      · split at h
        · split at h
          · simp at h
          · simp only [Option.some.injEq, Prod.mk.injEq] at h
            obtain ⟨_, rfl⟩ := h
            intro x hx
            rcases List.mem_append.1 hx with hx | hx
            · exact hes x hx
            · simp at hx; subst hx; rfl
        · simp at h
      · simp at h
  | ref i =>
    cases v <;> simp only [extB] at h <;> try (simp at h; done)
    rename_i hh win
    cases win <;> simp only [extB] at h <;> try (simp at h; done)
    split at h
    · split at h
      · simp only [Option.some.injEq, Prod.mk.injEq] at h
        rw [← h.2]; exact hes
      · simp at h
    · simp at h
  | part i =>
    cases v <;> simp only [extB] at h <;> try (simp at h; done)
    rename_i hh win
    cases win <;> simp only [extB] at h <;> try (simp at h; done)
    rename_i q
    split at h
    · split at h
      · simp only [Option.some.injEq, Prod.mk.injEq] at h
        rw [← h.2]; exact hes
      · simp at h
    · simp at h
  | lit c =>
    have h' : (match litEq c v with | true => (some ((), es) : Option (Unit × List Ent)) | false => none) = some (y, es1) := by
      cases v <;> (simp only [extB] at h; exact h)
    split at h'
    · simp only [Option.some.injEq, Prod.mk.injEq] at h'
      rw [← h'.2]; exact hes
    · simp at h'
  | int k =>
    cases v <;> simp only [extB] at h <;> try (simp at h; done)
    split at h
    · simp only [Option.some.injEq, Prod.mk.injEq] at h
      rw [← h.2]; exact hes
    · simp at h
  | bool =>
    cases v <;> simp only [extB] at h <;> try (simp at h; done)
    simp only [Option.some.injEq, Prod.mk.injEq] at h
    rw [← h.2]; exact hes
  | str =>
    cases v <;> simp only [extB] at h <;> try (simp at h; done)
    simp only [Option.some.injEq, Prod.mk.injEq] at h
    rw [← h.2]; exact hes
theorem extBs_own {look : Nat → Option AO} : ∀ {bs : List BK} {vs : List SV} {es es1 : List Ent} {y : denB bs}, extBs look bs vs es = some (y, es1) → bs.all ownB = true → (∀ x ∈ es, x.own = true) → ∀ x ∈ es1, x.own = true
  | [], vs, es, es1, y, h, ho, hes => by
    cases vs <;> simp only [extBs] at h <;> try (simp at h; done)
    simp only [Option.some.injEq, Prod.mk.injEq] at h
    rw [← h.2]; exact hes
  | b :: bs, vs, es, es1, y, h, ho, hes => by
    cases vs with
    | nil => simp [extBs] at h
    | cons v vs =>
      simp only [extBs] at h
      simp only [List.all_cons, Bool.and_eq_true] at ho
      split at h
      · rename_i x es2 hx
        split at h
        · rename_i xs es3 hxs
          simp only [Option.some.injEq, Prod.mk.injEq] at h
          rw [← h.2]
          exact extBs_own hxs ho.2 (extB_own hx ho.1 hes)
        · simp at h
      · simp at h
theorem extK_own {look : Nat → Option AO} {k : KD} {v : SV} {es es1 : List Ent} {y : k.den} (h : extK look k v es = some (y, es1)) (ho : ownK k = true) (hes : ∀ x ∈ es, x.own = true) : ∀ x ∈ es1, x.own = true := by
  induction k generalizing v es es1 with
  | one b => exact extB_own (by simpa only [extK] using h) ho hes
  | agg bs =>
    cases v <;> simp only [extK] at h <;> try (simp at h; done)
    exact extBs_own h ho hes
  | box own bs =>
    cases v <;> try (simp [extK] at h; done)
    rename_i hh i
    simp only [ownK, Bool.and_eq_true] at ho
    cases i with
    | succ i => simp only [extK] at h; simp at h
    | zero =>
      simp only [extK] at h
      split at h
      · split at h
        · simp at h
        · refine extBs_own h ho.2 fun x hx => ?_
          rcases List.mem_append.1 hx with hx | hx
          · exact hes x hx
          · simp at hx; subst hx; exact ho.1
      · simp at h
  | arr n own =>
    cases v <;> try (simp [extK] at h; done)
    rename_i hh i j
    simp only [ownK] at ho
    cases i with
    | succ i => simp only [extK] at h; simp at h
    | zero =>
      cases j with
      | succ j => simp only [extK] at h; simp at h
      | zero =>
        simp only [extK] at h
        split at h
        · split at h
          · simp only [Option.some.injEq, Prod.mk.injEq] at h
            rw [← h.2]
            intro x hx
            rcases List.mem_append.1 hx with hx | hx
            · exact hes x hx
            · simp at hx; subst hx; exact ho
          · simp at h
        · simp at h
  | ints n =>
    cases v <;> simp only [extK] at h <;> try (simp at h; done)
    split at h
    · simp only [Option.some.injEq, Prod.mk.injEq] at h
      rw [← h.2]; exact hes
    · simp at h
  | fn f bs =>
    cases v <;> simp only [extK] at h <;> try (simp at h; done)
    split at h
    · exact extBs_own h ho hes
    · simp at h
  | fna f bs =>
    cases v <;> try (simp only [extK] at h; simp at h; done)
    rename_i g caps
    cases caps with
    | nil => simp [extK] at h
    | cons c caps =>
      cases caps with
      | cons c2 caps => cases c <;> (simp only [extK] at h; simp at h)
      | nil =>
        cases c <;> try (simp only [extK] at h; simp at h; done)
        simp only [extK] at h
        split at h
        · exact extBs_own h ho hes
        · simp at h
  | pref i off =>
    cases v <;> simp only [extK] at h <;> try (simp at h; done)
    split at h
    · split at h
      · simp only [Option.some.injEq, Prod.mk.injEq] at h
        rw [← h.2]; exact hes
      · simp at h
    · simp at h
  | aref i =>
    cases v <;> try (simp [extK] at h; done)
    rename_i hh a b
    cases a with
    | succ a => simp only [extK] at h; simp at h
    | zero =>
      cases b with
      | succ b => simp only [extK] at h; simp at h
      | zero =>
        simp only [extK] at h
        split at h
        · split at h
          · simp only [Option.some.injEq, Prod.mk.injEq] at h
            rw [← h.2]; exact hes
          · simp at h
        · simp at h
  | cap k r ihk ihr =>
    cases v <;> try (simp only [extK] at h; simp at h; done)
    rename_i g caps
    cases caps with
    | nil => simp [extK] at h
    | cons c cs =>
      simp only [extK] at h
      simp only [ownK, Bool.and_eq_true] at ho
      split at h
      · rename_i x es2 hx
        split at h
        · rename_i xs es3 hxs
          simp only [Option.some.injEq, Prod.mk.injEq] at h
          rw [← h.2]
          exact ihr hxs ho.2 (ihk hx ho.1 hes)
        · simp at h
      · simp at h
theorem extL_own {look : Nat → Option AO} : ∀ {ks : List KD} {vs : List SV} {es es1 : List Ent} {y : denL ks}, extL look ks vs es = some (y, es1) → ks.all ownK = true → (∀ x ∈ es, x.own = true) → ∀ x ∈ es1, x.own = true
  | [], vs, es, es1, y, h, ho, hes => by
    cases vs <;> simp only [extL] at h <;> try (simp at h; done)
    simp only [Option.some.injEq, Prod.mk.injEq] at h
    rw [← h.2]; exact hes
  | b :: bs, vs, es, es1, y, h, ho, hes => by
    cases vs with
    | nil => simp [extL] at h
    | cons v vs =>
      simp only [extL] at h
      simp only [List.all_cons, Bool.and_eq_true] at ho
      split at h
      · rename_i x es2 hx
        split at h
        · rename_i xs es3 hxs
          simp only [Option.some.injEq, Prod.mk.injEq] at h
          rw [← h.2]
          exact extL_own hxs ho.2 (extK_own hx ho.1 hes)
        · simp at h
      · simp at h

/-! ### 1. The callee -/
def killL : List Ent → List (Nat × Option AO)
  | [] => []
  | ⟨some (h, _), true⟩ :: r => (h, none) :: killL r
  | _ :: r => killL r
def newL : Nat → List AO → List (Nat × Option AO)
  | _, [] => []
  | b, o :: os => (b, some o) :: newL (b + 1) os
def newOk (seen : Nat → Bool) : Nat → Nat → Bool
  | _, 0 => true
  | b, n + 1 => !seen b && newOk seen (b + 1) n

def mkFn {R : Type} (shp : Shape) (outs : List KD) (F : shp.den → Option R) (out : R → denL outs) : PFn where
  run := fun args look seen d K =>
    match extL look shp.ks args [] with
    | some (x, es) => match entsOk es && newOk seen (nm d 0) (cntL outs) with
      | true => (F x).bind fun r => K ⟨valOf (bldL (nm d 0) outs (out r) []).1, killL es ++ newL (nm d 0) (bldL (nm d 0) outs (out r) []).2, entHs es⟩
      | false => none
    | none => none

def finOf {R : Type} (ty : Ty) (results : List ResultVar) (outs : List KD) (into : denL outs → R) (st : St) : Option R :=
  match resSV ty results st with
  | some vs => match extL st.objs outs vs [] with
    | some (y, es) => match entsOk es with
      | true => some (into y)
      | false => none
    | none => none
  | none => none

theorem killL_mem : ∀ {es : List Ent} {h : Nat}, h ∈ (killL es).map (·.1) ↔ ∃ w, (⟨some (h, w), true⟩ : Ent) ∈ es
  | [], h => by simp [killL]
  | ⟨some (k, w), true⟩ :: r, h => by
    simp only [killL, List.map_cons, List.mem_cons, killL_mem (es := r)]
    constructor
    · rintro (rfl | ⟨w', hw⟩)
      · exact ⟨w, .inl rfl⟩
      · exact ⟨w', .inr hw⟩
    · rintro ⟨w', hw | hw⟩
      · simp only [Ent.mk.injEq, Option.some.injEq, Prod.mk.injEq, and_true] at hw
        exact .inl hw.1
      · exact .inr ⟨w', hw⟩
  | ⟨some (k, w), false⟩ :: r, h => by
    simp only [killL, killL_mem (es := r), List.mem_cons]
    constructor
    · rintro ⟨w', hw⟩; exact ⟨w', .inr hw⟩
    · rintro ⟨w', hw | hw⟩
      · simp at hw
      · exact ⟨w', hw⟩
  | ⟨none, o⟩ :: r, h => by
    have : killL (⟨none, o⟩ :: r) = killL r := by cases o <;> rfl
    rw [this]
    simp only [killL_mem (es := r), List.mem_cons]
    constructor
    · rintro ⟨w', hw⟩; exact ⟨w', .inr hw⟩
    · rintro ⟨w', hw | hw⟩
      · simp at hw
      · exact ⟨w', hw⟩
theorem killL_none : ∀ (es : List Ent) (f : Nat → Option AO) (h : Nat), h ∈ (killL es).map (·.1) → wrObjs (killL es) f h = none := by
  have key : ∀ (l : List (Nat × Option AO)), (∀ p ∈ l, p.2 = none) → ∀ (f : Nat → Option AO) (h : Nat), h ∈ l.map (·.1) → wrObjs l f h = none := by
    intro l
    induction l with
    | nil => intro _ f h hh; simp at hh
    | cons p l ih =>
      intro hl f h hh
      obtain ⟨k, a⟩ := p
      have ha : a = none := hl (k, a) (by simp)
      subst ha
      simp only [wrObjs]
      by_cases hm : h ∈ l.map (·.1)
      · exact ih (fun p hp => hl p (by simp [hp])) _ h hm
      · rw [wrObjs_ne l _ h hm]
        simp only [List.map_cons, List.mem_cons] at hh
        rcases hh with rfl | hh
        · exact upd_same _ _ _
        · exact absurd hh hm
  intro es
  refine key _ ?_
  induction es with
  | nil => simp [killL]
  | cons x es ih =>
    intro p hp
    obtain ⟨src, o⟩ := x
    cases src with
    | none =>
      have : killL (⟨none, o⟩ :: es) = killL es := by cases o <;> rfl
      rw [this] at hp
      exact ih p hp
    | some q =>
      obtain ⟨k, w⟩ := q
      cases o with
      | false => exact ih p hp
      | true =>
        simp only [killL, List.mem_cons] at hp
        rcases hp with rfl | hp
        · rfl
        · exact ih p hp
theorem wrObjs_append : ∀ (l m : List (Nat × Option AO)) (f : Nat → Option AO), wrObjs (l ++ m) f = wrObjs m (wrObjs l f)
  | [], m, f => rfl
  | (h, a) :: l, m, f => by simp only [List.cons_append, wrObjs]; rw [wrObjs_append l m]
theorem newL_keys : ∀ {os : List AO} {b h : Nat}, h ∈ (newL b os).map (·.1) ↔ b ≤ h ∧ h < b + os.length
  | [], b, h => by
    simp only [newL, List.map_nil, List.not_mem_nil, List.length_nil, Nat.add_zero, false_iff]
    omega
  | o :: os, b, h => by
    simp only [newL, List.map_cons, List.mem_cons, newL_keys (os := os), List.length_cons]
    omega
theorem newL_at : ∀ {os : List AO} {b k : Nat} {a : AO} (f : Nat → Option AO), os[k]? = some a → wrObjs (newL b os) f (b + k) = some a
  | [], b, k, a, f, h => by simp at h
  | o :: os, b, k, a, f, h => by
    simp only [newL, wrObjs]
    cases k with
    | zero =>
      simp at h
      subst h
      rw [wrObjs_ne]
      · exact upd_same _ _ _
      · rw [newL_keys]; omega
    | succ k =>
      have := newL_at (os := os) (b := b + 1) (k := k) (upd f b (some o)) (by simpa using h)
      rw [show b + 1 + k = b + (k + 1) by omega] at this
      exact this
theorem wrSeen_mem : ∀ (l : List (Nat × Option AO)) (f : Nat → Bool) (h : Nat), h ∈ l.map (·.1) → wrSeen l f h = true
  | (k, a) :: l, f, h, hh => by
    simp only [wrSeen]
    by_cases hm : h ∈ l.map (·.1)
    · exact wrSeen_mem l _ h hm
    · rw [wrSeen_ne l _ h hm]
      simp only [List.map_cons, List.mem_cons] at hh
      rcases hh with rfl | hh
      · exact upd_same _ _ _
      · exact absurd hh hm
theorem wrSeen_keep : ∀ (l : List (Nat × Option AO)) (f : Nat → Bool) (h : Nat), f h = true → wrSeen l f h = true := by
  intro l f h hf
  by_cases hm : h ∈ l.map (·.1)
  · exact wrSeen_mem l f h hm
  · rw [wrSeen_ne l f h hm]; exact hf
theorem newOk_spec {seen : Nat → Bool} : ∀ {n b : Nat}, newOk seen b n = true → ∀ k, k < n → seen (b + k) = false
  | 0, b, h, k, hk => by omega
  | n + 1, b, h, k, hk => by
    simp only [newOk, Bool.and_eq_true, Bool.not_eq_true'] at h
    cases k with
    | zero => exact h.1
    | succ k =>
      have := newOk_spec h.2 k (by omega)
      rw [show b + 1 + k = b + (k + 1) by omega] at this
      exact this
theorem newOk_loc {seen seen' : Nat → Bool} : ∀ {n b : Nat}, (∀ k, k < n → seen' (b + k) = seen (b + k)) → newOk seen' b n = newOk seen b n
  | 0, b, h => rfl
  | n + 1, b, h => by
    have a1 := newOk_loc (seen := seen) (seen' := seen') (n := n) (b := b + 1) fun k hk => by
      have := h (k + 1) (by omega)
      rw [show b + (k + 1) = b + 1 + k by omega] at this
      exact this
    have a2 := h 0 (by omega)
    simp only [Nat.add_zero] at a2
    simp only [newOk, a1, a2]

theorem entHs_mem {es : List Ent} {x : Ent} {h : Nat} {w : Win} (hx : x ∈ es) (hs : x.src = some (h, w)) : h ∈ entHs es :=
  List.mem_filterMap.2 ⟨x, hx, by rw [hs]; rfl⟩

section
variable {P : Program} {R : Type} {shp : Shape} {outs : List KD} {F : shp.den → Option R} {out : R → denL outs}

theorem mkFn_nat : (mkFn shp outs F out).Natural := by
  intro β args look seen d K
  simp only [mkFn]
  split
  · split
    · rw [Option.bind_assoc]
      rfl
    · rfl
  · rfl

theorem mkFn_run {args : List SV} {look : Nat → Option AO} {seen : Nat → Bool} {d : Nat} {e : Eff} (h : (mkFn shp outs F out).run args look seen d some = some e) :
    ∃ x es r, extL look shp.ks args [] = some (x, es) ∧ entsOk es = true ∧ newOk seen (nm d 0) (cntL outs) = true ∧ F x = some r ∧
      e = ⟨valOf (bldL (nm d 0) outs (out r) []).1, killL es ++ newL (nm d 0) (bldL (nm d 0) outs (out r) []).2, entHs es⟩ := by
  simp only [mkFn] at h
  split at h
  · rename_i x es hx
    split at h
    · rename_i hc
      simp only [Bool.and_eq_true] at hc
      cases hF : F x with
      | none => simp [hF] at h
      | some r =>
        simp only [hF, Option.bind_some, Option.some.injEq] at h
        exact ⟨x, es, r, hx, hc.1, hc.2, hF, h.symm⟩
    · simp at h
  · simp at h

theorem mkFn_loc : (mkFn shp outs F out).Local := by
  refine ⟨fun args look look' seen seen' d ef h S => ?_⟩
  obtain ⟨x, es, r, h1, h2, h3, h4, rfl⟩ := mkFn_run h
  have e1 : extL look' shp.ks args [] = some (x, es) := (extL_loc h1).2 fun y hy hh w hs => S.look hh (List.mem_append_left _ (entHs_mem hy hs))
  have e2 : newOk seen' (nm d 0) (cntL outs) = newOk seen (nm d 0) (cntL outs) := newOk_loc fun k hk => S.seen _ (by
    simp only [List.map_append, List.mem_append]
    right
    rw [newL_keys, bldL_len]
    simp only [List.length_nil, Nat.zero_add]
    omega)
  simp only [mkFn, e1, h2, e2, h3, Bool.and_self, h4, Option.bind_some]

/-- What the caller has after the call. -/
theorem returned_ok {w0 : World} {W0 : Nat → Prop} {objs : Nat → Option AO} {φ : Nat → Option (Nat × Nat)} {seen : Nat → Bool} {w : World} (H : Heap w0 W0 (G objs φ seen w) w)
    {ks : List KD} {args : List SV} {vals : List Value} {x : denL ks} {es : List Ent} (hx : extL objs ks args [] = some (x, es)) (hv : SV.repL (G objs φ seen w) args vals)
    {d : Nat} (hnew : newOk seen (nm d 0) (cntL outs) = true) (hown : outs.all ownK = true)
    {Γ' : Ctx} {w' : World} (H' : Heap w (takenOver (G objs φ seen w) es) Γ' w') {vs : List SV} {us : List Value} {y : denL outs} {es' : List Ent} (hy : extL Γ'.objs outs vs [] = some (y, es')) (hok : entsOk es' = true)
    (hus : SV.repL Γ' vs us) {t : List Nat} :
    ∃ φ'', let e : Eff := ⟨valOf (bldL (nm d 0) outs y []).1, killL es ++ newL (nm d 0) (bldL (nm d 0) outs y []).2, t⟩
      e.val.rep (Af objs seen e φ'' w') (valC us) ∧ Heap w0 W0 (Af objs seen e φ'' w') w' ∧ (G objs φ seen w).le (Af objs seen e φ'' w') := by
  generalize hos : (bldL (nm d 0) outs y []).2 = os
  have hol : os.length = cntL outs := by rw [← hos, bldL_len]; simp
  have hlen : os.length = es'.length := by rw [← hos]; exact (extL_pair (base := nm d 0) (os := []) H'.obj hy hus rfl).lens rfl
  generalize hb : nm d 0 = base at *
  have hfresh : ∀ k, k < os.length → seen (base + k) = false := fun k hk => newOk_spec hnew k (by omega)
  let φ'' : Nat → Option (Nat × Nat) := fun h => if base ≤ h ∧ h < base + os.length then (match es'[h - base]? with | some e => entPlace Γ' e | none => none) else φ h
  refine ⟨φ'', ?_⟩
  intro e
  -- what the context holds
  have o_new : ∀ k a, os[k]? = some a → (Af objs seen e φ'' w').objs (base + k) = some a := by
    intro k a hk
    show wrObjs (killL es ++ newL base os) objs (base + k) = some a
    rw [wrObjs_append]
    exact newL_at _ hk
  have o_kill : ∀ h, ¬ (base ≤ h ∧ h < base + os.length) → (∃ w, (⟨some (h, w), true⟩ : Ent) ∈ es) → (Af objs seen e φ'' w').objs h = none := by
    intro h hn hk
    show wrObjs (killL es ++ newL base os) objs h = none
    rw [wrObjs_append, wrObjs_ne _ _ h (by rw [newL_keys]; exact hn)]
    exact killL_none es objs h (killL_mem.2 hk)
  have o_old : ∀ h, ¬ (base ≤ h ∧ h < base + os.length) → ¬ (∃ w, (⟨some (h, w), true⟩ : Ent) ∈ es) → (Af objs seen e φ'' w').objs h = objs h := by
    intro h hn hk
    show wrObjs (killL es ++ newL base os) objs h = objs h
    rw [wrObjs_append, wrObjs_ne _ _ h (by rw [newL_keys]; exact hn), wrObjs_ne _ _ h (by rw [killL_mem]; exact hk)]
  have p_old : ∀ h, ¬ (base ≤ h ∧ h < base + os.length) → (Af objs seen e φ'' w').φ h = φ h := by
    intro h hn
    show (if base ≤ h ∧ h < base + os.length then _ else _) = _
    rw [if_neg hn]
  have s_old : ∀ h, seen h = true → ¬ (base ≤ h ∧ h < base + os.length) := by
    intro h hs hn
    have := hfresh (h - base) (by omega)
    rw [show base + (h - base) = h by omega, hs] at this
    cases this
  obtain ⟨T, hr⟩ := extL_tgt (base := base) H'.obj hy hus (Γ' := Af objs seen e φ'' w') (fun k a hk => o_new k a (by rw [← hos]; exact hk))
    (fun k x hk => by
      have hlt := (List.getElem?_eq_some_iff.1 hk).1
      show (if base ≤ base + k ∧ base + k < base + os.length then (match es'[base + k - base]? with | some e => entPlace Γ' e | none => none) else φ (base + k)) = _
      rw [if_pos (by omega), show base + k - base = k by omega, hk])
    (fun k hk => by
      rw [hos] at hk
      show wrSeen (killL es ++ newL base os) seen (base + k) = true
      refine wrSeen_mem _ _ _ ?_
      simp only [List.map_append, List.mem_append]
      right
      rw [newL_keys]
      omega)
    (fun b => (H'.bs b).symm)
  rw [hos] at T
  have howns := extL_own hy hown (by simp)
  -- the entries that are taken over
  have tk : ∀ z ∈ es, z.own = true → ∀ b o, entPlace (G objs φ seen w) z = some (b, o) → ∃ h w a0 o', z.src = some (h, w) ∧ objs h = some a0 ∧ φ h = some (b, o') ∧ a0.ro = false := by
    intro z hz ho b o hp
    have p := extL_pair (base := 0) (os := []) H.obj hx hv rfl
    have hl := p.lens rfl
    obtain ⟨k, hk⟩ := List.getElem?_of_mem hz
    have hlt := (List.getElem?_eq_some_iff.1 hk).1
    have om := (p.om []).2 k z _ (Nat.zero_le _) hk (List.getElem?_eq_getElem (by omega))
    obtain ⟨h1, w1, a1, o1, q1, q2, q3, q4⟩ := (OM_src om).2 b o hp
    exact ⟨h1, w1, a1, o1, q1, q2, q3, q4 ho⟩
  -- old objects that stay keep their blocks
  have stay : ∀ h a, objs h = some a → ¬ (∃ w, (⟨some (h, w), true⟩ : Ent) ∈ es) → ∀ b o, φ h = some (b, o) → ¬ takenOver (G objs φ seen w) es b := by
    rintro h a ha hk b o hp ⟨z, o', hz, ho, hpz⟩
    obtain ⟨h1, w1, a1, o1, q1, q2, q3, q4⟩ := tk z hz ho b o' hpz
    by_cases hh : h = h1
    · subst hh
      refine hk ⟨w1, ?_⟩
      have : z = ⟨some (h, w1), true⟩ := by
        cases z
        simp only at q1 ho
        rw [q1, ho]
      rw [← this]
      exact hz
    · have := H.sep h h1 a a1 b o o1 ha q2 hp q3 hh
      rw [q4] at this
      cases this.2
  have blk : ∀ h a, objs h = some a → ¬ (∃ w, (⟨some (h, w), true⟩ : Ent) ∈ es) → ∀ b o, φ h = some (b, o) → w'.heap[b]? = w.heap[b]? := fun h a ha hk b o hp => H'.keep b (H.lt h a b o ha hp) (stay h a ha hk b o hp)
  have hle : (G objs φ seen w).le (Af objs seen e φ'' w') := by
    refine le_of (fun h hs => wrSeen_keep _ _ _ hs) (fun h hs => ?_)
    have hn := s_old h hs
    by_cases hk : ∃ w, (⟨some (h, w), true⟩ : Ent) ∈ es
    · exact .inl (o_kill h hn hk)
    · rw [o_old h hn hk]
      cases ho : objs h with
      | none => exact .inl rfl
      | some a =>
        refine .inr ⟨a, a, ho, rfl, AO.like.refl a, p_old h hn, fun b o hp => ?_⟩
        show bsOf w' b = bsOf w b
        unfold bsOf
        rw [blk h a ho hk b o hp]
  have classify : ∀ h a, (Af objs seen e φ'' w').objs h = some a → (∃ k, h = base + k ∧ os[k]? = some a) ∨ (¬ (base ≤ h ∧ h < base + os.length) ∧ ¬ (∃ w, (⟨some (h, w), true⟩ : Ent) ∈ es) ∧ objs h = some a) := by
    intro h a ha
    by_cases hn : base ≤ h ∧ h < base + os.length
    · left
      refine ⟨h - base, by omega, ?_⟩
      have hlt : h - base < os.length := by omega
      have h1 := o_new (h - base) _ (List.getElem?_eq_getElem hlt)
      rw [show base + (h - base) = h by omega, ha] at h1
      rw [List.getElem?_eq_getElem hlt]
      exact h1.symm
    · right
      by_cases hk : ∃ w, (⟨some (h, w), true⟩ : Ent) ∈ es
      · rw [o_kill h hn hk] at ha
        cases ha
      · rw [o_old h hn hk] at ha
        exact ⟨hn, hk, ha⟩
  -- new objects
  have fresh : ∀ k a b o, os[k]? = some a → (Af objs seen e φ'' w').φ (base + k) = some (b, o) → ∃ z h1 w1 a1 o1, es'[k]? = some z ∧ z.src = some (h1, w1) ∧ Γ'.objs h1 = some a1 ∧ Γ'.φ h1 = some (b, o1) ∧ a1.ro = false ∧ a.ro = false := by
    intro k a b o hk hp
    have hlt : k < es'.length := by
      have := (List.getElem?_eq_some_iff.1 hk).1
      omega
    have hz := List.getElem?_eq_getElem hlt
    have om := T.om k _ a hz hk
    rw [T.φ k _ hz] at hp
    obtain ⟨h1, w1, a1, o1, q1, q2, q3, q4⟩ := (OM_src om).2 b o hp
    have ho := howns es'[k] (List.mem_of_getElem? hz)
    exact ⟨_, h1, w1, a1, o1, hz, q1, q2, q3, q4 ho, by rw [(OM_src om).1, ho]; rfl⟩
  refine ⟨valOf_rep hr, ⟨H'.os.trans H.os, ⟨H'.tape.1.trans H.tape.1, Nat.le_trans H.tape.2 H'.tape.2⟩, H'.output.trans H.output, Nat.le_trans H.size H'.size, ?_, ?_, fun _ => rfl, ?_, ?_, ?_, ?_, ?_⟩, hle⟩
  · intro b hbl hW
    have hnt : ¬ takenOver (G objs φ seen w) es b := by
      rintro ⟨z, o', hz, ho, hpz⟩
      obtain ⟨h1, w1, a1, o1, q1, q2, q3, q4⟩ := tk z hz ho b o' hpz
      rcases H.own h1 a1 b o1 q2 q4 q3 with h | h
      · omega
      · exact hW h
    rw [H'.keep b (Nat.lt_of_lt_of_le hbl H.size) hnt, H.keep b hbl hW]
  · intro b cur T hbl hw
    obtain ⟨c1, k1, k2⟩ := H.kind b cur T hbl hw
    obtain ⟨c2, k3, k4⟩ := H'.kind b c1 T (Nat.lt_of_lt_of_le hbl H.size) k1
    exact ⟨c2, k3, k4.trans k2⟩
  · intro h a ha
    rcases classify h a ha with ⟨k, rfl, hk⟩ | ⟨hn, hkl, ho⟩
    · have hlt : k < es'.length := by
        have := (List.getElem?_eq_some_iff.1 hk).1
        omega
      exact OM_rep T H'.obj (List.getElem?_eq_getElem hlt) hk
    · exact oRep_le hle (p_old h hn) (fun b o hp => blk h a ho hkl b o hp) (H.obj h a ho)
  · intro h a ha
    rcases classify h a ha with ⟨k, rfl, hk⟩ | ⟨hn, hkl, ho⟩
    · exact T.seen k (List.getElem?_eq_some_iff.1 hk).1
    · exact hle.seen h (H.sn h a ho)
  · intro h a b o ha hp
    rcases classify h a ha with ⟨k, rfl, hk⟩ | ⟨hn, hkl, ho⟩
    · obtain ⟨z, h1, w1, a1, o1, _, _, q2, q3, _, _⟩ := fresh k a b o hk hp
      exact H'.lt h1 a1 b o1 q2 q3
    · rw [p_old h hn] at hp
      exact Nat.lt_of_lt_of_le (H.lt h a b o ho hp) H'.size
  · have mixed : ∀ k a b o, os[k]? = some a → (Af objs seen e φ'' w').φ (base + k) = some (b, o) → ∀ h a' o', ¬ (base ≤ h ∧ h < base + os.length) → ¬ (∃ w, (⟨some (h, w), true⟩ : Ent) ∈ es) → objs h = some a' → φ h = some (b, o') → False := by
      intro k a b o hk hp h a' o' hn hkl ho hp'
      obtain ⟨z, h1, w1, a1, o1, _, _, q2, q3, q4, _⟩ := fresh k a b o hk hp
      have hlt := H.lt h a' b o' ho hp'
      rcases H'.own h1 a1 b o1 q2 q4 q3 with hge | htk
      · omega
      · exact stay h a' ho hkl b o' hp' htk
    intro h h' a a' b o o' ha ha' hp hp' hne
    rcases classify h a ha with ⟨k, rfl, hk⟩ | ⟨hn, hkl, ho⟩
    · rcases classify h' a' ha' with ⟨k', rfl, hk'⟩ | ⟨hn', hkl', ho'⟩
      · obtain ⟨z, h1, w1, a1, o1, z1, z2, q2, q3, q4, q5⟩ := fresh k a b o hk hp
        obtain ⟨z', h1', w1', a1', o1', z1', z2', q2', q3', q4', q5'⟩ := fresh k' a' b o' hk' hp'
        have hkk : k ≠ k' := fun e => hne (by rw [e])
        exfalso
        by_cases hh : h1 = h1'
        · subst hh
          have hap : z.apart z' = true ∨ z'.apart z = true := by
            rcases Nat.lt_or_ge k k' with h | h
            · exact .inl (entsOk_spec hok k k' z z' h z1 z1')
            · exact .inr (entsOk_spec hok k' k z' z (by omega) z1' z1)
          have e1 := howns z (List.mem_of_getElem? z1)
          have e2 := howns z' (List.mem_of_getElem? z1')
          unfold Ent.apart at hap
          rw [z2, z2', e1, e2] at hap
          simp at hap
        · have := H'.sep h1 h1' a1 a1' b o1 o1' q2 q2' q3 q3' hh
          rw [q4] at this
          cases this.1
      · rw [p_old h' hn'] at hp'
        exact (mixed k a b o hk hp h' a' o' hn' hkl' ho' hp').elim
    · rw [p_old h hn] at hp
      rcases classify h' a' ha' with ⟨k', rfl, hk'⟩ | ⟨hn', hkl', ho'⟩
      · exact (mixed k' a' b o' hk' hp' h a o hn hkl ho hp).elim
      · rw [p_old h' hn'] at hp'
        exact H.sep h h' a a' b o o' ho ho' hp hp' hne
  · intro h a b o ha hro hp
    rcases classify h a ha with ⟨k, rfl, hk⟩ | ⟨hn, hkl, ho⟩
    · obtain ⟨z, h1, w1, a1, o1, _, _, q2, q3, q4, _⟩ := fresh k a b o hk hp
      rcases H'.own h1 a1 b o1 q2 q4 q3 with hge | ⟨z', o', hz, hoz, hpz⟩
      · exact .inl (Nat.le_trans H.size hge)
      · obtain ⟨h2, w2, a2, o2, r1, r2, r3, r4⟩ := tk z' hz hoz b o' hpz
        exact H.own h2 a2 b o2 r2 r4 r3
    · rw [p_old h hn] at hp
      exact H.own h a b o ho hro hp

/-- A function of the program that is told by a Lean function. -/
theorem mkFn_ok {g : Nat} {fn : Func} {code : Code} (hf : P.funcs[g]? = some fn) (hb : fn.body = some code) (hname : (fn.name == "runtime.NumGoroutine") = false)
    {C : Cfg} {Φ : Nat → PFn} {Λ : Nat → (St → Option R) → St → Option R} {into : denL outs → R}
    (hT : TyOk P C.ty) (hΦ : ∀ g, (Φ g).Ok P g) (hN : C.N = fn.ntmps) (hshp : shp.map (·.1) = List.range shp.length) (hsl : shp.length ≤ fn.ntmps) (hown : outs.all ownK = true)
    (hoi : ∀ y, out (into y) = y)
    (hL : LoopsOk C Φ Λ (finOf C.ty fn.results.toList outs into) (loopsOf C.blk code))
    (hF : ∀ x r, F x = some r → exK C Φ Λ (finOf C.ty fn.results.toList outs into) code (fun _ _ => none) (mkSt shp x) (finOf C.ty fn.results.toList outs into) = some r) :
    (mkFn shp outs F out).Ok P g where
  nat := mkFn_nat
  loc := mkFn_loc
  calls := by
    intro w0 W0 objs φ seen w args vals d e h H hv
    obtain ⟨x, es, r, h1, h2, h3, h4, rfl⟩ := mkFn_run h
    obtain ⟨φ1, g1⟩ := entered H h1 h2 hv hshp (N := C.N) (by rw [hN]; exact hsl) (pv := fun _ => none) (fun i V hi => by cases hi)
    refine ⟨fn, code, hf, hb, hname, calls_of_wp hf hb ?_⟩
    have fin : ∀ st' φ' a' w', finOf C.ty fn.results.toList outs into st' = some r → Good w (takenOver (G objs φ seen w) es) C.N (fun _ => none) st' φ' a' w' → a'.defers = [] ∧ ∃ v, (results fn a'.tmps).run P w' = .ok v w' ∧
        ∃ φ'', let e : Eff := ⟨valOf (bldL (nm d 0) outs (out r) []).1, killL es ++ newL (nm d 0) (bldL (nm d 0) outs (out r) []).2, entHs es⟩
          e.val.rep (Af objs seen e φ'' w') v ∧ Heap w0 W0 (Af objs seen e φ'' w') w' ∧ (G objs φ seen w).le (Af objs seen e φ'' w') := by
      intro st' φ' a' w' hfin good
      unfold finOf at hfin
      split at hfin
      · rename_i vs hvs
        split at hfin
        · rename_i y es' hy
          split at hfin
          · rename_i hok
            simp only [Option.some.injEq] at hfin
            subst hfin
            rw [hoi]
            obtain ⟨us, hrun, hus⟩ := results_run hT good hvs
            refine ⟨good.defers, _, hrun, ?_⟩
            exact returned_ok H h1 hv h3 hown good.heap hy hok hus
          · simp at hfin
        · simp at hfin
      · simp at hfin
    rw [← hN]
    refine exK_sound (pv := fun _ => none) (fun i V hi => by cases hi) hT hΦ code _ _ _ φ1 _ w _ hL (hF x r h4) g1 ?_ ?_ ?_
    · intro st' φ' a' w' h' good
      exact fin st' φ' a' w' h' good
    · intro id st' φ' a' w' h' good
      cases h'
    · intro st' φ' a' w' h' good
      exact fin st' φ' a' w' h' good
end
end Go.Fx
