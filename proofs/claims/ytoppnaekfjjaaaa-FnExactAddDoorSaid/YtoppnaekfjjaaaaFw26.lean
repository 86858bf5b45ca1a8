/- The reflective executor, part 26: a function that changes its first argument's rows in place, as a callee. -/
import Derived.Test.YtoppnaekfjjaaaaFw25
set_option linter.unusedVariables false
set_option linter.unusedSimpArgs false
set_option autoImplicit false
namespace Go.Fx
open Go

theorem wrObjs_cases : ∀ (l : List (Nat × Option AO)) (f : Nat → Option AO) (h : Nat), (h ∈ l.map (·.1) ∧ (h, wrObjs l f h) ∈ l) ∨ (h ∉ l.map (·.1) ∧ wrObjs l f h = f h)
  | [], f, h => .inr ⟨by simp, rfl⟩
  | (k, a) :: l, f, h => by
    simp only [wrObjs]
    rcases wrObjs_cases l (upd f k a) h with ⟨h1, h2⟩ | ⟨h1, h2⟩
    · exact .inl ⟨by simp only [List.map_cons, List.mem_cons]; exact .inr h1, List.mem_cons_of_mem _ h2⟩
    · by_cases e : h = k
      · subst e
        left
        refine ⟨by simp, ?_⟩
        rw [h2, upd_same]
        exact List.mem_cons_self ..
      · right
        refine ⟨by simp only [List.map_cons, List.mem_cons, not_or]; exact ⟨e, h1⟩, ?_⟩
        rw [h2, upd_ne _ _ e]

section
variable {P : Program} {R : Type} {k0 : KD} {rs : List KD} {outs : List KD} {F : k0.den → denL rs → Option R} {out : R → denL outs} {up : R → k0.den}

theorem mkMut_nat : (mkMut k0 rs outs F out up).Natural := by
  intro β args look seen d K
  simp only [mkMut]
  split
  · split
    · split
      · rw [Option.bind_assoc]
        congr 1
        funext r
        split
        · rfl
        · rfl
      · rfl
    · rfl
  · rfl

theorem mkMut_run {args : List SV} {look : Nat → Option AO} {seen : Nat → Bool} {d : Nat} {e : Eff} (h : (mkMut k0 rs outs F out up).run args look seen d some = some e) :
    ∃ a0 rest x es xs es' r wr, args = a0 :: rest ∧ extK look k0 a0 [] = some (x, es) ∧ extL look rs rest [] = some (xs, es') ∧ entsOk es = true ∧ F x xs = some r ∧ updK k0 a0 (up r) = some wr ∧
      e = ⟨valOf (bldL 0 outs (out r) []).1, wr, entHs es⟩ := by
  simp only [mkMut] at h
  split at h
  · rename_i a0 rest
    split at h
    · rename_i x es xs es' hx hxs
      split at h
      · rename_i hok
        cases hF : F x xs with
        | none => simp [hF] at h
        | some r =>
          simp only [hF, Option.bind_some] at h
          split at h
          · rename_i wr hw
            simp only [Option.some.injEq] at h
            exact ⟨a0, rest, x, es, xs, es', r, wr, rfl, hx, hxs, hok, hF, hw, h.symm⟩
          · simp at h
      · simp at h
    · simp at h
  · simp at h

theorem scal_ents {look : Nat → Option AO} (hs : cntL rs = 0) {vs : List SV} {xs : denL rs} {es' : List Ent} (h : extL look rs vs [] = some (xs, es')) {Γ : Ctx} (hΓ : Γ.objs = look) {w : World} (hobj : ∀ h a, Γ.objs h = some a → oRep Γ w h a) {us : List Value} (hu : SV.repL Γ vs us) : es' = [] := by
  subst hΓ
  have p := extL_pair (base := 0) (os := []) hobj h hu rfl
  have := p.lens rfl
  rw [bldL_len, hs] at this
  simp at this
  exact List.length_eq_zero_iff.1 this.symm

theorem mkMut_loc (hloc : ∀ (look look' : Nat → Option AO) (vs : List SV) (xs : denL rs) (es' : List Ent), extL look rs vs [] = some (xs, es') → extL look' rs vs [] = some (xs, es')) : (mkMut k0 rs outs F out up).Local := by
  refine ⟨fun args look look' seen seen' d ef h S => ?_⟩
  obtain ⟨a0, rest, x, es, xs, es', r, wr, rfl, h1, h2, h3, h4, h5, rfl⟩ := mkMut_run h
  have e1 : extK look' k0 a0 [] = some (x, es) := (extK_loc h1).2 fun y hy hh w hs => S.look hh (List.mem_append_left _ (entHs_mem hy hs))
  have e2 := hloc look look' rest xs es' h2
  simp only [mkMut, e1, e2, h3, h4, Option.bind_some, h5]

/-- What the caller has after the call. -/
theorem marked_ok {w0 : World} {W0 : Nat → Prop} {objs : Nat → Option AO} {φ : Nat → Option (Nat × Nat)} {seen : Nat → Bool} {w : World} (H : Heap w0 W0 (G objs φ seen w) w)
    {es : List Ent} {Γ' : Ctx} {w' : World} (hes : ∀ z ∈ es, z.own = true → ∀ b o, entPlace (G objs φ seen w) z = some (b, o) → ∃ h win a0 o', z.src = some (h, win) ∧ objs h = some a0 ∧ φ h = some (b, o') ∧ a0.ro = false)
    (H' : Heap w (takenOver (G objs φ seen w) es) Γ' w') {wr : List (Nat × Option AO)} (h1 : ∀ p ∈ wr, MUp (G objs φ seen w) w' p.1 p.2) (h2 : ∀ m ∈ es, ∀ hh win, m.src = some (hh, win) → hh ∈ wr.map (·.1))
    (v : SV) (t : List Nat) : Heap w0 W0 (Af objs seen ⟨v, wr, t⟩ φ w') w' ∧ (G objs φ seen w).le (Af objs seen ⟨v, wr, t⟩ φ w') := by
  have stay : ∀ h a, objs h = some a → h ∉ wr.map (·.1) → ∀ b o, φ h = some (b, o) → w'.heap[b]? = w.heap[b]? := by
    intro h a ha hk b o hp
    refine H'.keep b (H.lt h a b o ha hp) ?_
    rintro ⟨z, o', hz, ho, hpz⟩
    obtain ⟨k, win, a1, o1, q1, q2, q3, q4⟩ := hes z hz ho b o' hpz
    by_cases hh : h = k
    · subst hh
      exact hk (h2 z hz h win q1)
    · have := H.sep h k a a1 b o o1 ha q2 hp q3 hh
      rw [q4] at this
      cases this.2
  have upd : ∀ h a, (h, a) ∈ wr → ∃ e l0 l, a = some ⟨false, .row e l⟩ ∧ objs h = some ⟨false, .row e l0⟩ ∧ l.length = l0.length ∧
      (∀ b o, φ h = some (b, o) → ∀ i v, (encAll e l)[i]? = some v → w'.cell? ⟨b, o + i, none⟩ = some v) ∧
      (l0 = [] ∧ φ h = none ∨ ∃ b o cur cur' T, φ h = some (b, o) ∧ w.heap[b]? = some (.cells cur T (0, 0)) ∧ w'.heap[b]? = some (.cells cur' T (0, 0)) ∧ cur'.size = cur.size ∧ o + l0.length * e.sz ≤ cur.size) := by
    intro h a hm
    obtain ⟨e, l0, l, q1, q2, q3, q4⟩ := h1 (h, a) hm
    refine ⟨e, l0, l, q1, q2, q3, q4, ?_⟩
    rcases H.obj h _ q2 with ⟨hn, hl⟩ | ⟨b, o, hp, _, hr⟩
    · exact .inl ⟨hl, hn⟩
    · obtain ⟨cur, T, k1, k2⟩ := hr rfl
      obtain ⟨cur', k3, k4⟩ := H'.kind b cur T (H.lt h _ b o q2 hp) k1
      exact .inr ⟨b, o, cur, cur', T, hp, k1, k3, k4, k2⟩
  have cls : ∀ h a, (Af objs seen ⟨v, wr, t⟩ φ w').objs h = some a → ((h, some a) ∈ wr) ∨ (h ∉ wr.map (·.1) ∧ objs h = some a) := by
    intro h a ha
    have ha' : wrObjs wr objs h = some a := ha
    rcases wrObjs_cases wr objs h with ⟨k1, k2⟩ | ⟨k1, k2⟩
    · rw [ha'] at k2
      exact .inl k2
    · rw [ha'] at k2
      exact .inr ⟨k1, k2.symm⟩
  have old : ∀ h a, (Af objs seen ⟨v, wr, t⟩ φ w').objs h = some a → ∃ a0, objs h = some a0 ∧ a0.ro = a.ro := by
    intro h a ha
    rcases cls h a ha with hm | ⟨_, ho⟩
    · obtain ⟨e, l0, l, q1, q2, _⟩ := upd h _ hm
      simp only [Option.some.injEq] at q1
      subst q1
      exact ⟨_, q2, rfl⟩
    · exact ⟨a, ho, rfl⟩
  have hle : (G objs φ seen w).le (Af objs seen ⟨v, wr, t⟩ φ w') := by
    refine le_of (fun h hs => wrSeen_keep _ _ _ hs) (fun h hs => ?_)
    rcases wrObjs_cases wr objs h with ⟨k1, k2⟩ | ⟨k1, k2⟩
    · obtain ⟨e, l0, l, q1, q2, q3, _, q5⟩ := upd h _ k2
      refine .inr ⟨_, ⟨false, .row e l⟩, q2, q1, ⟨rfl, rfl, q3.symm⟩, rfl, fun b o hp => ?_⟩
      have hp' : φ h = some (b, o) := hp
      show bsOf w' b = bsOf w b
      rcases q5 with ⟨_, hn⟩ | ⟨b1, o1, cur, cur', T, p1, p2, p3, p4, _⟩
      · rw [hn] at hp'; cases hp'
      · rw [p1] at hp'
        simp only [Option.some.injEq, Prod.mk.injEq] at hp'
        obtain ⟨rfl, rfl⟩ := hp'
        simp only [bsOf, p2, p3, p4]
    · cases ho : objs h with
      | none => exact .inl (k2.trans ho)
      | some a =>
        refine .inr ⟨a, a, ho, k2.trans ho, AO.like.refl a, rfl, fun b o hp => ?_⟩
        show bsOf w' b = bsOf w b
        unfold bsOf
        rw [stay h a ho k1 b o hp]
  refine ⟨⟨H'.os.trans H.os, ⟨H'.tape.1.trans H.tape.1, Nat.le_trans H.tape.2 H'.tape.2⟩, H'.output.trans H.output, Nat.le_trans H.size H'.size, ?_, ?_, fun _ => rfl, ?_, ?_, ?_, ?_, ?_⟩, hle⟩
  · intro b hbl hW
    have hnt : ¬ takenOver (G objs φ seen w) es b := by
      rintro ⟨z, o', hz, ho, hpz⟩
      obtain ⟨k, win, a1, o1, q1, q2, q3, q4⟩ := hes z hz ho b o' hpz
      rcases H.own k a1 b o1 q2 q4 q3 with h | h
      · omega
      · exact hW h
    rw [H'.keep b (Nat.lt_of_lt_of_le hbl H.size) hnt, H.keep b hbl hW]
  · intro b cur T hbl hw
    obtain ⟨c1, k1, k2⟩ := H.kind b cur T hbl hw
    obtain ⟨c2, k3, k4⟩ := H'.kind b c1 T (Nat.lt_of_lt_of_le hbl H.size) k1
    exact ⟨c2, k3, k4.trans k2⟩
  · intro h a ha
    rcases cls h a ha with hm | ⟨hk, ho⟩
    · obtain ⟨e, l0, l, q1, q2, q3, q4, q5⟩ := upd h _ hm
      simp only [Option.some.injEq] at q1
      subst q1
      rcases q5 with ⟨hl, hn⟩ | ⟨b, o, cur, cur', T, p1, p2, p3, p4, p5⟩
      · left
        refine ⟨hn, ?_⟩
        rw [hl] at q3
        exact List.length_eq_zero_iff.1 q3
      · right
        refine ⟨b, o, p1, q4 b o p1, fun _ => ⟨cur', T, p3, ?_⟩⟩
        rw [q3, p4]
        exact p5
    · exact oRep_le hle rfl (fun b o hp => stay h a ho hk b o hp) (H.obj h a ho)
  · intro h a ha
    obtain ⟨a0, ho, _⟩ := old h a ha
    exact hle.seen h (H.sn h a0 ho)
  · intro h a b o ha hp
    obtain ⟨a0, ho, _⟩ := old h a ha
    exact Nat.lt_of_lt_of_le (H.lt h a0 b o ho hp) H'.size
  · intro h h' a a' b o o' ha ha' hp hp' hne
    obtain ⟨a0, ho, hr⟩ := old h a ha
    obtain ⟨a0', ho', hr'⟩ := old h' a' ha'
    have := H.sep h h' a0 a0' b o o' ho ho' hp hp' hne
    rw [← hr, ← hr']
    exact this
  · intro h a b o ha hro hp
    obtain ⟨a0, ho, hr⟩ := old h a ha
    exact H.own h a0 b o ho (hr.trans hro) hp

end
section
variable {P : Program} {R : Type} {k0 : KD} {rshp : Shape} {outs : List KD} {F : k0.den → denL rshp.ks → Option R} {out : R → denL outs} {up : R → k0.den}
theorem mkMut_ok {g : Nat} {fn : Func} {code : Code} (hf : P.funcs[g]? = some fn) (hb : fn.body = some code) (hname : (fn.name == "runtime.NumGoroutine") = false)
    {C : Cfg} {Φ : Nat → PFn} {Λ : Nat → (St → Option R) → St → Option R} {into : denL outs → k0.den → R}
    (hT : TyOk P C.ty) (hΦ : ∀ g, (Φ g).Ok P g) (hN : C.N = fn.ntmps) (hshp : (((0, k0) :: rshp : Shape)).map (·.1) = List.range (rshp.length + 1)) (hsl : rshp.length + 1 ≤ fn.ntmps)
    (hsc : cntL rshp.ks = 0) (hso : cntL outs = 0) (hnp : 0 ∈ C.np)
    (hloc : ∀ (look look' : Nat → Option AO) (vs : List SV) (xs : denL rshp.ks) (es' : List Ent), extL look rshp.ks vs [] = some (xs, es') → extL look' rshp.ks vs [] = some (xs, es'))
    (hext : ∀ (look : Nat → Option AO) (vs : List SV) (es : List Ent) (xs : denL rshp.ks), extL look rshp.ks vs [] = some (xs, []) → extL look rshp.ks vs es = some (xs, es))
    (hoi : ∀ y z, out (into y z) = y) (hui : ∀ y z, up (into y z) = z)
    (hL : LoopsOk C Φ Λ (finMut C.ty fn.results.toList outs k0 into) (loopsOf C.blk code))
    (hF : ∀ (x : k0.den) (xs : denL rshp.ks) (r : R), F x xs = some r → exK C Φ Λ (finMut C.ty fn.results.toList outs k0 into) code (fun _ _ => none) (mkSt ((0, k0) :: rshp) (x, xs)) (finMut C.ty fn.results.toList outs k0 into) = some r) :
    (mkMut k0 rshp.ks outs F out up).Ok P g where
  nat := mkMut_nat
  loc := mkMut_loc hloc
  calls := by
    intro w0 W0 objs φ seen w args vals d e h H hv
    obtain ⟨a0, rest, x, es, xs, es', r, wr, rfl, h1, h2, h3, h4, h5, rfl⟩ := mkMut_run h
    obtain ⟨V0, Vs, rfl, hv0, hvs⟩ := hv
    have he' : es' = [] := scal_ents hsc h2 (Γ := G objs φ seen w) rfl H.obj hvs
    subst he'
    have hx : extL (G objs φ seen w).objs (Shape.ks ((0, k0) :: rshp)) (a0 :: rest) [] = some ((x, xs), es) := by
      show extL objs (k0 :: rshp.ks) (a0 :: rest) [] = _
      simp only [extL, h1, hext objs rest es xs h2]
    have hv : SV.repL (G objs φ seen w) (a0 :: rest) (V0 :: Vs) := ⟨V0, Vs, rfl, hv0, hvs⟩
    obtain ⟨φ1, g1⟩ := entered (shp := (0, k0) :: rshp) H hx h3 hv (by simpa using hshp) (N := C.N) (by rw [hN]; simpa using hsl) (pv := fun i => match i with | 0 => some V0 | _ => none) (fun i V hi => by
      cases i with
      | zero => simpa using hi
      | succ i => cases hi)
    refine ⟨fn, code, hf, hb, hname, calls_of_wp hf hb ?_⟩
    have tk : ∀ z ∈ es, z.own = true → ∀ b o, entPlace (G objs φ seen w) z = some (b, o) → ∃ h win a0 o', z.src = some (h, win) ∧ objs h = some a0 ∧ φ h = some (b, o') ∧ a0.ro = false := by
      intro z hz ho b o hp
      have p := extL_pair (base := 0) (os := []) H.obj hx hv rfl
      have hl := p.lens rfl
      obtain ⟨k, hk⟩ := List.getElem?_of_mem hz
      have hlt := (List.getElem?_eq_some_iff.1 hk).1
      have om := (p.om []).2 k z _ (Nat.zero_le _) hk (List.getElem?_eq_getElem (by omega))
      obtain ⟨h1, w1, a1, o1, q1, q2, q3, q4⟩ := (OM_src om).2 b o hp
      exact ⟨h1, w1, a1, o1, q1, q2, q3, q4 ho⟩
    have fin : ∀ st' φ' a' w', finMut C.ty fn.results.toList outs k0 into st' = some r → Good w (takenOver (G objs φ seen w) es) C.N (fun i => match i with | 0 => some V0 | _ => none) st' φ' a' w' → a'.defers = [] ∧ ∃ v, (results fn a'.tmps).run P w' = .ok v w' ∧
        ∃ φ'', let e : Eff := ⟨valOf (bldL 0 outs (out r) []).1, wr, entHs es⟩
          e.val.rep (Af objs seen e φ'' w') v ∧ Heap w0 W0 (Af objs seen e φ'' w') w' ∧ (G objs φ seen w).le (Af objs seen e φ'' w') := by
      intro st' φ' a' w' hfin good
      unfold finMut at hfin
      split at hfin
      · rename_i vs hvs'
        split at hfin
        · rename_i y es1 z es2 hy hz
          simp only [Option.some.injEq] at hfin
          subst hfin
          rw [hui] at h5
          rw [hoi]
          obtain ⟨us, hrun, hus⟩ := results_run hT good hvs'
          refine ⟨good.defers, _, hrun, φ, ?_⟩
          have hslot : (st'.slots 0).rep (ctx st' φ' w') V0 := by
            have := good.slot 0
            rw [good.par 0 V0 rfl] at this
            exact this
          obtain ⟨m1, m2⟩ := updK_spec (Γ := G objs φ seen w) (Γ' := ctx st' φ' w') (w' := w') good.heap.obj h1 hv0 hz hslot h5
          obtain ⟨k1, k2⟩ := marked_ok H tk good.heap m1 m2 (valOf (bldL 0 outs y []).1) (entHs es)
          refine ⟨?_, k1, k2⟩
          have hlen : (bldL 0 outs y []).2.length = es1.length := (extL_pair (base := 0) (os := []) good.heap.obj hy hus rfl).lens rfl
          have hz0 : (bldL 0 outs y []).2.length = 0 := by rw [bldL_len, hso]; rfl
          obtain ⟨_, hr⟩ := extL_tgt (base := 0) good.heap.obj hy hus (Γ' := Af objs seen ⟨valOf (bldL 0 outs y []).1, wr, entHs es⟩ φ w')
            (fun k a hk => by
              have := (List.getElem?_eq_some_iff.1 hk).1
              omega)
            (fun k e hk => by
              have := (List.getElem?_eq_some_iff.1 hk).1
              omega)
            (fun k hk => by omega) (fun b => rfl)
          exact valOf_rep hr
        · simp at hfin
      · simp at hfin
    rw [← hN]
    refine exK_sound (pv := fun i => match i with | 0 => some V0 | _ => none) (fun i V hi => by
      cases i with
      | zero => exact hnp
      | succ i => cases hi) hT hΦ code _ _ _ φ1 _ w _ hL (hF x xs r h4) g1 ?_ ?_ ?_
    · intro st' φ' a' w' h' good
      exact fin st' φ' a' w' h' good
    · intro id st' φ' a' w' h' good
      cases h'
    · intro st' φ' a' w' h' good
      exact fin st' φ' a' w' h' good
end
end Go.Fx
