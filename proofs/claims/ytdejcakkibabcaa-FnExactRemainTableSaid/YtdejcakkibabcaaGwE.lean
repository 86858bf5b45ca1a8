/- The reflective executor: functions that change what they are lent. -/
import Derived.Test.YtdejcakkibabcaaGwD
import Derived.Laws.Cover3
noncomputable section
set_option linter.unusedVariables false
set_option linter.unusedSimpArgs false
set_option autoImplicit false
namespace Go.Fx
open Go

/-! ### 1. What is written -/
def updB : (b : BK) → SV → b.den → Option (List (Nat × Option AO))
  | .row e true, .sl h .all, l => some [(h, some ⟨false, .row e l⟩)]
  | .row _ true, .nil, _ => some []
  | .int _, _, _ => some []
  | .bool, _, _ => some []
  | .str, _, _ => some []
  | _, _, _ => none
def updBs : (bs : List BK) → List SV → denB bs → Option (List (Nat × Option AO))
  | [], [], _ => some []
  | b :: bs, v :: vs, x => match updB b v x.1, updBs bs vs x.2 with
    | some l, some m => some (l ++ m)
    | _, _ => none
  | _, _, _ => none
def updK : (k : KD) → SV → k.den → Option (List (Nat × Option AO))
  | .one b, v, x => updB b v x
  | .agg bs, .agg vs, x => updBs bs vs x
  | _, _, _ => none

def mkMut {R : Type} (k0 : KD) (rs : List KD) (outs : List KD) (F : k0.den → denL rs → Option R) (out : R → denL outs) (up : R → k0.den) : PFn where
  run := fun args look seen d K =>
    match args with
    | a0 :: rest => match extK look k0 a0 [], extL look rs rest [] with
      | some (x, es), some (xs, _) => match entsOk es with
        | true => (F x xs).bind fun r => match updK k0 a0 (up r) with
          | some wr => K ⟨valOf (bldL 0 outs (out r) []).1, wr, entHs es⟩
          | none => none
        | false => none
      | _, _ => none
    | [] => none

def finMut {R : Type} (ty : Ty) (results : List ResultVar) (outs : List KD) (k0 : KD) (into : denL outs → k0.den → R) (st : St) : Option R :=
  match resSV ty results st with
  | some vs => match extL st.objs outs vs [], extK st.objs k0 (st.slots 0) [] with
    | some (y, _), some (z, _) => some (into y z)
    | _, _ => none
  | none => none

/-- Rows of the first argument that the callee may write. -/
def MUp (Γ : Ctx) (w' : World) (h : Nat) (a : Option AO) : Prop :=
  ∃ e l0 l, a = some ⟨false, .row e l⟩ ∧ Γ.objs h = some ⟨false, .row e l0⟩ ∧ l.length = l0.length ∧
    ∀ b o, Γ.φ h = some (b, o) → ∀ i v, (encAll e l)[i]? = some v → w'.cell? ⟨b, o + i, none⟩ = some v

section
variable {Γ Γ' : Ctx} {w w' : World}

theorem ext_row {e : EK} {own : Bool} {v : SV} {es es1 : List Ent} {l : List e.den} {V : Value} (h : extB Γ.objs (.row e own) v es = some (l, es1)) (hr : v.rep Γ V) :
    (v = .nil ∧ l = [] ∧ V = .slice none 0 0) ∨ ∃ hh win ro l0, v = .sl hh win ∧ es1 = es ++ [⟨some (hh, win), own⟩] ∧ Γ.objs hh = some ⟨ro, .row e l0⟩ ∧ l = win.view l0 ∧ (own = true → ro = false) ∧
      win.ok l0.length ∧ ∃ A cap, V = .slice A l.length cap ∧ l.length ≤ cap ∧ (cap = 0 ∨ ∃ b o, Γ.φ hh = some (b, o) ∧ A = some ⟨b, o + win.off * e.sz, none⟩) := by
  cases v <;> simp only [extB] at h <;> try (simp at h; done)
  · simp only [Option.some.injEq, Prod.mk.injEq] at h
    exact .inl ⟨rfl, h.1.symm, hr⟩
  · rename_i hh win
    split at h
    · rename_i ro e' l0 ho
      split at h
      · rename_i he
        subst he
        split at h
        · simp at h
        · rename_i hoo
          simp only [Option.some.injEq, Prod.mk.injEq] at h
          obtain ⟨rfl, rfl⟩ := h
          obtain ⟨_, _, h3⟩ := hr
          unfold Ctx.slOk at h3
          rw [ho] at h3
          obtain ⟨h4, A, cap, h5, h6, h7, h8⟩ := h3
          refine .inr ⟨hh, win, ro, l0, rfl, rfl, ho, rfl, ?_, h4, A, cap, ?_, ?_, ?_⟩
          · intro ho'
            rw [ho'] at hoo
            simpa using hoo
          · show V = .slice A (win.view l0).length cap
            rw [view_length]; exact h5
          · show (win.view l0).length ≤ cap
            rw [view_length]; exact h6.1
          · rcases h8 with h8 | ⟨b, o, h9, h10, _⟩
            · exact .inl h8
            · exact .inr ⟨b, o, h9, h10⟩
      · simp at h
    · simp at h

theorem updB_spec (hobj' : ∀ h a, Γ'.objs h = some a → oRep Γ' w' h a) {b : BK} {v v' : SV} {V : Value} {x y : b.den} {es es1 es' es1' : List Ent} {wr : List (Nat × Option AO)}
    (h : extB Γ.objs b v es = some (x, es1)) (hr : v.rep Γ V) (h' : extB Γ'.objs b v' es' = some (y, es1')) (hr' : v'.rep Γ' V) (hw : updB b v y = some wr) :
    (∀ p ∈ wr, MUp Γ w' p.1 p.2) ∧ ∀ m ∈ es1, m ∈ es ∨ ∀ hh win, m.src = some (hh, win) → hh ∈ wr.map (·.1) := by
  cases b with
  | int k =>
    simp only [updB, Option.some.injEq] at hw
    subst hw
    refine ⟨by simp, fun m hm => .inl ?_⟩
    cases v <;> simp only [extB] at h <;> try (simp at h; done)
    split at h
    · simp only [Option.some.injEq, Prod.mk.injEq] at h
      rw [h.2]; exact hm
    · simp at h
  | bool =>
    simp only [updB, Option.some.injEq] at hw
    subst hw
    refine ⟨by simp, fun m hm => .inl ?_⟩
    cases v <;> simp only [extB] at h <;> try (simp at h; done)
    simp only [Option.some.injEq, Prod.mk.injEq] at h
    rw [h.2]; exact hm
  | str =>
    simp only [updB, Option.some.injEq] at hw
    subst hw
    refine ⟨by simp, fun m hm => .inl ?_⟩
    cases v <;> simp only [extB] at h <;> try (simp at h; done)
    simp only [Option.some.injEq, Prod.mk.injEq] at h
    rw [h.2]; exact hm
  | ref i => cases v <;> simp [updB] at hw
  | part i => cases v <;> simp [updB] at hw
  | lit c => cases v <;> simp [updB] at hw
  | map own => cases v <;> simp [updB] at hw
  | tab own => cases v <;> simp [updB] at hw
  | clo f rs => cases v <;> simp [updB] at hw
  | row e own =>
    cases own with
    | false => cases v <;> simp [updB] at hw
    | true =>
      rcases ext_row h hr with ⟨rfl, rfl, hV⟩ | ⟨hh, win, ro, l0, rfl, rfl, ho, rfl, hown, hok, A, cap, hV, hc, hA⟩
      · simp only [updB, Option.some.injEq] at hw
        subst hw
        refine ⟨by simp, fun m hm => ?_⟩
        simp only [extB, Option.some.injEq, Prod.mk.injEq] at h
        rw [← h.2] at hm
        rcases List.mem_append.1 hm with hm | hm
        · exact .inl hm
        · right
          intro hh win hs
          simp at hm
          subst hm
          simp at hs
      · cases win <;> simp only [updB] at hw <;> try (simp at hw; done)
        simp only [Option.some.injEq] at hw
        subst hw
        have hro := hown rfl
        subst hro
        refine ⟨?_, fun m hm => ?_⟩
        · intro p hp
          simp only [List.mem_singleton] at hp
          subst hp
          have hlen : ∀ n c A', V = .slice A' n c → n = l0.length := by
            intro n c A' hq
            rw [hV] at hq
            simp only [Value.slice.injEq] at hq
            rw [← hq.2.1]
            rfl
          rcases ext_row h' hr' with ⟨_, hy, hV'⟩ | ⟨hh', win', ro', l0', rfl, _, ho', hy, hown', hok', A', cap', hV', hc', hA'⟩
          · have : 0 = l0.length := hlen 0 0 none hV'
            refine ⟨e, l0, y, rfl, ho, ?_, ?_⟩
            · rw [hy]; exact this
            · intro b o _ i v hi
              rw [hy] at hi
              simp [encAll] at hi
          · have hl : List.length y = l0.length := hlen _ _ _ hV'
            refine ⟨e, l0, y, rfl, ho, hl, ?_⟩
            intro b o hφ i v hi
            have hlt : i < List.length y * e.sz := by
              have := (List.getElem?_eq_some_iff.1 hi).1
              rw [encAll_length] at this
              exact this
            have hpos : 0 < List.length y := by
              rcases Nat.eq_zero_or_pos (List.length y) with h0 | h0
              · rw [h0] at hlt; simp at hlt
              · exact h0
            rw [hV] at hV'
            simp only [Value.slice.injEq] at hV'
            obtain ⟨hAA, _, hcc⟩ := hV'
            have c1 : cap ≠ 0 := by
              have : (Win.all.view l0).length = l0.length := rfl
              omega
            have c2 : cap' ≠ 0 := by omega
            obtain ⟨b1, o1, q1, q2⟩ := hA.resolve_left c1
            obtain ⟨b2, o2, q3, q4⟩ := hA'.resolve_left c2
            rw [hφ] at q1
            simp only [Option.some.injEq, Prod.mk.injEq] at q1
            obtain ⟨rfl, rfl⟩ := q1
            rw [hAA, q4] at q2
            simp only [Option.some.injEq, Addr.mk.injEq, and_true] at q2
            obtain ⟨rfl, q5⟩ := q2
            rcases hobj' hh' _ ho' with ⟨hn, _⟩ | ⟨b3, o3, q6, hcell, _⟩
            · rw [hn] at q3; cases q3
            · rw [q3] at q6
              simp only [Option.some.injEq, Prod.mk.injEq] at q6
              obtain ⟨rfl, rfl⟩ := q6
              rw [hy, encAll_view, List.getElem?_take] at hi
              split at hi
              · rw [List.getElem?_drop] at hi
                have := hcell _ v hi
                have e1 : Win.all.off * e.sz = 0 := by simp [Win.off]
                rw [show o + i = o2 + (win'.off * e.sz + i) by omega]
                exact this
              · simp at hi
        · rcases List.mem_append.1 hm with hm | hm
          · exact .inl hm
          · right
            intro h2 win2 hs
            simp only [List.mem_singleton] at hm
            subst hm
            simp only [Option.some.injEq, Prod.mk.injEq] at hs
            simp [hs.1]

theorem updBs_spec (hobj' : ∀ h a, Γ'.objs h = some a → oRep Γ' w' h a) : ∀ {bs : List BK} {vs vs' : List SV} {Vs : List Value} {x y : denB bs} {es es1 es' es1' : List Ent} {wr : List (Nat × Option AO)},
    extBs Γ.objs bs vs es = some (x, es1) → SV.repL Γ vs Vs → extBs Γ'.objs bs vs' es' = some (y, es1') → SV.repL Γ' vs' Vs → updBs bs vs y = some wr →
    (∀ p ∈ wr, MUp Γ w' p.1 p.2) ∧ ∀ m ∈ es1, m ∈ es ∨ ∀ hh win, m.src = some (hh, win) → hh ∈ wr.map (·.1)
  | [], vs, vs', Vs, x, y, es, es1, es', es1', wr, h, hr, h', hr', hw => by
    cases vs <;> simp only [extBs] at h <;> try (simp at h; done)
    simp only [updBs, Option.some.injEq] at hw
    subst hw
    simp only [Option.some.injEq, Prod.mk.injEq] at h
    exact ⟨by simp, fun m hm => .inl (by rw [h.2]; exact hm)⟩
  | b :: bs, vs, vs', Vs, x, y, es, es1, es', es1', wr, h, hr, h', hr', hw => by
    cases vs with
    | nil => simp [extBs] at h
    | cons v vs =>
      cases vs' with
      | nil => simp [extBs] at h'
      | cons v' vs' =>
        obtain ⟨V, Vs1, rfl, r1, r2⟩ := hr
        obtain ⟨V', Vs1', hVV, r1', r2'⟩ := hr'
        simp only [List.cons.injEq] at hVV
        obtain ⟨rfl, rfl⟩ := hVV
        simp only [extBs] at h h'
        split at h
        · rename_i x1 es2 hx
          split at h
          · rename_i xs es3 hxs
            simp only [Option.some.injEq, Prod.mk.injEq] at h
            obtain ⟨rfl, rfl⟩ := h
            split at h'
            · rename_i y1 es2' hy
              split at h'
              · rename_i ys es3' hys
                simp only [Option.some.injEq, Prod.mk.injEq] at h'
                obtain ⟨rfl, rfl⟩ := h'
                simp only [updBs] at hw
                split at hw
                · rename_i l m hl hm
                  simp only [Option.some.injEq] at hw
                  subst hw
                  obtain ⟨a1, a2⟩ := updB_spec hobj' hx r1 hy r1' hl
                  obtain ⟨b1, b2⟩ := updBs_spec hobj' hxs r2 hys r2' hm
                  refine ⟨fun p hp => ?_, fun q hq => ?_⟩
                  · rcases List.mem_append.1 hp with hp | hp
                    · exact a1 p hp
                    · exact b1 p hp
                  · rcases b2 q hq with hq | hq
                    · rcases a2 q hq with hq | hq
                      · exact .inl hq
                      · exact .inr fun hh win hs => by rw [List.map_append]; exact List.mem_append_left _ (hq hh win hs)
                    · exact .inr fun hh win hs => by rw [List.map_append]; exact List.mem_append_right _ (hq hh win hs)
                · simp at hw
              · simp at h'
            · simp at h'
          · simp at h
        · simp at h

theorem updK_spec (hobj' : ∀ h a, Γ'.objs h = some a → oRep Γ' w' h a) {k : KD} {v v' : SV} {V : Value} {x y : k.den} {es1 es1' : List Ent} {wr : List (Nat × Option AO)}
    (h : extK Γ.objs k v [] = some (x, es1)) (hr : v.rep Γ V) (h' : extK Γ'.objs k v' [] = some (y, es1')) (hr' : v'.rep Γ' V) (hw : updK k v y = some wr) :
    (∀ p ∈ wr, MUp Γ w' p.1 p.2) ∧ ∀ m ∈ es1, ∀ hh win, m.src = some (hh, win) → hh ∈ wr.map (·.1) := by
  cases k with
  | one b =>
    obtain ⟨a1, a2⟩ := updB_spec (es := []) (es' := []) hobj' (by simpa only [extK] using h) hr (by simpa only [extK] using h') hr' (by simpa only [updK] using hw)
    exact ⟨a1, fun m hm => (a2 m hm).resolve_left (by simp)⟩
  | agg bs =>
    cases v <;> simp only [extK] at h <;> try (simp at h; done)
    cases v' <;> simp only [extK] at h' <;> try (simp at h'; done)
    obtain ⟨us, hu, hus⟩ := hr
    obtain ⟨us', hu', hus'⟩ := hr'
    have : us = us' := by
      rw [hu] at hu'
      simpa using hu'
    subst this
    obtain ⟨a1, a2⟩ := updBs_spec (es := []) (es' := []) hobj' h hus h' hus' (by simpa only [updK] using hw)
    exact ⟨a1, fun m hm => (a2 m hm).resolve_left (by simp)⟩
  | _ => cases v <;> simp [updK] at hw
end
end Go.Fx
end

noncomputable section
set_option linter.unusedVariables false
set_option linter.unusedSimpArgs false
set_option autoImplicit false
namespace Go.Fx
open Go

theorem wrObjs_cases : ∀ (l : List (Nat × Option AO)) (f : Nat → Option AO) (h : Nat), (h ∈ l.map (·.1) ∧ (h, wrObjs l f h) ∈ l) ∨ (h ∉ l.map (·.1) ∧ wrObjs l f h = f h)
  | [], f, h => .inr ⟨by simp, rfl⟩
  | (k, a) :: l, f, h => by
    simp only [wrObjs]
    rcases wrObjs_cases l (upd f k a) h with ⟨h1, h2⟩ | ⟨h1, h2⟩
    · exact .inl ⟨by simp only [List.map_cons, List.mem_cons]; exact .inr h1, List.mem_cons_of_mem _ h2⟩
    · by_cases e : h = k
      · subst e
        left
        refine ⟨by simp, ?_⟩
        rw [h2, upd_same]
        exact List.mem_cons_self ..
      · right
        refine ⟨by simp only [List.map_cons, List.mem_cons, not_or]; exact ⟨e, h1⟩, ?_⟩
        rw [h2, upd_ne _ _ e]

section
variable {P : Program} {R : Type} {k0 : KD} {rs : List KD} {outs : List KD} {F : k0.den → denL rs → Option R} {out : R → denL outs} {up : R → k0.den}

theorem mkMut_nat : (mkMut k0 rs outs F out up).Natural := by
  intro β args look seen d K
  simp only [mkMut]
  split
  · split
    · split
      · rw [Option.bind_assoc]
        congr 1
        funext r
        split
        · rfl
        · rfl
      · rfl
    · rfl
  · rfl

theorem mkMut_run {args : List SV} {look : Nat → Option AO} {seen : Nat → Bool} {d : Nat} {e : Eff} (h : (mkMut k0 rs outs F out up).run args look seen d some = some e) :
    ∃ a0 rest x es xs es' r wr, args = a0 :: rest ∧ extK look k0 a0 [] = some (x, es) ∧ extL look rs rest [] = some (xs, es') ∧ entsOk es = true ∧ F x xs = some r ∧ updK k0 a0 (up r) = some wr ∧
      e = ⟨valOf (bldL 0 outs (out r) []).1, wr, entHs es⟩ := by
  simp only [mkMut] at h
  split at h
  · rename_i a0 rest
    split at h
    · rename_i x es xs es' hx hxs
      split at h
      · rename_i hok
        cases hF : F x xs with
        | none => simp [hF] at h
        | some r =>
          simp only [hF, Option.bind_some] at h
          split at h
          · rename_i wr hw
            simp only [Option.some.injEq] at h
            exact ⟨a0, rest, x, es, xs, es', r, wr, rfl, hx, hxs, hok, hF, hw, h.symm⟩
          · simp at h
      · simp at h
    · simp at h
  · simp at h

theorem scal_ents {look : Nat → Option AO} (hs : cntL rs = 0) {vs : List SV} {xs : denL rs} {es' : List Ent} (h : extL look rs vs [] = some (xs, es')) {Γ : Ctx} (hΓ : Γ.objs = look) {w : World} (hobj : ∀ h a, Γ.objs h = some a → oRep Γ w h a) {us : List Value} (hu : SV.repL Γ vs us) : es' = [] := by
  subst hΓ
  have p := extL_pair (base := 0) (os := []) hobj h hu rfl
  have := p.lens rfl
  rw [bldL_len, hs] at this
  simp at this
  exact List.length_eq_zero_iff.1 this.symm

theorem mkMut_loc (hloc : ∀ (look look' : Nat → Option AO) (vs : List SV) (xs : denL rs) (es' : List Ent), extL look rs vs [] = some (xs, es') → extL look' rs vs [] = some (xs, es')) : (mkMut k0 rs outs F out up).Local := by
  refine ⟨fun args look look' seen seen' d ef h S => ?_⟩
  obtain ⟨a0, rest, x, es, xs, es', r, wr, rfl, h1, h2, h3, h4, h5, rfl⟩ := mkMut_run h
  have e1 : extK look' k0 a0 [] = some (x, es) := (extK_loc h1).2 fun y hy hh w hs => S.look hh (List.mem_append_left _ (entHs_mem hy hs))
  have e2 := hloc look look' rest xs es' h2
  simp only [mkMut, e1, e2, h3, h4, Option.bind_some, h5]

/-- What the caller has after the call. -/
theorem marked_ok {w0 : World} {W0 : Nat → Option (Option EK) → Prop} {objs : Nat → Option AO} {φ : Nat → Option (Nat × Nat)} {seen : Nat → Bool} {w : World} (H : Heap w0 W0 (G objs φ seen w) w)
    {es : List Ent} {Γ' : Ctx} {w' : World} (hes : ∀ z ∈ es, z.own = true → ∀ b, entAt (G objs φ seen w) z b → ∃ h win a0, z.src = some (h, win) ∧ objs h = some a0 ∧ (G objs φ seen w).at h b ∧ a0.ro = false)
    (H' : Heap w (takenOver (G objs φ seen w) es) Γ' w') {wr : List (Nat × Option AO)} (h1 : ∀ p ∈ wr, MUp (G objs φ seen w) w' p.1 p.2) (h2 : ∀ m ∈ es, ∀ hh win, m.src = some (hh, win) → hh ∈ wr.map (·.1))
    (v : SV) (t : List Nat) : Heap w0 W0 (Af objs seen ⟨v, wr, t⟩ φ w') w' ∧ (G objs φ seen w).le (Af objs seen ⟨v, wr, t⟩ φ w') := by
  have stay : ∀ h a, objs h = some a → h ∉ wr.map (·.1) → ∀ b, (G objs φ seen w).at h b → w'.heap[b]? = w.heap[b]? := by
    intro h a ha hk b hp
    refine H'.keep b (H.lt2 h a b ha hp) ?_
    rintro ⟨z, hz, ho, hpz⟩
    obtain ⟨k, win, a1, q1, q2, q3, q4⟩ := hes z hz ho b hpz
    by_cases hh : h = k
    · subst hh
      exact hk (h2 z hz h win q1)
    · have := H.sep2 h k a a1 b ha q2 hp q3 hh
      rw [q4] at this
      cases this.2
  have upd : ∀ h a, (h, a) ∈ wr → ∃ e l0 l, a = some ⟨false, .row e l⟩ ∧ objs h = some ⟨false, .row e l0⟩ ∧ l.length = l0.length ∧
      (∀ b o, φ h = some (b, o) → ∀ i v, (encAll e l)[i]? = some v → w'.cell? ⟨b, o + i, none⟩ = some v) ∧
      (l0 = [] ∧ φ h = none ∨ ∃ b o cur cur' T, φ h = some (b, o) ∧ w.heap[b]? = some (.cells cur T (0, 0)) ∧ w'.heap[b]? = some (.cells cur' T (0, 0)) ∧ cur'.size = cur.size ∧ o + l0.length * e.sz ≤ cur.size) := by
    intro h a hm
    obtain ⟨e, l0, l, q1, q2, q3, q4⟩ := h1 (h, a) hm
    refine ⟨e, l0, l, q1, q2, q3, q4, ?_⟩
    rcases H.obj h _ q2 with ⟨hn, hl⟩ | ⟨b, o, hp, _, hr⟩
    · exact .inl ⟨hl, hn⟩
    · obtain ⟨cur, T, k1, k2⟩ := hr rfl
      obtain ⟨cur', k3, k4⟩ := H'.kind b cur T (0, 0) (H.lt h _ b o q2 hp) k1
      exact .inr ⟨b, o, cur, cur', T, hp, k1, k3, k4, k2⟩
  have cls : ∀ h a, (Af objs seen ⟨v, wr, t⟩ φ w').objs h = some a → ((h, some a) ∈ wr) ∨ (h ∉ wr.map (·.1) ∧ objs h = some a) := by
    intro h a ha
    have ha' : wrObjs wr objs h = some a := ha
    rcases wrObjs_cases wr objs h with ⟨k1, k2⟩ | ⟨k1, k2⟩
    · rw [ha'] at k2
      exact .inl k2
    · rw [ha'] at k2
      exact .inr ⟨k1, k2.symm⟩
  have old : ∀ h a, (Af objs seen ⟨v, wr, t⟩ φ w').objs h = some a → ∃ a0, objs h = some a0 ∧ a0.ro = a.ro := by
    intro h a ha
    rcases cls h a ha with hm | ⟨_, ho⟩
    · obtain ⟨e, l0, l, q1, q2, _⟩ := upd h _ hm
      simp only [Option.some.injEq] at q1
      subst q1
      exact ⟨_, q2, rfl⟩
    · exact ⟨a, ho, rfl⟩
  have hle : (G objs φ seen w).le (Af objs seen ⟨v, wr, t⟩ φ w') := by
    refine le_of (fun h hs => wrSeen_keep _ _ _ hs) (fun h hs => ?_)
    rcases wrObjs_cases wr objs h with ⟨k1, k2⟩ | ⟨k1, k2⟩
    · obtain ⟨e, l0, l, q1, q2, q3, _, q5⟩ := upd h _ k2
      refine .inr ⟨_, ⟨false, .row e l⟩, q2, q1, ⟨rfl, rfl, q3.symm⟩, rfl, fun b o hp => ?_⟩
      have hp' : φ h = some (b, o) := hp
      show bsOf w' b = bsOf w b
      rcases q5 with ⟨_, hn⟩ | ⟨b1, o1, cur, cur', T, p1, p2, p3, p4, _⟩
      · rw [hn] at hp'; cases hp'
      · rw [p1] at hp'
        simp only [Option.some.injEq, Prod.mk.injEq] at hp'
        obtain ⟨rfl, rfl⟩ := hp'
        simp only [bsOf, p2, p3, p4]
    · cases ho : objs h with
      | none => exact .inl (k2.trans ho)
      | some a =>
        refine .inr ⟨a, a, ho, k2.trans ho, AO.like.refl a, rfl, fun b o hp => ?_⟩
        show bsOf w' b = bsOf w b
        unfold bsOf
        rw [stay h a ho k1 b (.inl ⟨o, hp⟩)]
  have oldat : ∀ h a b, (Af objs seen ⟨v, wr, t⟩ φ w').objs h = some a → (Af objs seen ⟨v, wr, t⟩ φ w').at h b → (G objs φ seen w).at h b := by
    intro h a b ha hb
    rcases cls h a ha with hm | ⟨hk, ho⟩
    · obtain ⟨e, l0, l, q1, _⟩ := upd h _ hm
      cases q1
      exact .inl (Ctx.at_one (Γ := Af objs seen ⟨v, wr, t⟩ φ w') ha (fun ll q => by cases q) hb)
    · exact Ctx.at_same (Γ := G objs φ seen w) (ha.trans ho.symm) rfl (fun b0 o0 i hp => memOf_of_block (stay h a ho hk b0 (.inl ⟨o0, hp⟩)) i) hb
  refine ⟨⟨H'.os.trans H.os, ⟨H'.tape.1.trans H.tape.1, H.tape.2.trans H'.tape.2⟩, H'.output.trans H.output, Nat.le_trans H.size H'.size, ?_, ?_, fun _ => rfl, fun _ _ => rfl, ?_, ?_, ?_, ?_, ?_, ?_, ?_⟩, hle⟩
  · intro b hbl hW
    have hnt : ¬ takenOver (G objs φ seen w) es b none := by
      rintro ⟨z, hz, ho, hpz⟩
      obtain ⟨k, win, a1, q1, q2, q3, q4⟩ := hes z hz ho b hpz
      rcases H.own2 k a1 b q2 q4 q3 with h | h
      · omega
      · exact hW h
    rw [H'.keep b (Nat.lt_of_lt_of_le hbl H.size) hnt, H.keep b hbl hW]
  · intro b cur T fz hbl hw
    obtain ⟨c1, k1, k2⟩ := H.kind b cur T fz hbl hw
    obtain ⟨c2, k3, k4⟩ := H'.kind b c1 T fz (Nat.lt_of_lt_of_le hbl H.size) k1
    exact ⟨c2, k3, k4.trans k2⟩
  · intro h a ha
    rcases cls h a ha with hm | ⟨hk, ho⟩
    · obtain ⟨e, l0, l, q1, q2, q3, q4, q5⟩ := upd h _ hm
      simp only [Option.some.injEq] at q1
      subst q1
      rcases q5 with ⟨hl, hn⟩ | ⟨b, o, cur, cur', T, p1, p2, p3, p4, p5⟩
      · left
        refine ⟨hn, ?_⟩
        rw [hl] at q3
        exact List.length_eq_zero_iff.1 q3
      · right
        refine ⟨b, o, p1, q4 b o p1, fun _ => ⟨cur', T, p3, ?_⟩⟩
        rw [q3, p4]
        exact p5
    · exact oRep_le hle rfl H.mem ho (fun b hp => stay h a ho hk b hp) (H.obj h a ho)
  · intro h a ha
    obtain ⟨a0, ho, _⟩ := old h a ha
    exact hle.seen h (H.sn h a0 ho)
  · intro h a b ha hp
    obtain ⟨a0, ho, _⟩ := old h a ha
    exact Nat.lt_of_lt_of_le (H.lt2 h a0 b ho (oldat h a b ha hp)) H'.size
  · intro h h' a a' b ha ha' hp hp' hne
    obtain ⟨a0, ho, hr⟩ := old h a ha
    obtain ⟨a0', ho', hr'⟩ := old h' a' ha'
    have := H.sep2 h h' a0 a0' b ho ho' (oldat h a b ha hp) (oldat h' a' b ha' hp') hne
    rw [← hr, ← hr']
    exact this
  · intro h a b ha hro hp
    obtain ⟨a0, ho, hr⟩ := old h a ha
    exact H.own2 h a0 b ho (hr.trans hro) (oldat h a b ha hp)
  · intro h a b o ha hp
    rcases cls h a ha with hm | ⟨_, ho⟩
    · obtain ⟨e, l0, l, q1, q2, _⟩ := upd h _ hm
      simp only [Option.some.injEq] at q1
      subst q1
      exact show w0.heap.size ≤ b ∨ W0 b (some (some e)) from H.rng h ⟨false, .row e l0⟩ b o q2 hp
    · exact H.rng h a b o ho hp
  · intro h b hb
    obtain ⟨ro, ll, ha⟩ := Ctx.inB_tab hb
    rcases cls h _ ha with hm | ⟨hk, ho⟩
    · obtain ⟨e, l0, l, q1, _⟩ := upd h _ hm
      cases q1
    · exact H.rngi h b (Ctx.inB_same (Γ := G objs φ seen w) (ha.trans ho.symm) rfl (fun b0 o0 i hp => memOf_of_block (stay h _ ho hk b0 (.inl ⟨o0, hp⟩)) i) hb)

end
section
variable {P : Program} {R : Type} {k0 : KD} {rshp : Shape} {outs : List KD} {F : k0.den → denL rshp.ks → Option R} {out : R → denL outs} {up : R → k0.den}
theorem mkMut_ok {g : Nat} {fn : Func} {code : Code} (hf : P.funcs[g]? = some fn) (hb : fn.body = some code) (hname : (fn.name == "runtime.NumGoroutine") = false)
    {C : Cfg} {Φ : Nat → PFn} {Λ : Nat → (St → Option R) → St → Option R} {into : denL outs → k0.den → R}
    (hT : TyOk P C.ty) (hΦ : ∀ g, (Φ g).Ok P g) (hN : C.N = fn.ntmps) (hshp : (((0, k0) :: rshp : Shape)).map (·.1) = List.range (rshp.length + 1)) (hsl : rshp.length + 1 ≤ fn.ntmps)
    (hsc : cntL rshp.ks = 0) (hso : cntL outs = 0) (hnp : 0 ∈ C.np)
    (hloc : ∀ (look look' : Nat → Option AO) (vs : List SV) (xs : denL rshp.ks) (es' : List Ent), extL look rshp.ks vs [] = some (xs, es') → extL look' rshp.ks vs [] = some (xs, es'))
    (hext : ∀ (look : Nat → Option AO) (vs : List SV) (es : List Ent) (xs : denL rshp.ks), extL look rshp.ks vs [] = some (xs, []) → extL look rshp.ks vs es = some (xs, es))
    (hoi : ∀ y z, out (into y z) = y) (hui : ∀ y z, up (into y z) = z)
    (hL : LoopsOk C Φ Λ (finMut C.ty fn.results.toList outs k0 into) (loopsOf C.blk code))
    (hF : ∀ (x : k0.den) (xs : denL rshp.ks) (r : R), F x xs = some r → exK C Φ Λ (finMut C.ty fn.results.toList outs k0 into) code (fun _ _ => none) (mkSt ((0, k0) :: rshp) (x, xs)) (finMut C.ty fn.results.toList outs k0 into) = some r) :
    (mkMut k0 rshp.ks outs F out up).Ok P g where
  nat := mkMut_nat
  loc := mkMut_loc hloc
  calls := by
    intro w0 W0 objs φ seen w args vals d e h H hv hG
    obtain ⟨a0, rest, x, es, xs, es', r, wr, rfl, h1, h2, h3, h4, h5, rfl⟩ := mkMut_run h
    obtain ⟨V0, Vs, rfl, hv0, hvs⟩ := hv
    have he' : es' = [] := scal_ents hsc h2 (Γ := G objs φ seen w) rfl H.obj hvs
    subst he'
    have hx : extL (G objs φ seen w).objs (Shape.ks ((0, k0) :: rshp)) (a0 :: rest) [] = some ((x, xs), es) := by
      show extL objs (k0 :: rshp.ks) (a0 :: rest) [] = _
      simp only [extL, h1, hext objs rest es xs h2]
    have hv : SV.repL (G objs φ seen w) (a0 :: rest) (V0 :: Vs) := ⟨V0, Vs, rfl, hv0, hvs⟩
    obtain ⟨φ1, g1⟩ := entered (shp := (0, k0) :: rshp) H hx h3 hv (by simpa using hshp) (N := C.N) (by rw [hN]; simpa using hsl) (pv := fun i => match i with | 0 => some V0 | _ => none) (fun i V hi => by
      cases i with
      | zero => simpa using hi
      | succ i => cases hi)
    refine ⟨fn, code, hf, hb, hname, calls_of_wp hf hb ?_⟩
    have tk : ∀ z ∈ es, z.own = true → ∀ b, entAt (G objs φ seen w) z b → ∃ h win a0, z.src = some (h, win) ∧ objs h = some a0 ∧ (G objs φ seen w).at h b ∧ a0.ro = false := by
      intro z hz ho b hp
      have p := extL_pair (base := 0) (os := []) H.obj hx hv rfl
      have hl := p.lens rfl
      obtain ⟨k, hk⟩ := List.getElem?_of_mem hz
      have hlt := (List.getElem?_eq_some_iff.1 hk).1
      have om := (p.om []).2 k z _ (Nat.zero_le _) hk (List.getElem?_eq_getElem (by omega))
      obtain ⟨h1, w1, a1, q1, q2, q3, q4⟩ := entAt_src om hp
      exact ⟨h1, w1, a1, q1, q2, q3, q4 ho⟩
    have fin : ∀ st' φ' a' w', finMut C.ty fn.results.toList outs k0 into st' = some r → Good w (takenOver (G objs φ seen w) es) C.N (fun i => match i with | 0 => some V0 | _ => none) st' φ' a' w' → a'.defers = [] ∧ ∃ v, (results fn a'.tmps).run P w' = .ok v w' ∧
        ∃ φ'', let e : Eff := ⟨valOf (bldL 0 outs (out r) []).1, wr, entHs es⟩
          e.val.rep (Af objs seen e φ'' w') v ∧ Heap w0 W0 (Af objs seen e φ'' w') w' ∧ (G objs φ seen w).le (Af objs seen e φ'' w') := by
      intro st' φ' a' w' hfin good
      unfold finMut at hfin
      split at hfin
      · rename_i vs hvs'
        split at hfin
        · rename_i y es1 z es2 hy hz
          simp only [Option.some.injEq] at hfin
          subst hfin
          rw [hui] at h5
          rw [hoi]
          obtain ⟨us, hrun, hus⟩ := results_run hT good hvs'
          refine ⟨good.defers, _, hrun, φ, ?_⟩
          have hslot : (st'.slots 0).rep (ctx st' φ' w') V0 := by
            have := good.slot 0
            rw [good.par 0 V0 rfl] at this
            exact this
          obtain ⟨m1, m2⟩ := updK_spec (Γ := G objs φ seen w) (Γ' := ctx st' φ' w') (w' := w') good.heap.obj h1 hv0 hz hslot h5
          obtain ⟨k1, k2⟩ := marked_ok H tk good.heap m1 m2 (valOf (bldL 0 outs y []).1) (entHs es)
          refine ⟨?_, k1, k2⟩
          have hlen : (bldL 0 outs y []).2.length = es1.length := (extL_pair (base := 0) (os := []) good.heap.obj hy hus rfl).lens rfl
          have hz0 : (bldL 0 outs y []).2.length = 0 := by rw [bldL_len, hso]; rfl
          obtain ⟨_, hr⟩ := extL_tgt (base := 0) good.heap.obj hy hus (Γ' := Af objs seen ⟨valOf (bldL 0 outs y []).1, wr, entHs es⟩ φ w')
            (fun k a hk => by
              have := (List.getElem?_eq_some_iff.1 hk).1
              omega)
            (fun k e hk => by
              have := (List.getElem?_eq_some_iff.1 hk).1
              omega)
            (fun k hk => by omega) (fun b => rfl) (fun _ _ => rfl)
          exact valOf_rep hr
        · simp at hfin
      · simp at hfin
    rw [← hN]
    refine exK_sound (pv := fun i => match i with | 0 => some V0 | _ => none) (fun i V hi => by
      cases i with
      | zero => exact hnp
      | succ i => cases hi) hT hΦ (hG.enter H hx hv) code _ _ _ φ1 _ w _ hL (hF x xs r h4) g1 ?_ ?_ ?_
    · intro st' φ' a' w' h' good
      exact fin st' φ' a' w' h' good
    · intro id st' φ' a' w' h' good
      cases h'
    · intro st' φ' a' w' h' good
      exact fin st' φ' a' w' h' good
end
end Go.Fx
end

noncomputable section
set_option linter.unusedVariables false
set_option autoImplicit false
namespace Go.Fx
open Go
theorem int1_loc (k : IntKind) (look look' : Nat → Option AO) (vs : List SV) (xs : denL [.one (.int k)]) (es' : List Ent) (h : extL look [.one (.int k)] vs [] = some (xs, es')) : extL look' [.one (.int k)] vs [] = some (xs, es') := by
  cases vs with
  | nil => exact h
  | cons v vs =>
    cases vs with
    | nil => cases v <;> exact h
    | cons v2 vs => cases v <;> exact h
theorem int1_ext (k : IntKind) (look : Nat → Option AO) (vs : List SV) (es : List Ent) (xs : denL [.one (.int k)]) (h : extL look [.one (.int k)] vs [] = some (xs, [])) : extL look [.one (.int k)] vs es = some (xs, es) := by
  cases vs with
  | nil => simp [extL] at h
  | cons v vs =>
    cases vs with
    | cons v2 vs =>
      simp only [extL] at h
      split at h <;> simp at h
    | nil =>
      cases v <;> simp only [extL, extK, extB] at h ⊢ <;> try (simp at h; done)
      rename_i k' n
      by_cases hk : k = k'
      · simp only [if_pos hk] at h ⊢
        simp only [Option.some.injEq, Prod.mk.injEq, and_true] at h ⊢
        exact h
      · simp [if_neg hk] at h
theorem nil_loc (look look' : Nat → Option AO) (vs : List SV) (xs : denL []) (es' : List Ent) (h : extL look [] vs [] = some (xs, es')) : extL look' [] vs [] = some (xs, es') := by
  cases vs with
  | nil => exact h
  | cons v vs => exact h
theorem nil_ext (look : Nat → Option AO) (vs : List SV) (es : List Ent) (xs : denL []) (h : extL look [] vs [] = some (xs, [])) : extL look [] vs es = some (xs, es) := by
  cases vs with
  | nil => rfl
  | cons v vs => simp [extL] at h
end Go.Fx
end

noncomputable section
set_option linter.unusedVariables false
set_option linter.unusedSimpArgs false
set_option autoImplicit false
namespace Go.Fx
open Go

/-! ### 1. One of two callees, by the closure that is handed over -/
def selFn (i f : Nat) (args : List SV) : Bool := match args[i]? with | some (.fn g _) => Nat.beq g f | _ => false
def altFn (sel : List SV → Bool) (A B : PFn) : PFn where
  run := fun args look seen d K => match sel args with
    | true => A.run args look seen d K
    | false => B.run args look seen d K

theorem altFn_ok {P : Program} {g : Nat} {sel : List SV → Bool} {A B : PFn} (hA : A.Ok P g) (hB : B.Ok P g) : (altFn sel A B).Ok P g where
  nat := by
    intro β args look seen d K
    simp only [altFn]
    split
    · exact hA.nat β args look seen d K
    · exact hB.nat β args look seen d K
  loc := by
    refine ⟨fun args look look' seen seen' d ef h S => ?_⟩
    simp only [altFn] at h ⊢
    split at h
    · rename_i hs
      exact hA.loc.loc _ _ _ _ _ _ _ h S
    · rename_i hs
      exact hB.loc.loc _ _ _ _ _ _ _ h S
  calls := by
    intro w0 W0 objs φ seen w args vals d e h H hv hG
    simp only [altFn] at h
    split at h
    · exact hA.calls w0 W0 objs φ seen w args vals d e h H hv hG
    · exact hB.calls w0 W0 objs φ seen w args vals d e h H hv hG

/-! ### 2. A slice compared with nil -/
theorem run_eql_nil {P : Program} (w : World) {t e : TypeId} (a : Option Addr) (l c : Nat) (h : P.underlying t = some (.slice e)) : (binOp .eql t (.slice a l c) (.slice none 0 0)).run P w = .ok (.bool a.isNone) w := by
  simp only [binOp]
  simp [run_equal_slice_nil w t e a l c h, asBool]

theorem wp_value {P : Program} {o : Oper} {a : Act} {w w' : World} {v : Value} {K : Act → World → Prop} {Q : Exit → Act → World → Prop} (h : (execOp a.eval o).run P w = .ok (.value v) w') (hK : K (a.put o.dst v) w') : o.wp P a w K Q := by
  unfold Oper.wp
  rw [h]
  exact hK

/-- The state behind the comparison. -/
def nilSt (d3 d4 : Nat) (b : Bool) (st : St) : St := Rec.apply ⟨1, some d4, [], ⟨.bool b, [], []⟩⟩ (Rec.apply ⟨0, some d3, [], ⟨.top, [], []⟩⟩ st)

def noOper : Oper := ⟨none, .move (.tmp 0), 0, "", #[], none⟩
/-- The parts of such a function. -/
structure NilParts where
  r0 : Code
  id : Nat
  o1 : Oper
  o2 : Oper
  cnd : Code
  rest : Code
def nilParts : Code → NilParts
  | .seq r0 (.seq (.seq (.region id ops _) cnd) rest) => match ops.toList with
    | [o1, o2] => ⟨r0, id, o1, o2, cnd, rest⟩
    | _ => ⟨.skip, 0, noOper, noOper, .skip, .skip⟩
  | _ => ⟨.skip, 0, noOper, noOper, .skip, .skip⟩

section
variable {P : Program} {R : Type} {e : EK} {own : Bool} {outs : List KD} {F : Shape.den [(0, .one (.row e own))] → Option R} {out : R → denL outs}

/-- A function of the program of one slice that compares it with nil. -/
theorem mkFn_ok_nil {g : Nat} {fn : Func} {code : Code} {t d3 d4 u q : Nat} {p : NilParts} (hp : nilParts code = p) (hf : P.funcs[g]? = some fn) (hb : fn.body = some code) (hname : (fn.name == "runtime.NumGoroutine") = false)
    (hcode : code = .seq p.r0 (.seq (.seq (.region p.id #[p.o1, p.o2] false) p.cnd) p.rest))
    (ho1 : p.o1.op = .move (.tmp 0) ∧ p.o1.dst = some d3 ∧ p.o1.guard = none) (ho2 : p.o2.op = .binOp .eql t (.tmp d3) (.const (.slice none 0 0)) q ∧ p.o2.dst = some d4 ∧ p.o2.guard = none)
    {C : Cfg} {Φ : Nat → PFn} {Λ : Nat → (St → Option R) → St → Option R} {into : denL outs → R}
    (hT : TyOk P C.ty) (hΦ : ∀ g, (Φ g).Ok P g) (hN : C.N = fn.ntmps) (hnp : C.np = [0]) (hsl : 1 ≤ fn.ntmps) (hown : outs.all ownK = true) (ht : (C.ty t).kind = .slice u) (hd3 : d3 < C.N ∧ d3 ≠ 0) (hd4 : d4 < C.N ∧ d4 ≠ 0)
    (hoi : ∀ y, out (into y) = y)
    (hl0 : loopsOf C.blk p.r0 = []) (hl1 : loopsOf C.blk p.cnd = []) (hl2 : loopsOf C.blk p.rest = [])
    (hF : ∀ (l : List e.den) r, F (l, ()) = some r → ∀ b : Bool, (b = true → l = []) → exK C Φ Λ (finOf C.ty fn.results.toList outs into) p.r0 (fun _ _ => none) (mkSt [(0, .one (.row e own))] (l, ())) (fun st1 =>
      exK C Φ Λ (finOf C.ty fn.results.toList outs into) p.cnd (fun _ _ => none) (nilSt d3 d4 b st1) fun st2 =>
      exK C Φ Λ (finOf C.ty fn.results.toList outs into) p.rest (fun _ _ => none) st2 (finOf C.ty fn.results.toList outs into)) = some r) :
    (mkFn [(0, .one (.row e own))] outs F out).Ok P g where
  nat := mkFn_nat
  loc := mkFn_loc
  calls := by
    intro w0 W0 objs φ seen w args vals d' ef h H hv hG
    obtain ⟨x, es, r, h1, h2, h3, h4, rfl⟩ := mkFn_run h
    obtain ⟨V, hV0⟩ : ∃ V, vals[0]? = some V := by
      have hl := repL_length hv
      have : args.length = 1 := by
        cases args with
        | nil =>
          have h1' : extL objs [.one (.row e own)] [] [] = some (x, es) := h1
          simp [extL] at h1'
        | cons v vs =>
          cases vs with
          | nil => rfl
          | cons v2 vs =>
            have h1' : extL objs [.one (.row e own)] (v :: v2 :: vs) [] = some (x, es) := h1
            simp only [extL] at h1'
            split at h1' <;> simp at h1'
      cases vals with
      | nil => simp [this] at hl
      | cons V vs => exact ⟨V, rfl⟩
    obtain ⟨φ1, g1⟩ := entered H h1 h2 hv rfl (N := C.N) (by rw [hN]; exact hsl) (pv := fun i => if i = 0 then some V else none) (fun i V' hi => by
      split at hi
      · rename_i h0
        subst h0
        rw [hV0]
        exact hi
      · cases hi)
    have hpv : ∀ i V', (fun i => if i = 0 then some V else none : Nat → Option Value) i = some V' → i ∈ C.np := by
      intro i V' hi
      dsimp only at hi
      split at hi
      · rename_i h0
        rw [hnp, h0]
        simp
      · cases hi
    refine ⟨fn, code, hf, hb, hname, calls_of_wp hf hb ?_⟩
    have fin : ∀ st' φ' a' w', finOf C.ty fn.results.toList outs into st' = some r → Good w (takenOver (G objs φ seen w) es) C.N (fun i => if i = 0 then some V else none) st' φ' a' w' → a'.defers = [] ∧ ∃ v, (results fn a'.tmps).run P w' = .ok v w' ∧
        ∃ φ'', let e : Eff := ⟨valOf (bldL (nm d' 0) outs (out r) []).1, killL es ++ newL (nm d' 0) (bldL (nm d' 0) outs (out r) []).2, entHs es⟩
          e.val.rep (Af objs seen e φ'' w') v ∧ Heap w0 W0 (Af objs seen e φ'' w') w' ∧ (G objs φ seen w).le (Af objs seen e φ'' w') := by
      intro st' φ' a' w' hfin good
      unfold finOf at hfin
      split at hfin
      · rename_i vs hvs
        split at hfin
        · rename_i y es' hy
          split at hfin
          · rename_i hok
            simp only [Option.some.injEq] at hfin
            subst hfin
            rw [hoi]
            obtain ⟨us, hrun, hus⟩ := results_run hT good hvs
            refine ⟨good.defers, _, hrun, ?_⟩
            exact returned_ok H h1 hv h3 hown good.heap hy hok hus
          · simp at hfin
        · simp at hfin
      · simp at hfin
    rw [← hN]
    obtain ⟨l, x2⟩ := x
    cases x2
    generalize ha : (⟨vals.toArray ++ Array.replicate (C.N - vals.toArray.size) undef, []⟩ : Act) = a at *
    have hs := g1.slot 0
    have hs' : SV.rep (ctx (mkSt [(0, .one (.row e own))] (l, ())) φ1 w) (.sl 0 .all) (a.tmps.getD 0 undef) := hs
    obtain ⟨s1, s2, s3⟩ := hs'
    have s3' : Win.ok .all l.length ∧ ∃ A cap, a.tmps.getD 0 undef = .slice A (Win.len .all l.length) cap ∧ (Win.len .all l.length ≤ cap ∧ l.length ≤ Win.off .all + cap) ∧ cap ≤ maxLen ∧
      (cap = 0 ∨ ∃ b o, φ1 0 = some (b, o) ∧ A = some ⟨b, o + Win.off .all * e.sz, none⟩ ∧ ((!own) = false → o + (Win.off .all + cap) * e.sz ≤ bsOf w b)) := s3
    obtain ⟨_, A, cap, hV, hc1, hc2, hc3⟩ := s3'
    have hVV : V = .slice A l.length cap := (g1.par 0 V (by simp)).symm.trans hV
    have hb0 : A.isNone = true → l = [] := by
      intro hA
      rcases hc3 with h0 | ⟨b, o, _, hA', _⟩
      · have : l.length ≤ cap := hc1.1
        exact List.length_eq_zero_iff.1 (by omega)
      · rw [hA'] at hA; cases hA
    have hrun := hF l r h4 A.isNone hb0
    rw [hcode]
    clear ha hs s1 s2 s3 hV
    refine wp_seq (exK_sound hpv hT hΦ (hG.enter H h1 hv) p.r0 _ _ _ φ1 _ w _ (by rw [hl0]; intro q hq; cases hq) hrun g1 ?_ (fun id st' φ' a' w' h' good => by cases h') (fun st' φ' a' w' h' good => fin st' φ' a' w' h' good))
    intro st1 φ2 a1 w1 hk1 g2
    show (Code.seq (.seq (.region p.id #[p.o1, p.o2] false) p.cnd) p.rest).wp P _ a1 w1
    refine wp_seq (wp_seq (wp_region ?_))
    have hpar := g2.par 0 V (by simp)
    have hev : a1.eval (.tmp 0) = .slice A l.length cap := hpar.trans hVV
    obtain ⟨⟨d1, op1, t1, ps1, af1, gd1⟩, e1⟩ : ∃ o, p.o1 = o := ⟨_, rfl⟩
    obtain ⟨⟨d2, op2, t2, ps2, af2, gd2⟩, e2⟩ : ∃ o, p.o2 = o := ⟨_, rfl⟩
    rw [e1] at ho1 ⊢
    rw [e2] at ho2 ⊢
    obtain ⟨q1, q2, q3⟩ := ho1
    obtain ⟨q4, q5, q6⟩ := ho2
    simp only at q1 q2 q3 q4 q5 q6
    subst q1 q2 q3 q4 q5 q6
    have hg3 : Good w (takenOver (G objs φ seen w) es) C.N (fun i => if i = 0 then some V else none) (Rec.apply ⟨0, some d3, [], ⟨.top, [], []⟩⟩ st1) φ2 (a1.put (some d3) (.slice A l.length cap)) w1 := by
      refine Good.put (e := ⟨.top, [], []⟩) (w' := w1) (φ' := φ2) g2 (fun d1 hd1 => ?_) trivial ?_ ?_
      · cases hd1
        exact ⟨hd3.1, if_neg hd3.2⟩
      · exact g2.heap
      · exact Ctx.le.refl _
    have hg4 : Good w (takenOver (G objs φ seen w) es) C.N (fun i => if i = 0 then some V else none) (nilSt d3 d4 A.isNone st1) φ2 ((a1.put (some d3) (.slice A l.length cap)).put (some d4) (.bool A.isNone)) w1 := by
      refine Good.put (e := ⟨.bool A.isNone, [], []⟩) (w' := w1) (φ' := φ2) hg3 (fun d1 hd1 => ?_) rfl ?_ ?_
      · cases hd1
        exact ⟨hd4.1, if_neg hd4.2⟩
      · exact hg3.heap
      · exact Ctx.le.refl _
    have hw : ∀ o : Oper, o.guard = none → ∀ y, Region.wanted o y = true := by
      intro o ho y
      simp [Region.wanted, ho]
    have hsz : a1.tmps.size = C.N := g2.size
    show wpOps P _ _ [0, 1] a1 w1
    rw [wpOps_cons]
    unfold wpOp
    simp only [List.getElem?_toArray, List.getElem?_cons_zero]
    rw [if_pos (hw _ rfl _)]
    refine .inl ?_
    have hrun1 : (execOp a1.eval ⟨some d3, .move (.tmp 0), t1, ps1, af1, none⟩).run P w1 = .ok (.value (.slice A l.length cap)) w1 := by
      simp only [execOp, hev]
      simp
    refine wp_value hrun1 ?_
    rw [wpOps_cons]
    unfold wpOp
    simp only [List.getElem?_toArray, List.getElem?_cons_succ, List.getElem?_cons_zero]
    rw [if_pos (hw _ rfl _)]
    refine .inl ?_
    have hev3 : (a1.put (some d3) (.slice A l.length cap)).eval (.tmp d3) = .slice A l.length cap := by
      show (a1.tmps.setIfInBounds d3 (.slice A l.length cap)).getD d3 undef = _
      have hlt : d3 < a1.tmps.size := hsz ▸ hd3.1
      simp [hlt]
    have hrun2 : (execOp (a1.put (some d3) (.slice A l.length cap)).eval ⟨some d4, .binOp .eql t (.tmp d3) (.const (.slice none 0 0)) q, t2, ps2, af2, none⟩).run P w1 = .ok (.value (.bool A.isNone)) w1 := by
      have hev2 : ∀ a : Act, a.eval (.const (.slice none 0 0)) = .slice none 0 0 := fun _ => rfl
      simp only [execOp, hev3, hev2]
      simp [eqGuard, run_eql_nil w1 A l.length cap (ty_slice hT ht)]
    refine wp_value hrun2 ?_
    show p.cnd.wp P _ ((a1.put (some d3) (.slice A l.length cap)).put (some d4) (.bool A.isNone)) w1
    refine exK_sound hpv hT hΦ (hG.enter H h1 hv) p.cnd _ _ _ φ2 _ w1 _ (by rw [hl1]; intro q hq; cases hq) hk1 hg4 ?_ (fun id st' φ' a' w' h' good => by cases h') (fun st' φ' a' w' h' good => fin st' φ' a' w' h' good)
    intro st2 φ3 a2 w2 hk2 g5
    show p.rest.wp P _ a2 w2
    refine exK_sound hpv hT hΦ (hG.enter H h1 hv) p.rest _ _ _ φ3 _ w2 _ (by rw [hl2]; intro q hq; cases hq) hk2 g5 ?_ (fun id st' φ' a' w' h' good => by cases h') (fun st' φ' a' w' h' good => fin st' φ' a' w' h' good)
    intro st' φ' a' w' h' good
    exact fin st' φ' a' w' h' good
end
end Go.Fx
end

noncomputable section
set_option linter.unusedVariables false
set_option linter.unusedSimpArgs false
set_option autoImplicit false
namespace Go.Fx
open Go

def roOk (look : Nat → Option AO) (bs : List BK) (es : List Ent) : Bool :=
  es.all fun x => match x.src with
    | some (h, _) => match look h with
      | some ⟨false, .row e _⟩ => bs.all fun b => match b with | .row e' _ => !(decide (e' = e)) | _ => true
      | _ => true
    | none => true

def noOwnB : BK → Bool
  | .row _ own => !own
  | .map _ => false
  | .tab _ => false
  | _ => true
def noMapB : BK → Bool
  | .map _ => false
  | .tab _ => false
  | _ => true
theorem noMap_no {b : BK} (h : noOwnB b = true) : noMapB b = true := by cases b <;> simp_all [noOwnB, noMapB]
theorem noMap_nos {bs : List BK} (h : bs.all noOwnB = true) : bs.all noMapB = true := by
  rw [List.all_eq_true] at h ⊢
  exact fun b hb => noMap_no (h b hb)
def noOwnK : KD → Bool
  | .one b => noOwnB b
  | .agg bs => bs.all noOwnB
  | .ints _ => true
  | _ => false

/-- The struct lies behind the first argument. -/
def mkBox {R : Type} (bs : List BK) (rs : List KD) (outs : List KD) (F : denB bs → denL rs → Option R) (out : R → denB bs × denL outs) : PFn where
  run := fun args look seen d K =>
    match args with
    | .ptr h 0 :: rest =>
      match extL look (.box true bs :: rs) (.ptr h 0 :: rest) [] with
      | some (x, es) =>
        match entsOk es && newOk seen (nm d 0) (cntL (.agg bs :: outs)) && roOk look bs es with
        | true => (F x.1 x.2).bind fun r =>
          K ⟨valOf (bldL (nm d 0) outs (out r).2 (bldBs (nm d 0) bs (out r).1 []).2).1,
             (h, some ⟨false, .cells (bldBs (nm d 0) bs (out r).1 []).1⟩) :: newL (nm d 0) (bldL (nm d 0) outs (out r).2 (bldBs (nm d 0) bs (out r).1 []).2).2, entHs es⟩
        | false => none
      | none => none
    | _ => none

def finBox {R : Type} (ty : Ty) (results : List ResultVar) (bs : List BK) (outs : List KD) (into : denB bs → denL outs → R) (st : St) : Option R :=
  match resSV ty results st with
  | some vs => match st.slots 0 with
    | .ptr h 0 => match st.objs h with
      | some ⟨false, .cells cs⟩ => match extL st.objs (.agg bs :: outs) (.agg cs :: vs) [] with
        | some (y, es) => match entsOk es with
          | true => some (into y.1 y.2)
          | false => none
        | none => none
      | _ => none
    | _ => none
  | none => none

/-- Kinds of results: numbers, truth values, texts and rows of their own. -/
def ownRB : BK → Bool
  | .int _ => true
  | .bool => true
  | .str => true
  | .row _ own => own
  | _ => false
def ownRow : KD → Bool
  | .one b => ownRB b
  | .agg bs => bs.all ownRB
  | _ => false

theorem noMap_res {b : BK} (h : ownRB b = true) : noMapB b = true := by cases b <;> simp_all [ownRB, noMapB]
theorem noMap_ress {bs : List BK} (h : bs.all ownRB = true) : bs.all noMapB = true := by
  rw [List.all_eq_true] at h ⊢
  exact fun b hb => noMap_res (h b hb)
theorem extB_more {look : Nat → Option AO} {b : BK} {v : SV} {es es1 : List Ent} {y : b.den} (hnm : noMapB b = true) (h : extB look b v es = some (y, es1)) : ∃ de, es1 = es ++ de ∧
    ∀ q ∈ de, (∃ e own, b = .row e own ∧ q.own = own) ∧ ∀ h1 w, q.src = some (h1, w) → ∃ e ro l, b = .row e q.own ∧ look h1 = some ⟨ro, .row e l⟩ := by
  cases b with
  | row e own =>
    cases v <;> simp only [extB] at h <;> try (simp at h; done)
    · simp only [Option.some.injEq, Prod.mk.injEq] at h
      refine ⟨_, h.2.symm, fun q hq => ?_⟩
      simp only [List.mem_singleton] at hq
      subst hq
      exact ⟨⟨e, own, rfl, rfl⟩, fun h1 w hs => by cases hs⟩
    · split at h
      · rename_i ro e' l ho
        split at h
        · rename_i he
          subst he
          split at h
          · simp at h
          · simp only [Option.some.injEq, Prod.mk.injEq] at h
            refine ⟨_, h.2.symm, fun q hq => ?_⟩
            simp only [List.mem_singleton] at hq
            subst hq
            refine ⟨⟨_, own, rfl, rfl⟩, fun h1 w hs => ?_⟩
            simp only [Option.some.injEq, Prod.mk.injEq] at hs
            exact ⟨_, ro, l, rfl, by rw [← hs.1]; exact ho⟩
        · simp at h
      · simp at h
  | map own => simp [noMapB] at hnm
  | tab own => simp [noMapB] at hnm
  | _ =>
    have he : es1 = es := by
      cases v
      case sl hh w =>
        cases w <;> simp only [extB] at h
        all_goals repeat' (split at h)
        all_goals first
          | (exfalso; revert h; simp; done)
          | (simp only [Option.some.injEq, Prod.mk.injEq] at h; exact h.2.symm)
      all_goals simp only [extB] at h
      all_goals repeat' (split at h)
      all_goals first
        | (exfalso; revert h; simp; done)
        | (simp only [Option.some.injEq, Prod.mk.injEq] at h; exact h.2.symm)
    exact ⟨[], by simpa using he, fun q hq => by cases hq⟩
theorem extBs_more {look : Nat → Option AO} : ∀ {bs : List BK} {vs : List SV} {es es1 : List Ent} {y : denB bs} (hnm : bs.all noMapB = true) (h : extBs look bs vs es = some (y, es1)), ∃ de, es1 = es ++ de ∧
    ∀ q ∈ de, (∃ e own, .row e own ∈ bs ∧ q.own = own) ∧ ∀ h1 w, q.src = some (h1, w) → ∃ e ro l, .row e q.own ∈ bs ∧ look h1 = some ⟨ro, .row e l⟩
  | [], vs, es, es1, y, hnm, h => by
    cases vs <;> simp only [extBs] at h <;> try (simp at h; done)
    simp only [Option.some.injEq, Prod.mk.injEq] at h
    exact ⟨[], by simpa using h.2.symm, fun q hq => by cases hq⟩
  | b :: bs, vs, es, es1, y, hnm, h => by
    simp only [List.all_cons, Bool.and_eq_true] at hnm
    cases vs with
    | nil => simp [extBs] at h
    | cons v vs =>
      simp only [extBs] at h
      split at h
      · rename_i x1 es2 hx1
        split at h
        · rename_i xs es3 hxs
          simp only [Option.some.injEq, Prod.mk.injEq] at h
          obtain ⟨rfl, rfl⟩ := h
          obtain ⟨d1, k1, p1⟩ := extB_more hnm.1 hx1
          obtain ⟨d2, k2, p2⟩ := extBs_more hnm.2 hxs
          refine ⟨d1 ++ d2, by rw [k2, k1]; simp, fun q hq => ?_⟩
          rcases List.mem_append.1 hq with hq | hq
          · obtain ⟨⟨e, own, q1, q2⟩, q3⟩ := p1 q hq
            refine ⟨⟨e, own, by rw [← q1]; exact List.mem_cons_self .., q2⟩, fun h1 w hs => ?_⟩
            obtain ⟨e, ro, l, r1, r2⟩ := q3 h1 w hs
            exact ⟨e, ro, l, by rw [← r1]; exact List.mem_cons_self .., r2⟩
          · obtain ⟨⟨e, own, q1, q2⟩, q3⟩ := p2 q hq
            refine ⟨⟨e, own, List.mem_cons_of_mem _ q1, q2⟩, fun h1 w hs => ?_⟩
            obtain ⟨e, ro, l, r1, r2⟩ := q3 h1 w hs
            exact ⟨e, ro, l, List.mem_cons_of_mem _ r1, r2⟩
        · simp at h
      · simp at h
theorem extBs_len {look : Nat → Option AO} : ∀ {bs : List BK} {vs : List SV} {es es1 : List Ent} {y : denB bs}, extBs look bs vs es = some (y, es1) → vs.length = bs.length
  | [], vs, es, es1, y, h => by cases vs <;> simp [extBs] at h ⊢
  | b :: bs, vs, es, es1, y, h => by
    cases vs with
    | nil => simp [extBs] at h
    | cons v vs =>
      simp only [extBs] at h
      split at h
      · split at h
        · rename_i hxs
          simp [extBs_len hxs]
        · simp at h
      · simp at h
theorem bldBs_fst (base : Nat) : ∀ (bs : List BK) (x : denB bs) (os : List AO), (bldBs base bs x os).1.length = bs.length
  | [], x, os => rfl
  | b :: bs, x, os => by simp [bldBs, bldBs_fst base bs]
/-- Entries of what is only looked at. -/
theorem extK_no {look : Nat → Option AO} {k : KD} (hb : noOwnK k = true) {v : SV} {es es1 : List Ent} {y : k.den} (h : extK look k v es = some (y, es1)) : ∃ de, es1 = es ++ de ∧ ∀ q ∈ de, q.own = false ∧ ∀ h1 w, q.src = some (h1, w) → ∃ e ro l, look h1 = some ⟨ro, .row e l⟩ := by
  cases k with
  | one b =>
    obtain ⟨de, h1, h2⟩ := extB_more (noMap_no hb) (by simpa only [extK] using h)
    refine ⟨de, h1, fun q hq => ?_⟩
    obtain ⟨⟨e, own, rfl, q2⟩, q3⟩ := h2 q hq
    simp only [noOwnK, noOwnB, Bool.not_eq_true'] at hb
    refine ⟨by rw [q2, hb], fun h1 w hs => ?_⟩
    obtain ⟨e, ro, l, _, r2⟩ := q3 h1 w hs
    exact ⟨e, ro, l, r2⟩
  | agg bs =>
    cases v <;> simp only [extK] at h <;> try (simp at h; done)
    obtain ⟨de, h1, h2⟩ := extBs_more (noMap_nos hb) h
    refine ⟨de, h1, fun q hq => ?_⟩
    obtain ⟨⟨e, own, q1, q2⟩, q3⟩ := h2 q hq
    simp only [noOwnK, List.all_eq_true] at hb
    have := hb _ q1
    simp only [noOwnB, Bool.not_eq_true'] at this
    refine ⟨by rw [q2, this], fun h1 w hs => ?_⟩
    obtain ⟨e, ro, l, _, r2⟩ := q3 h1 w hs
    exact ⟨e, ro, l, r2⟩
  | ints n =>
    cases v <;> simp only [extK] at h <;> try (simp at h; done)
    split at h
    · simp only [Option.some.injEq, Prod.mk.injEq] at h
      exact ⟨[], by simpa using h.2.symm, fun q hq => by cases hq⟩
    · simp at h
  | _ => simp [noOwnK] at hb
theorem extL_no {look : Nat → Option AO} : ∀ {ks : List KD} (hb : ks.all noOwnK = true) {vs : List SV} {es es1 : List Ent} {y : denL ks} (h : extL look ks vs es = some (y, es1)), ∃ de, es1 = es ++ de ∧ ∀ q ∈ de, q.own = false ∧ ∀ h1 w, q.src = some (h1, w) → ∃ e ro l, look h1 = some ⟨ro, .row e l⟩
  | [], hb, vs, es, es1, y, h => by
    cases vs <;> simp only [extL] at h <;> try (simp at h; done)
    simp only [Option.some.injEq, Prod.mk.injEq] at h
    exact ⟨[], by simpa using h.2.symm, fun q hq => by cases hq⟩
  | b :: bs, hb, vs, es, es1, y, h => by
    simp only [List.all_cons, Bool.and_eq_true] at hb
    cases vs with
    | nil => simp [extL] at h
    | cons v vs =>
      simp only [extL] at h
      split at h
      · rename_i x1 es2 hx1
        split at h
        · rename_i xs es3 hxs
          simp only [Option.some.injEq, Prod.mk.injEq] at h
          obtain ⟨rfl, rfl⟩ := h
          obtain ⟨d1, k1, p1⟩ := extK_no hb.1 hx1
          obtain ⟨d2, k2, p2⟩ := extL_no hb.2 hxs
          refine ⟨d1 ++ d2, by rw [k2, k1]; simp, fun q hq => ?_⟩
          rcases List.mem_append.1 hq with hq | hq
          · exact p1 q hq
          · exact p2 q hq
        · simp at h
      · simp at h
/-- Entries of results. -/
theorem extK_res {look : Nat → Option AO} {k : KD} (hb : ownRow k = true) {v : SV} {es es1 : List Ent} {y : k.den} (h : extK look k v es = some (y, es1)) : ∃ de, es1 = es ++ de ∧ ∀ q ∈ de, q.own = true ∧ ∀ h1 w, q.src = some (h1, w) → ∃ e ro l, look h1 = some ⟨ro, .row e l⟩ := by
  cases k with
  | one b =>
    obtain ⟨de, h1, h2⟩ := extB_more (noMap_res hb) (by simpa only [extK] using h)
    refine ⟨de, h1, fun q hq => ?_⟩
    obtain ⟨⟨e, own, rfl, q2⟩, q3⟩ := h2 q hq
    simp only [ownRow, ownRB] at hb
    refine ⟨by rw [q2, hb], fun h1 w hs => ?_⟩
    obtain ⟨e, ro, l, _, r2⟩ := q3 h1 w hs
    exact ⟨e, ro, l, r2⟩
  | agg bs =>
    cases v <;> simp only [extK] at h <;> try (simp at h; done)
    obtain ⟨de, h1, h2⟩ := extBs_more (noMap_ress hb) h
    refine ⟨de, h1, fun q hq => ?_⟩
    obtain ⟨⟨e, own, q1, q2⟩, q3⟩ := h2 q hq
    simp only [ownRow, List.all_eq_true] at hb
    have := hb _ q1
    simp only [ownRB] at this
    refine ⟨by rw [q2, this], fun h1 w hs => ?_⟩
    obtain ⟨e, ro, l, _, r2⟩ := q3 h1 w hs
    exact ⟨e, ro, l, r2⟩
  | _ => simp [ownRow] at hb
theorem extL_res {look : Nat → Option AO} : ∀ {ks : List KD} (hb : ks.all ownRow = true) {vs : List SV} {es es1 : List Ent} {y : denL ks} (h : extL look ks vs es = some (y, es1)), ∃ de, es1 = es ++ de ∧ ∀ q ∈ de, q.own = true ∧ ∀ h1 w, q.src = some (h1, w) → ∃ e ro l, look h1 = some ⟨ro, .row e l⟩
  | [], hb, vs, es, es1, y, h => by
    cases vs <;> simp only [extL] at h <;> try (simp at h; done)
    simp only [Option.some.injEq, Prod.mk.injEq] at h
    exact ⟨[], by simpa using h.2.symm, fun q hq => by cases hq⟩
  | b :: bs, hb, vs, es, es1, y, h => by
    simp only [List.all_cons, Bool.and_eq_true] at hb
    cases vs with
    | nil => simp [extL] at h
    | cons v vs =>
      simp only [extL] at h
      split at h
      · rename_i x1 es2 hx1
        split at h
        · rename_i xs es3 hxs
          simp only [Option.some.injEq, Prod.mk.injEq] at h
          obtain ⟨rfl, rfl⟩ := h
          obtain ⟨d1, k1, p1⟩ := extK_res hb.1 hx1
          obtain ⟨d2, k2, p2⟩ := extL_res hb.2 hxs
          refine ⟨d1 ++ d2, by rw [k2, k1]; simp, fun q hq => ?_⟩
          rcases List.mem_append.1 hq with hq | hq
          · exact p1 q hq
          · exact p2 q hq
        · simp at h
      · simp at h

section
variable {P : Program} {R : Type} {bs : List BK} {rs : List KD} {outs : List KD} {F : denB bs → denL rs → Option R} {out : R → denB bs × denL outs}

theorem mkBox_nat : (mkBox bs rs outs F out).Natural := by
  intro β args look seen d K
  simp only [mkBox]
  split
  · split
    · split
      · rw [Option.bind_assoc]
        rfl
      · rfl
    · rfl
  · rfl

theorem mkBox_run {args : List SV} {look : Nat → Option AO} {seen : Nat → Bool} {d : Nat} {e : Eff} (h : (mkBox bs rs outs F out).run args look seen d some = some e) :
    ∃ hh rest x es r, args = .ptr hh 0 :: rest ∧ extL look (.box true bs :: rs) (.ptr hh 0 :: rest) [] = some (x, es) ∧ entsOk es = true ∧ newOk seen (nm d 0) (cntL (.agg bs :: outs)) = true ∧ roOk look bs es = true ∧
      F x.1 x.2 = some r ∧ e = ⟨valOf (bldL (nm d 0) outs (out r).2 (bldBs (nm d 0) bs (out r).1 []).2).1,
             (hh, some ⟨false, .cells (bldBs (nm d 0) bs (out r).1 []).1⟩) :: newL (nm d 0) (bldL (nm d 0) outs (out r).2 (bldBs (nm d 0) bs (out r).1 []).2).2, entHs es⟩ := by
  simp only [mkBox] at h
  split at h
  · rename_i hh rest
    split at h
    · rename_i x es hx
      split at h
      · rename_i hc
        simp only [Bool.and_eq_true] at hc
        cases hF : F x.1 x.2 with
        | none => simp [hF] at h
        | some r =>
          simp only [hF, Option.bind_some, Option.some.injEq] at h
          exact ⟨hh, rest, x, es, r, rfl, hx, hc.1.1, hc.1.2, hc.2, hF, h.symm⟩
      · simp at h
    · simp at h
  · simp at h

theorem mkBox_loc : (mkBox bs rs outs F out).Local := by
  refine ⟨fun args look look' seen seen' d ef h S => ?_⟩
  obtain ⟨hh, rest, x, es, r, rfl, h1, h2, h3, h5, h4, rfl⟩ := mkBox_run h
  have lk : ∀ y ∈ es, ∀ hh w, y.src = some (hh, w) → look' hh = look hh := fun y hy hh w hs => S.look hh (List.mem_append_left _ (entHs_mem hy hs))
  have e1 : extL look' (.box true bs :: rs) (.ptr hh 0 :: rest) [] = some (x, es) := (extL_loc h1).2 lk
  have e2 : newOk seen' (nm d 0) (cntL (.agg bs :: outs)) = newOk seen (nm d 0) (cntL (.agg bs :: outs)) := newOk_loc fun k hk => S.seen _ (by
    simp only [List.map_cons, List.mem_cons]
    right
    rw [newL_keys, bldL_len, bldBs_len]
    simp only [List.length_nil, Nat.zero_add]
    have : cntL (.agg bs :: outs) = cntBs bs + cntL outs := by simp only [cntL, cntK]
    omega)
  have e3 : roOk look' bs es = true := by
    have h5' := h5
    unfold roOk at h5' ⊢
    rw [List.all_eq_true] at h5' ⊢
    intro y hy
    have := h5' y hy
    split
    · rename_i h' w' hs
      rw [hs] at this
      rw [lk y hy h' w' hs]
      exact this
    · rfl
  simp only [mkBox, e1, h2, e2, h3, e3, Bool.and_self, h4, Option.bind_some]

/-- What the caller has after the call. -/
theorem boxed_ok {w0 : World} {W0 : Nat → Option (Option EK) → Prop} {objs : Nat → Option AO} {φ : Nat → Option (Nat × Nat)} {seen : Nat → Bool} {w : World} (H : Heap w0 W0 (G objs φ seen w) w)
    {hh : Nat} {rest : List SV} {V0 : Value} {Vs : List Value} {x : denL (.box true bs :: rs)} {es : List Ent} (hx : extL objs (.box true bs :: rs) (.ptr hh 0 :: rest) [] = some (x, es)) (hv : SV.repL (G objs φ seen w) (.ptr hh 0 :: rest) (V0 :: Vs))
    (hbs : bs.all noOwnB = true) (hrs : rs.all noOwnK = true) (hro : roOk objs bs es = true)
    {d : Nat} (hnew : newOk seen (nm d 0) (cntL (.agg bs :: outs)) = true) (hown : outs.all ownRow = true)
    {Γ' : Ctx} {w' : World} (H' : Heap w (takenOver (G objs φ seen w) es) Γ' w') {hb : Nat} {cs' : List SV} (hb1 : Γ'.objs hb = some ⟨false, .cells cs'⟩) (hb2 : (SV.ptr hb 0).rep Γ' V0)
    {vs : List SV} {us : List Value} {z : denB bs} {y : denL outs} {es' : List Ent} (hy : extL Γ'.objs (.agg bs :: outs) (.agg cs' :: vs) [] = some ((z, y), es')) (hok : entsOk es' = true)
    (hus : SV.repL Γ' vs us) {t : List Nat} :
    ∃ φ'', let e : Eff := ⟨valOf (bldL (nm d 0) outs y (bldBs (nm d 0) bs z []).2).1, (hh, some ⟨false, .cells (bldBs (nm d 0) bs z []).1⟩) :: newL (nm d 0) (bldL (nm d 0) outs y (bldBs (nm d 0) bs z []).2).2, t⟩
      e.val.rep (Af objs seen e φ'' w') (valC us) ∧ Heap w0 W0 (Af objs seen e φ'' w') w' ∧ (G objs φ seen w).le (Af objs seen e φ'' w') := by
  have hB : bldL (nm d 0) (.agg bs :: outs) (z, y) [] = (.agg (bldBs (nm d 0) bs z []).1 :: (bldL (nm d 0) outs y (bldBs (nm d 0) bs z []).2).1, (bldL (nm d 0) outs y (bldBs (nm d 0) bs z []).2).2) := rfl
  -- the struct in the caller
  obtain ⟨V0', Vs', hVV, hv0, hvs⟩ := hv
  simp only [List.cons.injEq] at hVV
  obtain ⟨rfl, rfl⟩ := hVV
  have hv : SV.repL (G objs φ seen w) (.ptr hh 0 :: rest) (V0 :: Vs) := ⟨V0, Vs, rfl, hv0, hvs⟩
  have hhseen : seen hh = true := hv0.1
  have hbox : ∃ cs0, objs hh = some ⟨false, .cells cs0⟩ ∧ cs0.length = bs.length ∧ ∃ er, es = ⟨some (hh, .all), true⟩ :: er ∧ ∀ q ∈ er, q.own = false ∧ ∀ h1 w, q.src = some (h1, w) → ∃ e ro l, objs h1 = some ⟨ro, .row e l⟩ := by
    have hx' := hx
    simp only [extL, extK] at hx'
    split at hx'
    · rename_i x1 es1 hx1
      split at hx'
      · rename_i xs es2 hxs
        simp only [Option.some.injEq, Prod.mk.injEq] at hx'
        obtain ⟨_, rfl⟩ := hx'
        split at hx1
        · rename_i ro cs ho
          split at hx1
          · simp at hx1
          · rename_i hoo
            have hr : ro = false := by simpa using hoo
            subst hr
            refine ⟨cs, ho, extBs_len hx1, ?_⟩
            obtain ⟨d1, k1, p1⟩ := extBs_more (noMap_nos hbs) hx1
            obtain ⟨d2, k2, p2⟩ := extL_no hrs hxs
            refine ⟨d1 ++ d2, by rw [k2, k1]; simp, ?_⟩
            intro q hq
            rcases List.mem_append.1 hq with hq | hq
            · obtain ⟨⟨e, own, q1, q2⟩, q3⟩ := p1 q hq
              rw [List.all_eq_true] at hbs
              have := hbs _ q1
              simp only [noOwnB, Bool.not_eq_true'] at this
              refine ⟨by rw [q2, this], fun h1 w hs => ?_⟩
              obtain ⟨e, ro, l, _, r2⟩ := q3 h1 w hs
              exact ⟨e, ro, l, r2⟩
            · exact p2 q hq
        · simp at hx1
      · simp at hx'
    · simp at hx'
  obtain ⟨cs0, hobj0, hlen0, er, hes, her⟩ := hbox
  obtain ⟨b0, o0, hφ0, vs0, hvs0, hone0, hcell0, hown0⟩ := H.obj hh _ hobj0
  obtain ⟨T0, rfl, hheap0⟩ := hown0 rfl
  have hV0 : V0 = .pointer (some ⟨b0, 0, none⟩) := by
    have h3 := hv0.2.2
    unfold Ctx.ptrOk at h3
    have e1 : (G objs φ seen w).objs hh = some ⟨false, .cells cs0⟩ := hobj0
    rw [e1] at h3
    obtain ⟨b, o, q1, q2⟩ := h3
    have q1' : φ hh = some (b, o) := q1
    have q0 : φ hh = some (b0, 0) := hφ0
    rw [q0] at q1'
    cases q1'
    exact q2
  -- the struct in the callee
  have hφb : Γ'.φ hb = some (b0, 0) := by
    have h3 := hb2.2.2
    unfold Ctx.ptrOk at h3
    rw [hb1] at h3
    obtain ⟨b, o, q1, q2⟩ := h3
    rw [hV0] at q2
    simp only [Value.pointer.injEq, Option.some.injEq, Addr.mk.injEq, Nat.add_zero, and_true] at q2
    rw [q1, ← q2.1, ← q2.2]
  obtain ⟨b1, o1, hφ1, vs1, hvs1, hone1, hcell1, hown1⟩ := H'.obj hb _ hb1
  rw [hφb] at hφ1
  cases hφ1
  obtain ⟨T1, _, hheap1⟩ := hown1 rfl
  have hsize : vs1.toArray.size = vs0.toArray.size := by
    obtain ⟨cur', k1, k2⟩ := H'.kind b0 vs0.toArray T0 (0, 0) (H.lt hh _ b0 0 hobj0 hφ0) hheap0
    rw [hheap1] at k1
    cases k1
    exact k2
  have hus2 : SV.repL Γ' (.agg cs' :: vs) (.agg vs1.toArray :: us) := ⟨_, _, rfl, ⟨vs1, rfl, hvs1⟩, hus⟩
  generalize hos : (bldL (nm d 0) outs y (bldBs (nm d 0) bs z []).2).2 = os at *
  generalize hcs : (bldBs (nm d 0) bs z []).1 = cs at *
  generalize hval : (bldL (nm d 0) outs y (bldBs (nm d 0) bs z []).2).1 = vals at *
  have hol : os.length = cntL (.agg bs :: outs) := by
    have : (bldL (nm d 0) (.agg bs :: outs) (z, y) []).2.length = 0 + cntL (.agg bs :: outs) := bldL_len ..
    rw [hB] at this
    simpa using this
  have hlen : os.length = es'.length := by
    have := (extL_pair (base := nm d 0) (os := []) H'.obj hy hus2 rfl).lens rfl
    rw [hB] at this
    exact this
  generalize hbase : nm d 0 = base at *
  have hfresh : ∀ k, k < os.length → seen (base + k) = false := fun k hk => newOk_spec hnew k (by omega)
  let φ'' : Nat → Option (Nat × Nat) := fun h => if base ≤ h ∧ h < base + os.length then (match es'[h - base]? with | some e => entPlace Γ' e | none => none) else φ h
  refine ⟨φ'', ?_⟩
  intro e
  have s_old : ∀ h, seen h = true → ¬ (base ≤ h ∧ h < base + os.length) := by
    intro h hs hn
    have := hfresh (h - base) (by omega)
    rw [show base + (h - base) = h by omega, hs] at this
    cases this
  have hhn := s_old hh hhseen
  -- what the context holds
  have o_new : ∀ k a, os[k]? = some a → (Af objs seen e φ'' w').objs (base + k) = some a := by
    intro k a hk
    show wrObjs (newL base os) (upd objs hh (some ⟨false, .cells cs⟩)) (base + k) = some a
    exact newL_at _ hk
  have o_box : (Af objs seen e φ'' w').objs hh = some ⟨false, .cells cs⟩ := by
    show wrObjs (newL base os) (upd objs hh (some ⟨false, .cells cs⟩)) hh = _
    rw [wrObjs_ne _ _ hh (by rw [newL_keys]; exact hhn)]
    exact upd_same _ _ _
  have o_old : ∀ h, ¬ (base ≤ h ∧ h < base + os.length) → h ≠ hh → (Af objs seen e φ'' w').objs h = objs h := by
    intro h hn hk
    show wrObjs (newL base os) (upd objs hh (some ⟨false, .cells cs⟩)) h = objs h
    rw [wrObjs_ne _ _ h (by rw [newL_keys]; exact hn), upd_ne _ _ hk]
  have p_old : ∀ h, ¬ (base ≤ h ∧ h < base + os.length) → (Af objs seen e φ'' w').φ h = φ h := by
    intro h hn
    show (if base ≤ h ∧ h < base + os.length then _ else _) = _
    rw [if_neg hn]
  obtain ⟨T, hr⟩ := extL_tgt (base := base) H'.obj hy hus2 (Γ' := Af objs seen e φ'' w') (fun k a hk => o_new k a (by rw [hB] at hk; exact hk))
    (fun k x hk => by
      have hlt := (List.getElem?_eq_some_iff.1 hk).1
      show (if base ≤ base + k ∧ base + k < base + os.length then (match es'[base + k - base]? with | some e => entPlace Γ' e | none => none) else φ (base + k)) = _
      rw [if_pos (by omega), show base + k - base = k by omega, hk])
    (fun k hk => by
      rw [hB] at hk
      show wrSeen ((hh, some ⟨false, .cells cs⟩) :: newL base os) seen (base + k) = true
      refine wrSeen_mem _ _ _ ?_
      simp only [List.map_cons, List.mem_cons]
      right
      rw [newL_keys]
      have : k < os.length := hk
      omega)
    (fun b => (H'.bs b).symm) (fun b i => (H'.mem b i).symm)
  rw [hB] at T hr
  obtain ⟨Vb, Vr, hVr, hrb, hrv⟩ := hr
  simp only [List.cons.injEq] at hVr
  obtain ⟨rfl, rfl⟩ := hVr
  obtain ⟨ws, hws, hrb⟩ := hrb
  have hws' : ws = vs1 := by
    have := congrArg (fun v => match v with | Value.agg a => a.toList | _ => []) hws
    simpa using this.symm
  subst hws'
  -- kinds of the new objects
  have hkind : ∀ q ∈ es', (∀ h1 w1, q.src = some (h1, w1) → ∃ e ro l, Γ'.objs h1 = some ⟨ro, .row e l⟩) ∧ (q.own = true ∨ ∀ h1 w1, q.src = some (h1, w1) → ∃ e own ro l, .row e own ∈ bs ∧ Γ'.objs h1 = some ⟨ro, .row e l⟩) := by
    intro q hq
    have hy' := hy
    simp only [extL, extK] at hy'
    split at hy'
    · rename_i x1 es1 hx1
      split at hy'
      · rename_i xs es2 hxs
        simp only [Option.some.injEq, Prod.mk.injEq] at hy'
        obtain ⟨_, rfl⟩ := hy'
        obtain ⟨d1, k1, p1⟩ := extBs_more (noMap_nos hbs) hx1
        obtain ⟨d2, k2, p2⟩ := extL_res hown hxs
        rw [k2, k1, List.nil_append] at hq
        rcases List.mem_append.1 hq with hq | hq
        · obtain ⟨_, q3⟩ := p1 q hq
          refine ⟨fun h1 w1 hs => ?_, .inr fun h1 w1 hs => ?_⟩
          · obtain ⟨e, ro, l, _, r2⟩ := q3 h1 w1 hs
            exact ⟨e, ro, l, r2⟩
          · obtain ⟨e, ro, l, r1, r2⟩ := q3 h1 w1 hs
            exact ⟨e, _, ro, l, r1, r2⟩
        · exact ⟨(p2 q hq).2, .inl (p2 q hq).1⟩
      · simp at hy'
    · simp at hy'
  -- no entry is a table
  have notab : ∀ z ∈ es, ∀ h1 v1, z.src = some (h1, v1) → ∀ b, ¬ (G objs φ seen w).inB h1 b := by
    intro z hz h1 v1 hs b hb
    obtain ⟨ro, ll, ht⟩ := Ctx.inB_tab hb
    have ht' : objs h1 = some ⟨ro, .tab ll⟩ := ht
    rw [hes] at hz
    rcases List.mem_cons.1 hz with rfl | hz
    · simp only [Option.some.injEq, Prod.mk.injEq] at hs
      rw [← hs.1, hobj0] at ht'
      cases ht'
    · obtain ⟨e, ro2, l, q⟩ := (her z hz).2 h1 v1 hs
      rw [q] at ht'
      cases ht'
  -- the entries that are taken over
  have tk : ∀ z ∈ es, z.own = true → ∀ b, entAt (G objs φ seen w) z b → b = b0 := by
    intro z hz ho b hp
    rcases hp with ⟨o, hp⟩ | ⟨h1, v1, hs, hp⟩
    · rw [hes] at hz
      rcases List.mem_cons.1 hz with rfl | hz
      · unfold entPlace at hp
        have e1 : φ hh = some (b0, 0) := hφ0
        have e2 : objs hh = some ⟨false, .cells cs0⟩ := hobj0
        simp only [G, e1, e2, Option.some.injEq, Prod.mk.injEq] at hp
        exact hp.1.symm
      · rw [(her z hz).1] at ho; cases ho
    · exact absurd hp (notab z hz h1 v1 hs b)
  have apart0 : ∀ h a, objs h = some a → h ≠ hh → ∀ b, (G objs φ seen w).at h b → b ≠ b0 := by
    intro h a ha hk b hp hbb
    subst hbb
    have := H.sep2 h hh a _ b ha hobj0 hp (.inl ⟨0, hφ0⟩) hk
    cases this.2
  have stay : ∀ h a, objs h = some a → h ≠ hh → ∀ b, (G objs φ seen w).at h b → ¬ takenOver (G objs φ seen w) es b none := by
    rintro h a ha hk b hp ⟨z, hz, ho, hpz⟩
    exact apart0 h a ha hk b hp (tk z hz ho b hpz)
  have blk : ∀ h a, objs h = some a → h ≠ hh → ∀ b, (G objs φ seen w).at h b → w'.heap[b]? = w.heap[b]? := fun h a ha hk b hp => H'.keep b (H.lt2 h a b ha hp) (stay h a ha hk b hp)
  have hle : (G objs φ seen w).le (Af objs seen e φ'' w') := by
    refine le_of (fun h hs => wrSeen_keep _ _ _ hs) (fun h hs => ?_)
    have hn := s_old h hs
    by_cases hk : h = hh
    · subst hk
      refine .inr ⟨_, _, hobj0, o_box, ⟨rfl, hlen0.trans (by rw [← hcs, bldBs_fst])⟩, p_old h hn, fun b o hp => ?_⟩
      have hp' : φ h = some (b, o) := hp
      have q0 : φ h = some (b0, 0) := hφ0
      rw [q0] at hp'
      cases hp'
      show bsOf w' b0 = bsOf w b0
      simp only [bsOf, hheap0, hheap1, hsize]
    · rw [o_old h hn hk]
      cases ho : objs h with
      | none => exact .inl rfl
      | some a =>
        refine .inr ⟨a, a, ho, rfl, AO.like.refl a, p_old h hn, fun b o hp => ?_⟩
        show bsOf w' b = bsOf w b
        unfold bsOf
        rw [blk h a ho hk b (.inl ⟨o, hp⟩)]
  have classify : ∀ h a, (Af objs seen e φ'' w').objs h = some a → (∃ k, h = base + k ∧ os[k]? = some a) ∨ (h = hh ∧ a = ⟨false, .cells cs⟩) ∨ (¬ (base ≤ h ∧ h < base + os.length) ∧ h ≠ hh ∧ objs h = some a) := by
    intro h a ha
    by_cases hn : base ≤ h ∧ h < base + os.length
    · left
      refine ⟨h - base, by omega, ?_⟩
      have hlt : h - base < os.length := by omega
      have h1 := o_new (h - base) _ (List.getElem?_eq_getElem hlt)
      rw [show base + (h - base) = h by omega, ha] at h1
      rw [List.getElem?_eq_getElem hlt]
      exact h1.symm
    · right
      by_cases hk : h = hh
      · subst hk
        rw [o_box] at ha
        exact .inl ⟨rfl, by cases ha; rfl⟩
      · rw [o_old h hn hk] at ha
        exact .inr ⟨hn, hk, ha⟩
  -- new objects
  have fresh : ∀ k a b o, os[k]? = some a → (Af objs seen e φ'' w').φ (base + k) = some (b, o) → ∃ z h1 w1 a1 o1, es'[k]? = some z ∧ z.src = some (h1, w1) ∧ Γ'.objs h1 = some a1 ∧ Γ'.φ h1 = some (b, o1) ∧ (z.own = true → a1.ro = false) ∧ a.ro = !z.own ∧ a1.tag = a.tag ∧ (z.own = true ∨ ∃ e own, .row e own ∈ bs ∧ a1.tag = some e) := by
    intro k a b o hk hp
    have hlt : k < es'.length := by
      have := (List.getElem?_eq_some_iff.1 hk).1
      omega
    have hz := List.getElem?_eq_getElem hlt
    have om := T.om k _ a hz hk
    rw [T.φ k _ hz] at hp
    obtain ⟨h1, w1, a1, o1, q1, q2, q3, q4⟩ := (OM_src om).2 b o hp
    obtain ⟨h2, w2, a2, o2, r1, r2, r3, r4⟩ := OM_tag om hp
    rw [q1] at r1
    cases r1
    rw [q2] at r2
    cases r2
    refine ⟨_, h1, w1, a1, o1, hz, q1, q2, q3, q4, (OM_src om).1, r4, ?_⟩
    rcases (hkind es'[k] (List.mem_of_getElem? hz)).2 with h | h
    · exact .inl h
    · right
      obtain ⟨e, own, ro, l, p1, p2⟩ := h h1 w1 q1
      rw [q2] at p2
      cases p2
      exact ⟨e, own, p1, rfl⟩
  -- a new object has one block
  have newat : ∀ k a b, os[k]? = some a → (Af objs seen e φ'' w').at (base + k) b → ∃ o, (Af objs seen e φ'' w').φ (base + k) = some (b, o) := by
    intro k a b hk hp
    rcases hp with hp | hp
    · exact hp
    · exfalso
      have hlt : k < es'.length := by
        have := (List.getElem?_eq_some_iff.1 hk).1
        omega
      have hz := List.getElem?_eq_getElem hlt
      obtain ⟨h1, v1, q1, q2⟩ := T.inB hz hp
      obtain ⟨ro, ll, q3⟩ := Ctx.inB_tab q2
      obtain ⟨ek, rok, lk, hk1⟩ := (hkind es'[k] (List.mem_of_getElem? hz)).1 h1 v1 q1
      rw [q3] at hk1
      cases hk1
  -- blocks of old objects that stay
  have oldmem : ∀ h a, objs h = some a → h ≠ hh → ∀ b0 o0 i, (G objs φ seen w).φ h = some (b0, o0) → (Af objs seen e φ'' w').mem b0 i = (G objs φ seen w).mem b0 i := by
    intro h a ho hk b0 o0 i hp
    exact memOf_of_block (blk h a ho hk b0 (.inl ⟨o0, hp⟩)) i
  have oldat : ∀ h a b, ¬ (base ≤ h ∧ h < base + os.length) → h ≠ hh → objs h = some a → (Af objs seen e φ'' w').at h b → (G objs φ seen w).at h b := by
    intro h a b hn hk ho hb
    exact Ctx.at_same (Γ := G objs φ seen w) (o_old h hn hk) (p_old h hn) (oldmem h a ho hk) hb
  have boxat : ∀ b, (Af objs seen e φ'' w').at hh b → b = b0 := by
    intro b hb
    obtain ⟨o, hb⟩ := Ctx.at_one (Γ := Af objs seen e φ'' w') o_box (fun ll q => by cases q) hb
    rw [p_old hh hhn] at hb
    have q0 : φ hh = some (b0, 0) := hφ0
    rw [q0] at hb
    cases hb
    rfl
  -- a new object is not where the struct is
  have notbox : ∀ k a b o, os[k]? = some a → (Af objs seen e φ'' w').φ (base + k) = some (b, o) → b ≠ b0 := by
    intro k a b o hk hp hbb
    subst hbb
    obtain ⟨z1, h1, w1, a1, o1, q0, q1, q2, q3, q4, q5, q6, q7⟩ := fresh k a b o hk hp
    have hne : h1 ≠ hb := by
      rintro rfl
      obtain ⟨ek, rok, lk, hk1⟩ := (hkind z1 (List.mem_of_getElem? q0)).1 h1 w1 q1
      rw [hb1] at hk1
      cases hk1
    have := H'.sep h1 hb a1 _ b o1 0 q2 hb1 q3 hφb hne
    cases this.2
  -- a new object and an old one
  have mixed : ∀ k a b o, os[k]? = some a → (Af objs seen e φ'' w').φ (base + k) = some (b, o) → ∀ h a', h ≠ hh → objs h = some a' → (G objs φ seen w).at h b → a.ro = true ∧ a'.ro = true := by
    intro k a b o hk hp h a' hkl ho hp'
    obtain ⟨z1, h1, w1, a1, o1, q0, q1, q2, q3, q4, q5, q6, q7⟩ := fresh k a b o hk hp
    have hlt := H.lt2 h a' b ho hp'
    cases hz : z1.own with
    | true =>
      exfalso
      rcases H'.own h1 a1 b o1 q2 (q4 hz) q3 with hge | htk
      · omega
      · exact stay h a' ho hkl b hp' htk
    | false =>
      refine ⟨by rw [q5, hz]; rfl, ?_⟩
      rcases H'.rng h1 a1 b o1 q2 q3 with hge | ⟨x2, h2, w2, a2, o2, r1, r2, r3, r4, r5⟩ | ⟨_, x2, h2, w2, r1, r2, r3⟩
      · omega
      · obtain ⟨ek, own, p1, p2⟩ := q7.resolve_left (by rw [hz]; simp)
        have hro2 : a2.ro = true := by
          have hh5 := hro
          unfold roOk at hh5
          rw [List.all_eq_true] at hh5
          have := hh5 x2 r1
          rw [r2] at this
          have r3' : objs h2 = some a2 := r3
          simp only [r3'] at this
          rw [p2] at r5
          obtain ⟨ro2, ob2⟩ := a2
          cases ob2 with
          | row e2 l2 =>
            simp only [AO.tag, Option.some.injEq] at r5
            subst r5
            cases ro2 with
            | true => rfl
            | false =>
              simp only [List.all_eq_true] at this
              have := this _ p1
              simp at this
          | cells c => cases r5
          | arr n l => cases r5
          | byt l => cases r5
          | map l => cases r5
          | tab l => cases r5
        by_cases h2h : h = h2
        · subst h2h
          have r3' : objs h = some a2 := r3
          rw [ho] at r3'
          cases r3'
          exact hro2
        · exact (H.sep2 h h2 a' a2 b ho r3 hp' (.inl ⟨o2, r4⟩) h2h).1
      · exact absurd r3 (notab x2 r1 h2 w2 r2 b)
  refine ⟨valOf_rep hrv, ⟨H'.os.trans H.os, ⟨H'.tape.1.trans H.tape.1, H.tape.2.trans H'.tape.2⟩, H'.output.trans H.output, Nat.le_trans H.size H'.size, ?_, ?_, fun _ => rfl, fun _ _ => rfl, ?_, ?_, ?_, ?_, ?_, ?_, ?_⟩, hle⟩
  · intro b hbl hW
    have hnt : ¬ takenOver (G objs φ seen w) es b none := by
      rintro ⟨z, hz, ho, hpz⟩
      have := tk z hz ho b hpz
      subst this
      rcases H.own hh _ b 0 hobj0 rfl hφ0 with h | h
      · omega
      · exact hW h
    rw [H'.keep b (Nat.lt_of_lt_of_le hbl H.size) hnt, H.keep b hbl hW]
  · intro b cur T fz hbl hw
    obtain ⟨c1, k1, k2⟩ := H.kind b cur T fz hbl hw
    obtain ⟨c2, k3, k4⟩ := H'.kind b c1 T fz (Nat.lt_of_lt_of_le hbl H.size) k1
    exact ⟨c2, k3, k4.trans k2⟩
  · intro h a ha
    rcases classify h a ha with ⟨k, rfl, hk⟩ | ⟨rfl, rfl⟩ | ⟨hn, hkl, ho⟩
    · have hlt : k < es'.length := by
        have := (List.getElem?_eq_some_iff.1 hk).1
        omega
      exact OM_rep T H'.obj (List.getElem?_eq_getElem hlt) hk
    · exact ⟨b0, 0, (p_old h hhn).trans hφ0, ws, hrb, hone1, hcell1, fun _ => ⟨T1, rfl, hheap1⟩⟩
    · exact oRep_le hle (p_old h hn) H.mem ho (fun b hp => blk h a ho hkl b hp) (H.obj h a ho)
  · intro h a ha
    rcases classify h a ha with ⟨k, rfl, hk⟩ | ⟨rfl, rfl⟩ | ⟨hn, hkl, ho⟩
    · exact T.seen k (List.getElem?_eq_some_iff.1 hk).1
    · exact hle.seen h hhseen
    · exact hle.seen h (H.sn h a ho)
  · intro h a b ha hp
    rcases classify h a ha with ⟨k, rfl, hk⟩ | ⟨rfl, rfl⟩ | ⟨hn, hkl, ho⟩
    · obtain ⟨o, hp⟩ := newat k a b hk hp
      obtain ⟨z, h1, w1, a1, o1, _, _, q2, q3, _⟩ := fresh k a b o hk hp
      exact H'.lt h1 a1 b o1 q2 q3
    · have := boxat b hp
      subst this
      exact Nat.lt_of_lt_of_le (H.lt h _ b 0 hobj0 hφ0) H'.size
    · exact Nat.lt_of_lt_of_le (H.lt2 h a b ho (oldat h a b hn hkl ho hp)) H'.size
  · intro h h' a a' b ha ha' hp hp' hne
    rcases classify h a ha with ⟨k, rfl, hk⟩ | ⟨rfl, rfl⟩ | ⟨hn, hkl, ho⟩
    · obtain ⟨o, hp⟩ := newat k a b hk hp
      rcases classify h' a' ha' with ⟨k', rfl, hk'⟩ | ⟨rfl, rfl⟩ | ⟨hn', hkl', ho'⟩
      · obtain ⟨o', hp'⟩ := newat k' a' b hk' hp'
        obtain ⟨z, h1, w1, a1, o1, z1, z2, q2, q3, q4, q5, _⟩ := fresh k a b o hk hp
        obtain ⟨z', h1', w1', a1', o1', z1', z2', q2', q3', q4', q5', _⟩ := fresh k' a' b o' hk' hp'
        have hkk : k ≠ k' := fun e => hne (by rw [e])
        have hown2 : z.own = false ∧ z'.own = false := by
          by_cases hh1 : h1 = h1'
          · subst hh1
            have hap : z.apart z' = true ∨ z'.apart z = true := by
              rcases Nat.lt_or_ge k k' with h | h
              · exact .inl (entsOk_spec hok k k' z z' h z1 z1')
              · exact .inr (entsOk_spec hok k' k z' z (by omega) z1' z1)
            unfold Ent.apart at hap
            rw [z2, z2'] at hap
            simp at hap
            rcases hap with h | h
            · exact h
            · exact ⟨h.2, h.1⟩
          · have := H'.sep h1 h1' a1 a1' b o1 o1' q2 q2' q3 q3' hh1
            refine ⟨?_, ?_⟩
            · cases hq : z.own with
              | false => rfl
              | true => rw [q4 hq] at this; cases this.1
            · cases hq : z'.own with
              | false => rfl
              | true => rw [q4' hq] at this; cases this.2
        rw [q5, q5', hown2.1, hown2.2]
        exact ⟨rfl, rfl⟩
      · exact absurd (boxat b hp') (notbox k a b o hk hp)
      · exact mixed k a b o hk hp h' a' hkl' ho' (oldat h' a' b hn' hkl' ho' hp')
    · have hb0 := boxat b hp
      rcases classify h' a' ha' with ⟨k', rfl, hk'⟩ | ⟨rfl, rfl⟩ | ⟨hn', hkl', ho'⟩
      · obtain ⟨o', hp'⟩ := newat k' a' b hk' hp'
        exact absurd hb0 (notbox k' a' b o' hk' hp')
      · exact absurd rfl hne
      · exact absurd hb0 (apart0 h' a' ho' hkl' b (oldat h' a' b hn' hkl' ho' hp'))
    · have hp2 := oldat h a b hn hkl ho hp
      rcases classify h' a' ha' with ⟨k', rfl, hk'⟩ | ⟨rfl, rfl⟩ | ⟨hn', hkl', ho'⟩
      · obtain ⟨o', hp'⟩ := newat k' a' b hk' hp'
        exact (mixed k' a' b o' hk' hp' h a hkl ho hp2).symm
      · exact absurd (boxat b hp') (apart0 h a ho hkl b hp2)
      · exact H.sep2 h h' a a' b ho ho' hp2 (oldat h' a' b hn' hkl' ho' hp') hne
  · intro h a b ha hro2 hp
    rcases classify h a ha with ⟨k, rfl, hk⟩ | ⟨rfl, rfl⟩ | ⟨hn, hkl, ho⟩
    · obtain ⟨o, hp⟩ := newat k a b hk hp
      obtain ⟨z, h1, w1, a1, o1, _, _, q2, q3, q4, q5, _⟩ := fresh k a b o hk hp
      have hzo : z.own = true := by
        rw [hro2] at q5
        simpa using q5.symm
      rcases H'.own h1 a1 b o1 q2 (q4 hzo) q3 with hge | ⟨z', hz, hoz, hpz⟩
      · exact .inl (Nat.le_trans H.size hge)
      · have := tk z' hz hoz b hpz
        subst this
        exact H.own hh _ b 0 hobj0 rfl hφ0
    · have := boxat b hp
      subst this
      exact H.own h _ b 0 hobj0 rfl hφ0
    · exact H.own2 h a b ho hro2 (oldat h a b hn hkl ho hp)
  · intro h a b o ha hp
    rcases classify h a ha with ⟨k, rfl, hk⟩ | ⟨rfl, rfl⟩ | ⟨hn, hkl, ho⟩
    · obtain ⟨z, h1, w1, a1, o1, _, _, q2, q3, q4, q5, q6, _⟩ := fresh k a b o hk hp
      rcases H'.rng h1 a1 b o1 q2 q3 with hge | ⟨z', h2, w2, a2, o2, _, _, r2, r3, r4⟩ | ⟨_, z', h2, w2, r1, r2, r3⟩
      · exact .inl (Nat.le_trans H.size hge)
      · rw [← q6, ← r4]
        exact H.rng h2 a2 b o2 r2 r3
      · exact absurd r3 (notab z' r1 h2 w2 r2 b)
    · rw [p_old h hhn] at hp
      exact show w0.heap.size ≤ b ∨ W0 b (some none) from H.rng h ⟨false, .cells cs0⟩ b o hobj0 hp
    · rw [p_old h hn] at hp
      exact H.rng h a b o ho hp
  · intro h b hb
    obtain ⟨ro, ll, ha⟩ := Ctx.inB_tab hb
    rcases classify h _ ha with ⟨k, rfl, hk⟩ | ⟨_, q⟩ | ⟨hn, hkl, ho⟩
    · exfalso
      have hlt : k < es'.length := by
        have := (List.getElem?_eq_some_iff.1 hk).1
        omega
      have hz := List.getElem?_eq_getElem hlt
      obtain ⟨h1, v1, q1, q2⟩ := T.inB hz hb
      obtain ⟨ro3, ll3, q3⟩ := Ctx.inB_tab q2
      obtain ⟨ek, rok, lk, hk1⟩ := (hkind es'[k] (List.mem_of_getElem? hz)).1 h1 v1 q1
      rw [q3] at hk1
      cases hk1
    · cases q
    · exact H.rngi h b (Ctx.inB_same (Γ := G objs φ seen w) (o_old h hn hkl) (p_old h hn) (oldmem h _ ho hkl) hb)

end
section
variable {P : Program} {R : Type} {bs : List BK} {rshp : Shape} {outs : List KD} {F : denB bs → denL rshp.ks → Option R} {out : R → denB bs × denL outs}
theorem mkBox_ok {g : Nat} {fn : Func} {code : Code} (hf : P.funcs[g]? = some fn) (hb : fn.body = some code) (hname : (fn.name == "runtime.NumGoroutine") = false)
    {C : Cfg} {Φ : Nat → PFn} {Λ : Nat → (St → Option R) → St → Option R} {into : denB bs → denL outs → R}
    (hT : TyOk P C.ty) (hΦ : ∀ g, (Φ g).Ok P g) (hN : C.N = fn.ntmps) (hshp : (((0, .box true bs) :: rshp : Shape)).map (·.1) = List.range (rshp.length + 1)) (hsl : rshp.length + 1 ≤ fn.ntmps)
    (hbs : bs.all noOwnB = true) (hrs : rshp.ks.all noOwnK = true) (hown : outs.all ownRow = true) (hnp : 0 ∈ C.np)
    (hoi : ∀ z y, out (into z y) = (z, y))
    (hL : LoopsOk C Φ Λ (finBox C.ty fn.results.toList bs outs into) (loopsOf C.blk code))
    (hF : ∀ (x : denB bs) (xs : denL rshp.ks) (r : R), F x xs = some r → exK C Φ Λ (finBox C.ty fn.results.toList bs outs into) code (fun _ _ => none) (mkSt ((0, .box true bs) :: rshp) (x, xs)) (finBox C.ty fn.results.toList bs outs into) = some r) :
    (mkBox bs rshp.ks outs F out).Ok P g where
  nat := mkBox_nat
  loc := mkBox_loc
  calls := by
    intro w0 W0 objs φ seen w args vals d e h H hv hG
    obtain ⟨hh, rest, x, es, r, rfl, h1, h2, h3, h5, h4, rfl⟩ := mkBox_run h
    obtain ⟨V0, Vs, rfl, hv0, hvs⟩ := hv
    have hv : SV.repL (G objs φ seen w) (.ptr hh 0 :: rest) (V0 :: Vs) := ⟨V0, Vs, rfl, hv0, hvs⟩
    have hx : extL (G objs φ seen w).objs (Shape.ks ((0, .box true bs) :: rshp)) (.ptr hh 0 :: rest) [] = some (x, es) := h1
    obtain ⟨φ1, g1⟩ := entered (shp := (0, .box true bs) :: rshp) H hx h2 hv (by simpa using hshp) (N := C.N) (by rw [hN]; simpa using hsl) (pv := fun i => match i with | 0 => some V0 | _ => none) (fun i V hi => by
      cases i with
      | zero => simpa using hi
      | succ i => cases hi)
    refine ⟨fn, code, hf, hb, hname, calls_of_wp hf hb ?_⟩
    have fin : ∀ st' φ' a' w', finBox C.ty fn.results.toList bs outs into st' = some r → Good w (takenOver (G objs φ seen w) es) C.N (fun i => match i with | 0 => some V0 | _ => none) st' φ' a' w' → a'.defers = [] ∧ ∃ v, (results fn a'.tmps).run P w' = .ok v w' ∧
        ∃ φ'', let e : Eff := ⟨valOf (bldL (nm d 0) outs (out r).2 (bldBs (nm d 0) bs (out r).1 []).2).1, (hh, some ⟨false, .cells (bldBs (nm d 0) bs (out r).1 []).1⟩) :: newL (nm d 0) (bldL (nm d 0) outs (out r).2 (bldBs (nm d 0) bs (out r).1 []).2).2, entHs es⟩
          e.val.rep (Af objs seen e φ'' w') v ∧ Heap w0 W0 (Af objs seen e φ'' w') w' ∧ (G objs φ seen w).le (Af objs seen e φ'' w') := by
      intro st' φ' a' w' hfin good
      unfold finBox at hfin
      split at hfin
      · rename_i vs hvs'
        split at hfin
        · rename_i hb' hslot0
          split at hfin
          · rename_i cs hobjb
            split at hfin
            · rename_i y es' hy
              split at hfin
              · rename_i hok
                simp only [Option.some.injEq] at hfin
                subst hfin
                rw [hoi]
                obtain ⟨us, hrun, hus⟩ := results_run hT good hvs'
                refine ⟨good.defers, _, hrun, ?_⟩
                have hslot : (SV.ptr hb' 0).rep (ctx st' φ' w') V0 := by
                  have := good.slot 0
                  rw [good.par 0 V0 rfl, hslot0] at this
                  exact this
                exact boxed_ok H h1 hv hbs hrs h5 h3 hown good.heap hobjb hslot hy hok hus
              · simp at hfin
            · simp at hfin
          · simp at hfin
        · simp at hfin
      · simp at hfin
    rw [← hN]
    refine exK_sound (pv := fun i => match i with | 0 => some V0 | _ => none) (fun i V hi => by
      cases i with
      | zero => exact hnp
      | succ i => cases hi) hT hΦ (hG.enter H hx hv) code _ _ _ φ1 _ w _ hL (hF x.1 x.2 r h4) g1 ?_ ?_ ?_
    · intro st' φ' a' w' h' good
      exact fin st' φ' a' w' h' good
    · intro id st' φ' a' w' h' good
      cases h'
    · intro st' φ' a' w' h' good
      exact fin st' φ' a' w' h' good
end
end Go.Fx
end

noncomputable section
set_option linter.unusedVariables false
set_option linter.unusedSimpArgs false
set_option autoImplicit false
namespace Go.Fx
open Go

theorem turned_ok {w0 : World} {W0 : Nat → Option (Option EK) → Prop} {objs : Nat → Option AO} {φ : Nat → Option (Nat × Nat)} {seen : Nat → Bool} {w : World} (H : Heap w0 W0 (G objs φ seen w) w) {es : List Ent} {w' : World} {wr : List (Nat × Option AO)}
    (hes : ∀ z ∈ es, z.own = true → ∀ b, entAt (G objs φ seen w) z b → ∃ h win a0, z.src = some (h, win) ∧ objs h = some a0 ∧ (G objs φ seen w).at h b ∧ a0.ro = false)
    (f1 : w'.os = w.os) (f2 : w'.tape = w.tape ∧ DrawOk w w') (f3 : w'.output = w.output) (f4 : w.heap.size ≤ w'.heap.size)
    (f5 : ∀ b, b < w.heap.size → ¬ takenOver (G objs φ seen w) es b none → w'.heap[b]? = w.heap[b]?)
    (f6 : ∀ b cur T fz, b < w.heap.size → w.heap[b]? = some (.cells cur T fz) → ∃ cur', w'.heap[b]? = some (.cells cur' T fz) ∧ cur'.size = cur.size)
    (h1 : ∀ p ∈ wr, MUp (G objs φ seen w) w' p.1 p.2) (h2 : ∀ m ∈ es, ∀ hh win, m.src = some (hh, win) → hh ∈ wr.map (·.1)) (v : SV) (t : List Nat) :
    Heap w0 W0 (Af objs seen ⟨v, wr, t⟩ φ w') w' ∧ (G objs φ seen w).le (Af objs seen ⟨v, wr, t⟩ φ w') := by
  have H' : Heap w (takenOver (G objs φ seen w) es) (G (fun _ => none) (fun _ => none) (fun _ => false) w') w' :=
    ⟨f1, f2, f3, f4, f5, f6, fun _ => rfl, fun _ _ => rfl, fun h a ha => (by cases ha), fun h a ha => (by cases ha), fun h a b ha => (by cases ha), fun h h' a a' b ha => (by cases ha), fun h a b ha => (by cases ha), fun h a b o ha => (by cases ha), fun h b hb => (by obtain ⟨ro, ll, ha⟩ := Ctx.inB_tab hb; cases ha)⟩
  exact marked_ok H hes H' h1 h2 v t

end Go.Fx
end

noncomputable section
set_option linter.unusedVariables false
set_option autoImplicit false
namespace Go.Fx
open Go
theorem mkFn_none {P : Program} {R : Type} {shp : Shape} {outs : List KD} {F : shp.den → Option R} {out : R → denL outs} {g : Nat} (hF : ∀ x, F x = none) : (mkFn shp outs F out).Ok P g where
  nat := mkFn_nat
  loc := mkFn_loc
  calls := by
    intro w0 W0 objs φ seen w args vals d e h H hv hG
    obtain ⟨x, es, r, _, _, _, h4, _⟩ := mkFn_run h
    rw [hF x] at h4
    cases h4
end Go.Fx
end

noncomputable section
set_option linter.unusedVariables false
set_option autoImplicit false
namespace Go.Fx
open Go
/-- What is left of a row of statements behind the first k. -/
def spineAt : Nat → Code → Code
  | 0, c => c
  | k + 1, .seq _ b => spineAt k b
  | _ + 1, c => c
def spineOk : Nat → Code → Bool
  | 0, _ => true
  | k + 1, .seq _ b => spineOk k b
  | _ + 1, _ => false
/-- The first k + 1 statements; the rest is told by G. -/
def exSeg {β : Type} (C : Cfg) (Φ : Nat → PFn) (Λ : Nat → (St → Option β) → St → Option β) (fin : St → Option β) (X : Nat → St → Option β) (s : Shape) (G : s.den → Option β) : Nat → Code → St → Option β
  | 0, .seq a b, st => exK C Φ Λ fin a X st fun st' => match absSt s st' with | some (x, _) => G x | none => none
  | k + 1, .seq a b, st => exK C Φ Λ fin a X st fun st' => match joinOf C b with
      | none => exSeg C Φ Λ fin X s G k b st'
      | some s1 => match absSt s1 st' with
        | some (x, _) => exSeg C Φ Λ fin X s G k b (mkSt s1 x)
        | none => none
  | _, _, _ => none
theorem seg_eq {β : Type} {C : Cfg} {Φ : Nat → PFn} {Λ : Nat → (St → Option β) → St → Option β} {fin : St → Option β} {X : Nat → St → Option β} {s : Shape} {G : s.den → Option β} {K : St → Option β} :
    ∀ (k : Nat) {c d : Code} {st : St}, spineOk (k + 1) c = true → d = spineAt (k + 1) c → joinOf C d = some s → (∀ x, G x = exK C Φ Λ fin d X (mkSt s x) K) → exSeg C Φ Λ fin X s G k c st = exK C Φ Λ fin c X st K
  | 0, c, d, st, hok, hd, hj, hG => by
    cases c <;> simp only [spineOk] at hok <;> try (cases hok; done)
    rename_i a b
    have hd' : d = b := hd
    subst hd'
    simp only [exSeg, exK, hj]
    congr 1
    funext st'
    cases habs : absSt s st' with
    | none => rfl
    | some p => exact hG p.1
  | k + 1, c, d, st, hok, hd, hj, hG => by
    cases c <;> try (simp only [spineOk] at hok; cases hok; done)
    rename_i a b
    have hok' : spineOk (k + 1) b = true := hok
    have hd' : d = spineAt (k + 1) b := hd
    have ih : ∀ st, exSeg C Φ Λ fin X s G k b st = exK C Φ Λ fin b X st K := fun st => seg_eq k hok' hd' hj hG
    simp only [exSeg, exK, ih]
    rfl
end Go.Fx
end

noncomputable section
set_option linter.unusedVariables false
set_option linter.unusedSimpArgs false
set_option autoImplicit false
namespace Go.Fx
open Go

/-- The map behind the j-th argument. -/
def mapArg (look : Nat → Option AO) (args : List SV) (j : Nat) : Option (Nat × Nat × List ((Int × Int) × Int)) :=
  match args[j]? with
  | some (.ptr h 0) => match look h with
    | some ⟨_, .cells [.mp m]⟩ => match look m with
      | some ⟨false, .map l⟩ => some (h, m, l)
      | _ => none
    | _ => none
  | _ => none
def onlyMap (m : Nat) (es : List Ent) : Bool := es.all fun z => match z with
  | ⟨_, false⟩ => true
  | ⟨some (h, .all), true⟩ => Nat.beq h m
  | _ => false

def mkMap {R : Type} (ks : List KD) (outs : List KD) (j : Nat) (F : denL ks → Option R) (out : R → denL outs) (up : R → List ((Int × Int) × Int)) : PFn where
  run := fun args look seen d K =>
    match extL look ks args [], mapArg look args j with
    | some (x, es), some (h, m, _) => match entsOk es && onlyMap m es with
      | true => (F x).bind fun r => K ⟨valOf (bldL 0 outs (out r) []).1, [(m, some ⟨false, .map (up r)⟩)], h :: entHs es⟩
      | false => none
    | _, _ => none

def finMap {R : Type} (ty : Ty) (results : List ResultVar) (outs : List KD) (j : Nat) (into : denL outs → List ((Int × Int) × Int) → R) (st : St) : Option R :=
  match resSV ty results st with
  | some vs => match extL st.objs outs vs [], mapArg st.objs ((List.range (j + 1)).map st.slots) j with
    | some (y, _), some (_, _, l) => some (into y l)
    | _, _ => none
  | none => none

section
variable {P : Program} {R : Type} {ks : List KD} {outs : List KD} {j : Nat} {F : denL ks → Option R} {out : R → denL outs} {up : R → List ((Int × Int) × Int)}

theorem mapArg_spec {look : Nat → Option AO} {args : List SV} {j h m : Nat} {l : List ((Int × Int) × Int)} (hh : mapArg look args j = some (h, m, l)) :
    args[j]? = some (.ptr h 0) ∧ (∃ ro, look h = some ⟨ro, .cells [.mp m]⟩) ∧ look m = some ⟨false, .map l⟩ := by
  unfold mapArg at hh
  split at hh
  · rename_i h' ha
    split at hh
    · rename_i ro m' hb
      split at hh
      · rename_i l' hc
        simp only [Option.some.injEq, Prod.mk.injEq] at hh
        obtain ⟨rfl, rfl, rfl⟩ := hh
        exact ⟨ha, ⟨ro, hb⟩, hc⟩
      · simp at hh
    · simp at hh
  · simp at hh
theorem mapArg_of {look : Nat → Option AO} {args : List SV} {j h m : Nat} {ro : Bool} {l : List ((Int × Int) × Int)} (h1 : args[j]? = some (.ptr h 0)) (h2 : look h = some ⟨ro, .cells [.mp m]⟩) (h3 : look m = some ⟨false, .map l⟩) : mapArg look args j = some (h, m, l) := by
  unfold mapArg
  simp only [h1, h2, h3]

theorem mkMap_nat : (mkMap ks outs j F out up).Natural := by
  intro β args look seen d K
  simp only [mkMap]
  split
  · split
    · rw [Option.bind_assoc]
      rfl
    · rfl
  · rfl

theorem mkMap_run {args : List SV} {look : Nat → Option AO} {seen : Nat → Bool} {d : Nat} {e : Eff} (h : (mkMap ks outs j F out up).run args look seen d some = some e) :
    ∃ x es hh m l r, extL look ks args [] = some (x, es) ∧ mapArg look args j = some (hh, m, l) ∧ entsOk es = true ∧ onlyMap m es = true ∧ F x = some r ∧
      e = ⟨valOf (bldL 0 outs (out r) []).1, [(m, some ⟨false, .map (up r)⟩)], hh :: entHs es⟩ := by
  simp only [mkMap] at h
  split at h
  · rename_i x es hh m l hx hm
    split at h
    · rename_i hok
      simp only [Bool.and_eq_true] at hok
      cases hF : F x with
      | none => simp [hF] at h
      | some r =>
        simp only [hF, Option.bind_some, Option.some.injEq] at h
        exact ⟨x, es, hh, m, l, r, hx, hm, hok.1, hok.2, hF, h.symm⟩
    · simp at h
  · simp at h

theorem mkMap_loc : (mkMap ks outs j F out up).Local := by
  refine ⟨fun args look look' seen seen' d ef h S => ?_⟩
  obtain ⟨x, es, hh, m, l, r, h1, h2, h3, h4, h5, rfl⟩ := mkMap_run h
  have e1 : extL look' ks args [] = some (x, es) := (extL_loc h1).2 fun y hy hq w hs => S.look hq (List.mem_append_left _ (List.mem_cons_of_mem _ (entHs_mem hy hs)))
  obtain ⟨a1, ⟨ro, a2⟩, a3⟩ := mapArg_spec h2
  have e2 : mapArg look' args j = some (hh, m, l) := mapArg_of a1 ((S.look hh (List.mem_append_left _ (List.mem_cons_self ..))).trans a2) ((S.look m (List.mem_append_right _ (by simp))).trans a3)
  simp only [mkMap, e1, e2, h3, h4, Bool.and_self, h5, Option.bind_some]

/-- What the caller has after the call. -/
theorem mapped_ok {w0 : World} {W0 : Nat → Option (Option EK) → Prop} {objs : Nat → Option AO} {φ : Nat → Option (Nat × Nat)} {seen : Nat → Bool} {w : World} (H : Heap w0 W0 (G objs φ seen w) w)
    {es : List Ent} {Γ' : Ctx} {w' : World} {m : Nat} {l0 l : List ((Int × Int) × Int)} (ho : objs m = some ⟨false, .map l0⟩) (hes : ∀ z ∈ es, z.own = true → z.src = some (m, .all))
    (H' : Heap w (takenOver (G objs φ seen w) es) Γ' w') {b o : Nat} (hp : φ m = some (b, o)) {es' : Array MapEntry} {cl : Nat} (hw : w'.heap[b]? = some (.map es' cl))
    (hl : es'.toList.map (fun x => (x.key, x.val)) = l.map (fun x => (Value.agg #[.int .i64 x.1.1, .int .i64 x.1.2], Value.int .i64 x.2)))
    (v : SV) (t : List Nat) : Heap w0 W0 (Af objs seen ⟨v, [(m, some ⟨false, .map l⟩)], t⟩ φ w') w' ∧ (G objs φ seen w).le (Af objs seen ⟨v, [(m, some ⟨false, .map l⟩)], t⟩ φ w') := by
  obtain ⟨b', o', es0, cl0, hp', hw0, _⟩ := H.obj m _ ho
  have hp'' : φ m = some (b', o') := hp'
  rw [hp] at hp''
  cases hp''
  have tk : ∀ b1, takenOver (G objs φ seen w) es b1 none → b1 = b := by
    rintro b1 ⟨z, hz, hown, hpz⟩
    have hs := hes z hz hown
    rcases hpz with ⟨o1, hpz⟩ | ⟨h1, v1, q1, q2⟩
    · unfold entPlace at hpz
      rw [hs] at hpz
      simp only [hp, ho, Option.some.injEq, Prod.mk.injEq] at hpz
      exact hpz.1.symm
    · rw [hs] at q1
      cases q1
      obtain ⟨ro2, ll, q3⟩ := Ctx.inB_tab q2
      have q3' : objs m = some ⟨ro2, .tab ll⟩ := q3
      rw [ho] at q3'
      cases q3'
  have apart : ∀ h a, objs h = some a → h ≠ m → ∀ b1, (G objs φ seen w).at h b1 → b1 ≠ b := by
    intro h a ha hne b1 hp1 e
    subst e
    have := H.sep2 h m a _ b1 ha ho hp1 (.inl ⟨o, hp⟩) hne
    cases this.2
  have stay : ∀ h a, objs h = some a → h ≠ m → ∀ b1, (G objs φ seen w).at h b1 → w'.heap[b1]? = w.heap[b1]? := fun h a ha hne b1 hp1 =>
    H'.keep b1 (H.lt2 h a b1 ha hp1) fun q => apart h a ha hne b1 hp1 (tk b1 q)
  have hown : w0.heap.size ≤ b ∨ W0 b none := H.own m _ b o ho rfl hp
  have hle : (G objs φ seen w).le (G (upd objs m (some ⟨false, .map l⟩)) φ (upd seen m true) w') := by
    refine le_of (fun h hs => ?_) (fun h hs => ?_)
    · show upd seen m true h = true
      rw [upd_eq]; split
      · rfl
      · exact hs
    · by_cases e : h = m
      · subst e
        refine .inr ⟨_, _, ho, upd_same _ _ _, rfl, rfl, fun b1 o1 hp1 => ?_⟩
        have hp1' : φ h = some (b1, o1) := hp1
        rw [hp] at hp1'
        cases hp1'
        show bsOf w' b = bsOf w b
        simp only [bsOf, hw, hw0]
      · show upd objs m _ h = none ∨ _
        rw [upd_ne _ _ e]
        cases hx : objs h with
        | none => exact .inl rfl
        | some a =>
          refine .inr ⟨a, a, hx, by show upd objs m _ h = some a; rw [upd_ne _ _ e]; exact hx, AO.like.refl a, rfl, fun b1 o1 hp1 => ?_⟩
          show bsOf w' b1 = bsOf w b1
          unfold bsOf
          rw [stay h a hx e b1 (.inl ⟨o1, hp1⟩)]
  have old : ∀ h a, upd objs m (some ⟨false, .map l⟩) h = some a → (h = m ∧ a = ⟨false, .map l⟩) ∨ (h ≠ m ∧ objs h = some a) := by
    intro h a ha
    by_cases e : h = m
    · subst e
      rw [upd_same] at ha
      cases ha
      exact .inl ⟨rfl, rfl⟩
    · rw [upd_ne _ _ e] at ha
      exact .inr ⟨e, ha⟩
  have base : ∀ h a, upd objs m (some ⟨false, .map l⟩) h = some a → ∃ a0, objs h = some a0 ∧ a0.ro = a.ro ∧ a0.tag = a.tag := by
    intro h a ha
    rcases old h a ha with ⟨rfl, rfl⟩ | ⟨_, hx⟩
    · exact ⟨_, ho, rfl, rfl⟩
    · exact ⟨a, hx, rfl, rfl⟩
  have oldmem : ∀ h a, h ≠ m → objs h = some a → ∀ b0 o0 i, (G objs φ seen w).φ h = some (b0, o0) → (G (upd objs m (some ⟨false, .map l⟩)) φ (upd seen m true) w').mem b0 i = (G objs φ seen w).mem b0 i := by
    intro h a hne hx b0 o0 i hp0
    exact memOf_of_block (stay h a hx hne b0 (.inl ⟨o0, hp0⟩)) i
  have same : ∀ h a, h ≠ m → objs h = some a → (G (upd objs m (some ⟨false, .map l⟩)) φ (upd seen m true) w').objs h = (G objs φ seen w).objs h := by
    intro h a hne hx
    show upd objs m _ h = objs h
    rw [upd_ne _ _ hne]
  have oldat : ∀ h a b1, upd objs m (some ⟨false, .map l⟩) h = some a → (G (upd objs m (some ⟨false, .map l⟩)) φ (upd seen m true) w').at h b1 → (G objs φ seen w).at h b1 := by
    intro h a b1 ha hb1
    rcases old h a ha with ⟨rfl, rfl⟩ | ⟨hne, hx⟩
    · exact .inl (Ctx.at_one (Γ := G (upd objs h (some ⟨false, .map l⟩)) φ (upd seen h true) w') ha (fun ll q => by cases q) hb1)
    · exact Ctx.at_same (Γ := G objs φ seen w) (same h a hne hx) rfl (oldmem h a hne hx) hb1
  refine ⟨⟨H'.os.trans H.os, ⟨H'.tape.1.trans H.tape.1, H.tape.2.trans H'.tape.2⟩, H'.output.trans H.output, Nat.le_trans H.size H'.size, ?_, ?_, fun _ => rfl, fun _ _ => rfl, ?_, ?_, ?_, ?_, ?_, ?_, ?_⟩, hle⟩
  · intro b1 hb1 hW
    rw [H'.keep b1 (Nat.lt_of_lt_of_le hb1 H.size) fun q => ?_, H.keep b1 hb1 hW]
    have := tk b1 q
    subst this
    rcases hown with h | h
    · omega
    · exact hW h
  · intro b1 cur T fz hb1 hwb
    obtain ⟨c1, k1, k2⟩ := H.kind b1 cur T fz hb1 hwb
    obtain ⟨c2, k3, k4⟩ := H'.kind b1 c1 T fz (Nat.lt_of_lt_of_le hb1 H.size) k1
    exact ⟨c2, k3, k4.trans k2⟩
  · intro h a ha
    rcases old h a ha with ⟨rfl, rfl⟩ | ⟨hne, hx⟩
    · exact ⟨b, o, es', cl, hp, hw, hl⟩
    · exact oRep_le hle rfl H.mem hx (fun b1 hp1 => stay h a hx hne b1 hp1) (H.obj h a hx)
  · intro h a ha
    obtain ⟨a0, hx, _⟩ := base h a ha
    exact hle.seen h (H.sn h a0 hx)
  · intro h a b1 ha hp1
    obtain ⟨a0, hx, _⟩ := base h a ha
    exact Nat.lt_of_lt_of_le (H.lt2 h a0 b1 hx (oldat h a b1 ha hp1)) H'.size
  · intro h h' a a' b1 ha ha' hp1 hp1' hne
    obtain ⟨a0, hx, hr, _⟩ := base h a ha
    obtain ⟨a0', hx', hr', _⟩ := base h' a' ha'
    have := H.sep2 h h' a0 a0' b1 hx hx' (oldat h a b1 ha hp1) (oldat h' a' b1 ha' hp1') hne
    rw [← hr, ← hr']
    exact this
  · intro h a b1 ha hro hp1
    obtain ⟨a0, hx, hr, _⟩ := base h a ha
    exact H.own2 h a0 b1 hx (hr.trans hro) (oldat h a b1 ha hp1)
  · intro h a b1 o1 ha hp1
    obtain ⟨a0, hx, _, ht⟩ := base h a ha
    rw [← ht]
    exact H.rng h a0 b1 o1 hx hp1
  · intro h b1 hb1
    obtain ⟨ro2, ll, ha⟩ := Ctx.inB_tab hb1
    rcases old h _ ha with ⟨_, q⟩ | ⟨hne, hx⟩
    · cases q
    · exact H.rngi h b1 (Ctx.inB_same (Γ := G objs φ seen w) (same h _ hne hx) rfl (oldmem h _ hne hx) hb1)

theorem onlyMap_spec {m : Nat} {es : List Ent} (h : onlyMap m es = true) : ∀ z ∈ es, z.own = true → z.src = some (m, .all) := by
  intro z hz ho
  unfold onlyMap at h
  have := List.all_eq_true.1 h z hz
  obtain ⟨src, own⟩ := z
  simp only at ho
  subst ho
  split at this
  · rename_i e
    simp at e
  · rename_i hh e
    simp only [Ent.mk.injEq, and_true] at e
    have q := Nat.eq_of_beq_eq_true this
    subst q
    exact e
  · cases this

theorem mkMap_none {g : Nat} (hF : ∀ x, F x = none) : (mkMap ks outs j F out up).Ok P g where
  nat := mkMap_nat
  loc := mkMap_loc
  calls := by
    intro w0 W0 objs φ seen w args vals d e h H hv hG
    obtain ⟨x, es, hh, m, l, r, _, _, _, _, h5, _⟩ := mkMap_run h
    rw [hF x] at h5
    cases h5
end
section
variable {P : Program} {R : Type} {shp : Shape} {outs : List KD} {j : Nat} {F : shp.den → Option R} {out : R → denL outs} {up : R → List ((Int × Int) × Int)}
theorem mkMap_ok {g : Nat} {fn : Func} {code : Code} (hf : P.funcs[g]? = some fn) (hb : fn.body = some code) (hname : (fn.name == "runtime.NumGoroutine") = false)
    {C : Cfg} {Φ : Nat → PFn} {Λ : Nat → (St → Option R) → St → Option R} {into : denL outs → List ((Int × Int) × Int) → R}
    (hT : TyOk P C.ty) (hΦ : ∀ g, (Φ g).Ok P g) (hN : C.N = fn.ntmps) (hshp : shp.map (·.1) = List.range shp.length) (hsl : shp.length ≤ fn.ntmps)
    (hso : cntL outs = 0) (hnp : j ∈ C.np)
    (hoi : ∀ y z, out (into y z) = y) (hui : ∀ y z, up (into y z) = z)
    (hL : LoopsOk C Φ Λ (finMap C.ty fn.results.toList outs j into) (loopsOf C.blk code))
    (hF : ∀ (x : shp.den) (r : R), F x = some r → exK C Φ Λ (finMap C.ty fn.results.toList outs j into) code (fun _ _ => none) (mkSt shp x) (finMap C.ty fn.results.toList outs j into) = some r) :
    (mkMap shp.ks outs j F out up).Ok P g where
  nat := mkMap_nat
  loc := mkMap_loc
  calls := by
    intro w0 W0 objs φ seen w args vals d e h H hv hG
    obtain ⟨x, es, hh, m, l0, r, h1, h2, h3, h4, h5, rfl⟩ := mkMap_run h
    obtain ⟨a1, ⟨ro, a2⟩, a3⟩ := mapArg_spec h2
    obtain ⟨V, hV, hVr⟩ := repL_get hv j _ a1
    have hx : extL (G objs φ seen w).objs (Shape.ks shp) args [] = some (x, es) := h1
    obtain ⟨φ1, g1⟩ := entered (shp := shp) H hx h3 hv hshp (N := C.N) (by rw [hN]; exact hsl) (pv := fun i => if i = j then some V else none) (fun i V' hi => by
      split at hi
      · rename_i e
        subst e
        cases hi
        exact hV
      · cases hi)
    refine ⟨fn, code, hf, hb, hname, calls_of_wp hf hb ?_⟩
    -- where the map is
    obtain ⟨bb, ob, hφb, vs0, hr0, _, hc0, _⟩ := H.obj hh _ a2
    obtain ⟨v0, vs1, rfl, hm0, hvs1⟩ := hr0
    simp only [SV.repL] at hvs1
    subst hvs1
    have hcell := hc0 0 v0 rfl
    obtain ⟨_, _, hmp⟩ := hm0
    unfold Ctx.mpOk at hmp
    have a3' : (G objs φ seen w).objs m = some ⟨false, .map l0⟩ := a3
    rw [a3'] at hmp
    obtain ⟨b, o, hφm, rfl⟩ := hmp
    have hVp : V = .pointer (some ⟨bb, ob + 0, none⟩) := by
      obtain ⟨_, _, hp⟩ := hVr
      unfold Ctx.ptrOk at hp
      have a2' : (G objs φ seen w).objs hh = some ⟨ro, .cells [.mp m]⟩ := a2
      rw [a2'] at hp
      obtain ⟨b1, o1, q1, q2⟩ := hp
      rw [hφb] at q1
      cases q1
      exact q2
    have hne : hh ≠ m := by
      intro e
      rw [e, a3] at a2
      cases a2
    have hbb : bb ≠ b := by
      intro e
      subst e
      have := H.sep hh m _ _ bb ob o a2 a3 hφb hφm hne
      cases this.2
    have tk : ∀ b1, takenOver (G objs φ seen w) es b1 none → b1 = b := by
      rintro b1 ⟨z, hz, hown, hpz⟩
      have hs := onlyMap_spec h4 z hz hown
      rcases hpz with ⟨o1, hpz⟩ | ⟨h1', v1, q1, q2⟩
      · unfold entPlace at hpz
        rw [hs] at hpz
        have hφm' : φ m = some (b, o) := hφm
        simp only [hφm', a3, Option.some.injEq, Prod.mk.injEq] at hpz
        exact hpz.1.symm
      · rw [hs] at q1
        cases q1
        obtain ⟨ro2, ll, q3⟩ := Ctx.inB_tab q2
        have q3' : objs m = some ⟨ro2, .tab ll⟩ := q3
        rw [a3] at q3'
        cases q3'
    have fin : ∀ st' φ' a' w', finMap C.ty fn.results.toList outs j into st' = some r → Good w (takenOver (G objs φ seen w) es) C.N (fun i => if i = j then some V else none) st' φ' a' w' → a'.defers = [] ∧ ∃ v, (results fn a'.tmps).run P w' = .ok v w' ∧
        ∃ φ'', let e : Eff := ⟨valOf (bldL 0 outs (out r) []).1, [(m, some ⟨false, .map (up r)⟩)], hh :: entHs es⟩
          e.val.rep (Af objs seen e φ'' w') v ∧ Heap w0 W0 (Af objs seen e φ'' w') w' ∧ (G objs φ seen w).le (Af objs seen e φ'' w') := by
      intro st' φ' a' w' hfin good
      unfold finMap at hfin
      split at hfin
      · rename_i vs hvs'
        split at hfin
        · rename_i y es1 h' m' l hy hma
          simp only [Option.some.injEq] at hfin
          subst hfin
          rw [hui, hoi]
          obtain ⟨us, hrun, hus⟩ := results_run hT good hvs'
          obtain ⟨c1, ⟨ro', c2⟩, c3⟩ := mapArg_spec hma
          have c1' : st'.slots j = .ptr h' 0 := by
            rw [List.getElem?_map, List.getElem?_range (Nat.lt_succ_self j)] at c1
            simpa using c1
          have hslot : (SV.ptr h' 0).rep (ctx st' φ' w') V := by
            have := good.slot j
            rw [good.par j V (by simp), c1'] at this
            exact this
          obtain ⟨b2, o2, hφ2, vs2, hr2, _, hc2, _⟩ := good.heap.obj h' _ c2
          obtain ⟨v2, vs3, rfl, hm2, hvs3⟩ := hr2
          simp only [SV.repL] at hvs3
          subst hvs3
          have hplace : b2 = bb ∧ o2 = ob := by
            obtain ⟨_, _, hp⟩ := hslot
            unfold Ctx.ptrOk at hp
            have c2' : (ctx st' φ' w').objs h' = some ⟨ro', .cells [.mp m']⟩ := c2
            rw [c2'] at hp
            obtain ⟨b1, o1, q1, q2⟩ := hp
            rw [hφ2] at q1
            cases q1
            rw [hVp] at q2
            simp only [Value.pointer.injEq, Option.some.injEq, Addr.mk.injEq, Nat.add_zero, and_true] at q2
            exact ⟨q2.1.symm, q2.2.symm⟩
          obtain ⟨rfl, rfl⟩ := hplace
          have hcell2 := hc2 0 v2 rfl
          have hblk : w'.heap[b2]? = w.heap[b2]? := good.heap.keep b2 (H.lt hh _ b2 o2 a2 hφb) fun q => hbb (tk b2 q)
          rw [World.cell?_of_block (w := w) (a := ⟨b2, o2 + 0, none⟩) hblk, hcell] at hcell2
          cases hcell2
          obtain ⟨_, _, hmp2⟩ := hm2
          unfold Ctx.mpOk at hmp2
          have c3' : (ctx st' φ' w').objs m' = some ⟨false, .map l⟩ := c3
          rw [c3'] at hmp2
          obtain ⟨b4, o4, q1, q2⟩ := hmp2
          cases q2
          obtain ⟨b5, o5, es5, cl5, q3, q4, q5⟩ := good.heap.obj m' _ c3
          rw [q1] at q3
          cases q3
          obtain ⟨k1, k2⟩ := mapped_ok H a3 (onlyMap_spec h4) good.heap hφm q4 q5 (valOf (bldL 0 outs y []).1) (hh :: entHs es)
          refine ⟨good.defers, _, hrun, φ, ?_, k1, k2⟩
          have hlen : (bldL 0 outs y []).2.length = es1.length := (extL_pair (base := 0) (os := []) good.heap.obj hy hus rfl).lens rfl
          have hz0 : (bldL 0 outs y []).2.length = 0 := by rw [bldL_len, hso]; rfl
          obtain ⟨_, hr⟩ := extL_tgt (base := 0) good.heap.obj hy hus (Γ' := Af objs seen ⟨valOf (bldL 0 outs y []).1, [(m, some ⟨false, .map l⟩)], hh :: entHs es⟩ φ w')
            (fun k a hk => by
              have := (List.getElem?_eq_some_iff.1 hk).1
              omega)
            (fun k e hk => by
              have := (List.getElem?_eq_some_iff.1 hk).1
              omega)
            (fun k hk => by omega) (fun b => rfl) (fun _ _ => rfl)
          exact valOf_rep hr
        · simp at hfin
      · simp at hfin
    rw [← hN]
    refine exK_sound (pv := fun i => if i = j then some V else none) (fun i V' hi => by
      split at hi
      · rename_i e
        subst e
        exact hnp
      · cases hi) hT hΦ (hG.enter H hx hv) code _ _ _ φ1 _ w _ hL (hF x r h5) g1 ?_ ?_ ?_
    · intro st' φ' a' w' h' good
      exact fin st' φ' a' w' h' good
    · intro id st' φ' a' w' h' good
      cases h'
    · intro st' φ' a' w' h' good
      exact fin st' φ' a' w' h' good
end
end Go.Fx
end

noncomputable section
set_option linter.unusedVariables false
set_option linter.unusedSimpArgs false
set_option autoImplicit false
namespace Go.Fx
open Go

abbrev rowMut (f : List Int → Int → Option (Int × List Int)) : PFn := mkMut (.one (.row (.int .i64) true)) [.one (.int .i64)] [.one (.int .i64)] (fun x xs => f x xs.1) (fun r => (r.1, ())) (fun r => r.2)

/-- A function that changes the rows of a table, and counts. -/
def tabMut (F : List (List Int) → Int → Option (Int × List (List Int))) : PFn where
  run := fun args look seen d K =>
    match args with
    | [.sl h .all, .int .i64 k] => match look h with
      | some ⟨false, .tab ll⟩ => (F ll k).bind fun r => K ⟨.int .i64 r.1, [(h, some ⟨false, .tab r.2⟩)], [h]⟩
      | _ => none
    | _ => none

/-- A world that differs from another one in some blocks, and in what is new. -/
structure Upd (B : Nat → Prop) (w w' : World) : Prop where
  os : w'.os = w.os
  tape : w'.tape = w.tape ∧ DrawOk w w'
  output : w'.output = w.output
  size : w.heap.size ≤ w'.heap.size
  keep : ∀ b, b < w.heap.size → ¬ B b → w'.heap[b]? = w.heap[b]?
  kind : ∀ b cur T fz, b < w.heap.size → w.heap[b]? = some (.cells cur T fz) → ∃ cur', w'.heap[b]? = some (.cells cur' T fz) ∧ cur'.size = cur.size
theorem Upd.refl (B : Nat → Prop) (w : World) : Upd B w w := ⟨rfl, ⟨rfl, fun _ => Nat.le_refl _⟩, rfl, Nat.le_refl _, fun _ _ _ => rfl, fun _ cur _ _ _ h => ⟨cur, h, rfl⟩⟩
theorem Upd.trans {B C D : Nat → Prop} {w w1 w2 : World} (h : Upd B w w1) (k : Upd C w1 w2) (hB : ∀ b, B b → D b) (hC : ∀ b, C b → D b) : Upd D w w2 where
  os := k.os.trans h.os
  tape := ⟨k.tape.1.trans h.tape.1, h.tape.2.trans k.tape.2⟩
  output := k.output.trans h.output
  size := Nat.le_trans h.size k.size
  keep := fun b hb hn => (k.keep b (Nat.lt_of_lt_of_le hb h.size) fun c => hn (hC b c)).trans (h.keep b hb fun c => hn (hB b c))
  kind := fun b cur T fz hb hw => by
    obtain ⟨c1, k1, k2⟩ := h.kind b cur T fz hb hw
    obtain ⟨c2, k3, k4⟩ := k.kind b c1 T fz (Nat.lt_of_lt_of_le hb h.size) k1
    exact ⟨c2, k3, k4.trans k2⟩

/-- The block of a row. -/
def rowB (v : Value) (b : Nat) : Prop := ∃ o n c, v = .slice (some ⟨b, o, none⟩) n c ∧ c ≠ 0

theorem rowAt_keepU {w w' : World} {ro : Bool} {v : Value} {l : List Int} (h : rowAt w ro v l) (hb : ∀ b, rowB v b → w'.heap[b]? = w.heap[b]?) : rowAt w' ro v l := by
  obtain ⟨A, cap, e1, e2, e3, e4⟩ := h
  refine ⟨A, cap, e1, e2, e3, ?_⟩
  by_cases hc : cap = 0
  · exact .inl hc
  · obtain ⟨b, o, rfl, k1, k2⟩ := e4.resolve_left hc
    have hbb := hb b ⟨o, _, cap, e1, hc⟩
    refine .inr ⟨b, o, rfl, fun i x hx => ?_, fun hr => ?_⟩
    · rw [World.cell?_of_block (w := w) (a := ⟨b, o + i, none⟩) hbb]
      exact k1 i x hx
    · obtain ⟨cur, T, hw, hs⟩ := k2 hr
      exact ⟨cur, T, hbb ▸ hw, hs⟩

section
variable {P : Program} {f : List Int → Int → Option (Int × List Int)}

/-- A call for one row. -/
theorem one_row {g : Nat} (hok : (rowMut f).Ok P g) {w : World} {V : Value} {l : List Int} (hrow : rowAt w false V l) (hlt : ∀ b, rowB V b → b < w.heap.size) (hG : GlOk P w (fun b _ => rowB V b)) {k : Int} {r : Int × List Int} (hf : f l k = some r) :
    Calls P g #[V, .int .i64 k] w fun e w' => e = .returned (.int .i64 r.1) ∧ Upd (rowB V) w w' ∧ rowAt w' false V r.2 ∧ r.2.length = l.length := by
  obtain ⟨A, cap, rfl, e2, e3, e4⟩ := hrow
  let objs : Nat → Option AO := fun h => match h with | 0 => some ⟨false, .row (.int .i64) l⟩ | _ => none
  let seen : Nat → Bool := fun _ => true
  have base : ∀ φ : Nat → Option (Nat × Nat), (∀ b o, φ 0 = some (b, o) → rowB (.slice A l.length cap) b) → oRep (G objs φ seen w) w 0 ⟨false, .row (.int .i64) l⟩ → Heap w (fun b _ => rowB (.slice A l.length cap) b) (G objs φ seen w) w := by
    intro φ hφ ho
    have only : ∀ h a, objs h = some a → h = 0 ∧ a = ⟨false, .row (.int .i64) l⟩ := by
      intro h a ha
      cases h with
      | zero =>
        have : some (⟨false, .row (.int .i64) l⟩ : AO) = some a := ha
        simp only [Option.some.injEq] at this
        exact ⟨rfl, this.symm⟩
      | succ h => cases ha
    have at0 : ∀ b, (G objs φ seen w).at 0 b → rowB (.slice A l.length cap) b := by
      intro b hb
      obtain ⟨o, ho⟩ := Ctx.at_one (Γ := G objs φ seen w) (h := 0) (a := ⟨false, .row (.int .i64) l⟩) rfl (fun ll q => by cases q) hb
      exact hφ b o ho
    refine ⟨rfl, ⟨rfl, fun _ => Nat.le_refl _⟩, rfl, Nat.le_refl _, fun _ _ _ => rfl, fun _ cur _ _ _ h => ⟨cur, h, rfl⟩, fun _ => rfl, fun _ _ => rfl, ?_, fun _ _ _ => rfl, ?_, ?_, ?_, ?_, ?_⟩
    · intro h a ha
      obtain ⟨rfl, rfl⟩ := only h a ha
      exact ho
    · intro h a b ha hb
      obtain ⟨rfl, rfl⟩ := only h a ha
      exact hlt b (at0 b hb)
    · intro h h' a a' b ha ha' hb hb' hne
      exact absurd ((only h a ha).1.trans (only h' a' ha').1.symm) hne
    · intro h a b ha hro hb
      obtain ⟨rfl, rfl⟩ := only h a ha
      exact .inr (at0 b hb)
    · intro h a b o ha hp
      obtain ⟨rfl, rfl⟩ := only h a ha
      exact .inr (hφ b o hp)
    · intro h b hb
      obtain ⟨ro, ll, ha⟩ := Ctx.inB_tab hb
      have := (only h _ ha).2
      cases this
  have run : (rowMut f).run [.sl 0 .all, .int .i64 k] objs seen 0 some = some ⟨.int .i64 r.1, [(0, some ⟨false, .row (.int .i64) r.2⟩)], [0]⟩ := by
    have h1 : extK objs (.one (.row (.int .i64) true)) (.sl 0 .all) [] = some (l, [⟨some (0, .all), true⟩]) := rfl
    have h2 : extL objs [.one (.int .i64)] [.int .i64 k] [] = some ((k, ()), []) := rfl
    simp only [rowMut, mkMut, h1, h2]
    show (f l k).bind _ = _
    rw [hf]
    rfl
  obtain ⟨φ, hφ, ho, hs⟩ : ∃ φ : Nat → Option (Nat × Nat), (∀ b o, φ 0 = some (b, o) → rowB (.slice A l.length cap) b) ∧ oRep (G objs φ seen w) w 0 ⟨false, .row (.int .i64) l⟩ ∧ (G objs φ seen w).slOk 0 .all (.slice A l.length cap) := by
    by_cases hc : cap = 0
    · have hl : l = [] := List.length_eq_zero_iff.1 (by omega)
      refine ⟨fun _ => none, fun b o h => (by cases h), .inl ⟨rfl, hl⟩, ?_⟩
      exact ⟨trivial, A, cap, rfl, ⟨e2, by show l.length ≤ 0 + cap; omega⟩, e3, .inl hc⟩
    · obtain ⟨b, o, rfl, k1, k2⟩ := e4.resolve_left hc
      obtain ⟨cur, T, hw, hsz⟩ := k2 rfl
      refine ⟨fun _ => some (b, o), fun b' o' h => ?_, .inr ⟨b, o, rfl, fun i v hv => ?_, fun _ => ⟨cur, T, hw, ?_⟩⟩, ?_⟩
      · simp only [Option.some.injEq, Prod.mk.injEq] at h
        obtain ⟨rfl, rfl⟩ := h
        exact ⟨o, _, cap, rfl, hc⟩
      · rw [encAll_i64, List.getElem?_map] at hv
        cases hx : l[i]? with
        | none => rw [hx] at hv; cases hv
        | some x =>
          rw [hx] at hv
          simp only [Option.map_some, Option.some.injEq] at hv
          rw [← hv]
          exact k1 i x hx
      · show o + l.length * 1 ≤ cur.size
        omega
      · refine ⟨trivial, some ⟨b, o, none⟩, cap, rfl, ⟨e2, by show l.length ≤ 0 + cap; omega⟩, e3, .inr ⟨b, o, rfl, rfl, fun _ => ?_⟩⟩
        show o + (0 + cap) * 1 ≤ bsOf w b
        unfold bsOf
        rw [hw]
        simp only
        omega
  obtain ⟨fn, c, _, _, _, hcalls⟩ := hok.calls w (fun b _ => rowB (.slice A l.length cap) b) objs φ seen w [.sl 0 .all, .int .i64 k] [.slice A l.length cap, .int .i64 k] 0 _ run (base φ hφ ho)
    ⟨_, _, rfl, ⟨rfl, ⟨A, _, cap, rfl⟩, hs⟩, ⟨_, _, rfl, rfl, rfl⟩⟩ hG
  refine hcalls.mono fun e w' h => ?_
  cases e with
  | returned v =>
    obtain ⟨φ', hv, H, hle⟩ := h
    have hv' : v = .int .i64 r.1 := hv
    subst hv'
    have ho' : oRep (Af objs seen ⟨.int .i64 r.1, [(0, some ⟨false, .row (.int .i64) r.2⟩)], [0]⟩ φ' w') w' 0 ⟨false, .row (.int .i64) r.2⟩ := H.obj 0 _ rfl
    have hs' : (Af objs seen ⟨.int .i64 r.1, [(0, some ⟨false, .row (.int .i64) r.2⟩)], [0]⟩ φ' w').slOk 0 .all (.slice A l.length cap) := hle.sl 0 .all _ rfl hs
    obtain ⟨_, A', cap', q1, q2, q3, q4⟩ := hs'
    have q1' : Value.slice A l.length cap = .slice A' r.2.length cap' := q1
    simp only [Value.slice.injEq] at q1'
    obtain ⟨rfl, hlen, rfl⟩ := q1'
    refine ⟨rfl, ⟨H.os, H.tape, H.output, H.size, H.keep, H.kind⟩, ⟨A, cap, by rw [hlen], q2.1, q3, ?_⟩, hlen.symm⟩
    by_cases hc : cap = 0
    · exact .inl hc
    · obtain ⟨b, o, p1, p2, p3⟩ := q4.resolve_left hc
      have p2' : A = some ⟨b, o + 0 * 1, none⟩ := p2
      rcases ho' with ⟨hn, _⟩ | ⟨b', o', hp, hcell, hown⟩
      · exact absurd (hn.symm.trans p1) (by simp)
      · have := hp.symm.trans p1
        simp only [Option.some.injEq, Prod.mk.injEq] at this
        obtain ⟨rfl, rfl⟩ := this
        obtain ⟨cur, T, hw, hsz⟩ := hown rfl
        refine .inr ⟨b', o', by rw [p2', Nat.zero_mul, Nat.add_zero], fun i x hx => hcell i _ (by rw [encAll_i64, List.getElem?_map, hx]; rfl), fun _ => ⟨cur, T, hw, ?_⟩⟩
        have p3' : o' + (0 + cap) * 1 ≤ bsOf w' b' := p3 rfl
        unfold bsOf at p3'
        rw [hw] at p3'
        simp only at p3'
        omega
  | _ => exact absurd h id
end
/-! ### The table as a whole -/
section
variable {P : Program} {f : List Int → Int → Option (Int × List Int)} {F : List (List Int) → Int → Option (Int × List (List Int))}
theorem tabMut_nat : (tabMut F).Natural := by
  intro β args look seen d K
  simp only [tabMut]
  split
  · split
    · rw [Option.bind_assoc]
      rfl
    · rfl
  · rfl
theorem tabMut_run {args : List SV} {look : Nat → Option AO} {seen : Nat → Bool} {d : Nat} {e : Eff} (h : (tabMut F).run args look seen d some = some e) :
    ∃ hh ll k r, args = [.sl hh .all, .int .i64 k] ∧ look hh = some ⟨false, .tab ll⟩ ∧ F ll k = some r ∧ e = ⟨.int .i64 r.1, [(hh, some ⟨false, .tab r.2⟩)], [hh]⟩ := by
  simp only [tabMut] at h
  split at h
  · rename_i hh k
    split at h
    · rename_i ll hl
      cases hF : F ll k with
      | none => simp [hF] at h
      | some r =>
        simp only [hF, Option.bind_some, Option.some.injEq] at h
        exact ⟨hh, ll, k, r, rfl, hl, hF, h.symm⟩
    · simp at h
  · simp at h
theorem tabMut_loc : (tabMut F).Local := by
  refine ⟨fun args look look' seen seen' d ef h S => ?_⟩
  obtain ⟨hh, ll, k, r, rfl, h1, h2, rfl⟩ := tabMut_run h
  have := S.look hh (by simp)
  simp only [tabMut, this, h1, h2, Option.bind_some]

/-- The table's own block is none of its rows'. -/
theorem tab_apart {w0 : World} {W0 : Nat → Option (Option EK) → Prop} {objs : Nat → Option AO} {φ : Nat → Option (Nat × Nat)} {seen : Nat → Bool} {w : World} (H : Heap w0 W0 (G objs φ seen w) w)
    {h : Nat} {ll : List (List Int)} (hob : objs h = some ⟨false, .tab ll⟩) {b o : Nat} (hp : φ h = some (b, o)) : ¬ (G objs φ seen w).inB h b := by
  rcases H.obj h _ hob with ⟨hn, _⟩ | ⟨b', o', hp', vs, hl, hc, hr, ho⟩
  · have hn' : φ h = none := hn
    rw [hp] at hn'
    cases hn'
  · have e : φ h = some (b', o') := hp'
    rw [hp] at e
    cases e
    rintro ⟨ro, ll2, b0, o0, i, o1, n, c, q1, q2, q3, q4, q5⟩
    have q1' : objs h = some ⟨ro, .tab ll2⟩ := q1
    have q2' : φ h = some (b0, o0) := q2
    rw [hob] at q1'
    rw [hp] at q2'
    cases q1'
    cases q2'
    have hi : i < vs.length := by omega
    have hcell := hc i _ (List.getElem?_eq_getElem hi)
    have q4' : w.cell? ⟨b, o + i, none⟩ = some (.slice (some ⟨b, o1, none⟩) n c) := q4
    rw [hcell] at q4'
    simp only [Option.some.injEq] at q4'
    exact (ho rfl).2.1 i b o1 n c (by rw [List.getElem?_eq_getElem hi, q4']) q5 rfl
/-- What the caller has after the call. -/
theorem tab_marked {w0 : World} {W0 : Nat → Option (Option EK) → Prop} {objs : Nat → Option AO} {φ : Nat → Option (Nat × Nat)} {seen : Nat → Bool} {w w' : World} (H : Heap w0 W0 (G objs φ seen w) w)
    {h : Nat} {ll ll' : List (List Int)} (hob : objs h = some ⟨false, .tab ll⟩) (U : Upd (fun b => (G objs φ seen w).inB h b) w w') (hlen : ll'.length = ll.length)
    (hrows : ∀ b o, φ h = some (b, o) → ∀ i v l, i < ll.length → w.cell? ⟨b, o + i, none⟩ = some v → ll'[i]? = some l → rowAt w' false v l) (v : SV) (t : List Nat) :
    Heap w0 W0 (Af objs seen ⟨v, [(h, some ⟨false, .tab ll'⟩)], t⟩ φ w') w' ∧ (G objs φ seen w).le (Af objs seen ⟨v, [(h, some ⟨false, .tab ll'⟩)], t⟩ φ w') := by
  have stay : ∀ x a, objs x = some a → x ≠ h → ∀ b, (G objs φ seen w).at x b → w'.heap[b]? = w.heap[b]? := by
    intro x a ha hne b hp
    refine U.keep b (H.lt2 x a b ha hp) fun hi => ?_
    have := (H.sep2 x h a _ b ha hob hp (.inr hi) hne).2
    cases this
  have own : ∀ b o, φ h = some (b, o) → w'.heap[b]? = w.heap[b]? := fun b o hp => U.keep b (H.lt h _ b o hob hp) (tab_apart H hob hp)
  have same : (Af objs seen ⟨v, [(h, some ⟨false, .tab ll'⟩)], t⟩ φ w').objs h = some ⟨false, .tab ll'⟩ := by
    show upd objs h (some ⟨false, .tab ll'⟩) h = _
    rw [upd_same]
  have other : ∀ x, x ≠ h → (Af objs seen ⟨v, [(h, some ⟨false, .tab ll'⟩)], t⟩ φ w').objs x = objs x := by
    intro x hx
    show upd objs h (some ⟨false, .tab ll'⟩) x = _
    rw [upd_ne _ _ hx]
  have old : ∀ x a, (Af objs seen ⟨v, [(h, some ⟨false, .tab ll'⟩)], t⟩ φ w').objs x = some a → ∃ a0, objs x = some a0 ∧ a0.ro = a.ro ∧ a0.tag = a.tag := by
    intro x a ha
    by_cases hx : x = h
    · subst hx
      rw [same] at ha
      cases ha
      exact ⟨_, hob, rfl, rfl⟩
    · rw [other x hx] at ha
      exact ⟨a, ha, rfl, rfl⟩
  have oldin : ∀ x b, (Af objs seen ⟨v, [(h, some ⟨false, .tab ll'⟩)], t⟩ φ w').inB x b → (G objs φ seen w).inB x b := by
    intro x b hb
    by_cases hx : x = h
    · subst hx
      obtain ⟨ro, ll2, b0, o0, i, o1, n, c, q1, q2, q3, q4, q5⟩ := hb
      rw [same] at q1
      cases q1
      have q2' : φ x = some (b0, o0) := q2
      exact ⟨false, ll, b0, o0, i, o1, n, c, hob, q2', by omega, (memOf_of_block (own b0 o0 q2') _).symm.trans q4, q5⟩
    · obtain ⟨ro, ll2, ha⟩ := Ctx.inB_tab hb
      rw [other x hx] at ha
      exact Ctx.inB_same (Γ := G objs φ seen w) (other x hx) rfl (fun b0 o0 i hp => memOf_of_block (stay x _ ha hx b0 (.inl ⟨o0, hp⟩)) i) hb
  have oldat : ∀ x b, (Af objs seen ⟨v, [(h, some ⟨false, .tab ll'⟩)], t⟩ φ w').at x b → (G objs φ seen w).at x b := by
    rintro x b (⟨o, hp⟩ | hp)
    · exact .inl ⟨o, hp⟩
    · exact .inr (oldin x b hp)
  have hle : (G objs φ seen w).le (Af objs seen ⟨v, [(h, some ⟨false, .tab ll'⟩)], t⟩ φ w') := by
    refine le_of (fun x hs => wrSeen_keep _ _ _ hs) (fun x hs => ?_)
    by_cases hx : x = h
    · subst hx
      refine .inr ⟨_, _, hob, same, ⟨fun e => e, hlen.symm⟩, rfl, fun b o hp => ?_⟩
      show bsOf w' b = bsOf w b
      unfold bsOf
      rw [own b o hp]
    · cases ho : objs x with
      | none => exact .inl ((other x hx).trans ho)
      | some a =>
        refine .inr ⟨a, a, ho, (other x hx).trans ho, AO.like.refl a, rfl, fun b o hp => ?_⟩
        show bsOf w' b = bsOf w b
        unfold bsOf
        rw [stay x a ho hx b (.inl ⟨o, hp⟩)]
  refine ⟨⟨U.os.trans H.os, ⟨U.tape.1.trans H.tape.1, H.tape.2.trans U.tape.2⟩, U.output.trans H.output, Nat.le_trans H.size U.size, ?_, ?_, fun _ => rfl, fun _ _ => rfl, ?_, ?_, ?_, ?_, ?_, ?_, ?_⟩, hle⟩
  · intro b hbl hW
    rw [U.keep b (Nat.lt_of_lt_of_le hbl H.size) (fun hi => by
      rcases H.own2 h _ b hob rfl (.inr hi) with h1 | h1
      · omega
      · exact hW h1), H.keep b hbl hW]
  · intro b cur T fz hbl hw
    obtain ⟨c1, k1, k2⟩ := H.kind b cur T fz hbl hw
    obtain ⟨c2, k3, k4⟩ := U.kind b c1 T fz (Nat.lt_of_lt_of_le hbl H.size) k1
    exact ⟨c2, k3, k4.trans k2⟩
  · intro x a ha
    by_cases hx : x = h
    · subst hx
      rw [same] at ha
      cases ha
      rcases H.obj x _ hob with ⟨hn, hl⟩ | ⟨b, o, hp, vs, hl, hc, hr, ho⟩
      · refine .inl ⟨hn, List.length_eq_zero_iff.1 ?_⟩
        rw [hlen, hl]
        rfl
      · have hbb := own b o hp
        refine .inr ⟨b, o, hp, vs, hl.trans hlen.symm, fun i u hu => ?_, fun i u l hu hl' => ?_, fun _ => ?_⟩
        · rw [World.cell?_of_block (w := w) (a := ⟨b, o + i, none⟩) hbb]
          exact hc i u hu
        · have hi := (List.getElem?_eq_some_iff.1 hl').1
          exact hrows b o hp i u l (by omega) (hc i u hu) hl'
        · obtain ⟨⟨cur, T, hw, hs⟩, hap⟩ := ho rfl
          exact ⟨⟨cur, T, hbb ▸ hw, by omega⟩, hap⟩
    · rw [other x hx] at ha
      exact oRep_le hle rfl H.mem ha (fun b hp => stay x a ha hx b hp) (H.obj x a ha)
  · intro x a ha
    obtain ⟨a0, ho, _⟩ := old x a ha
    exact hle.seen x (H.sn x a0 ho)
  · intro x a b ha hp
    obtain ⟨a0, ho, _⟩ := old x a ha
    exact Nat.lt_of_lt_of_le (H.lt2 x a0 b ho (oldat x b hp)) U.size
  · intro x x' a a' b ha ha' hp hp' hne
    obtain ⟨a0, ho, hr, _⟩ := old x a ha
    obtain ⟨a0', ho', hr', _⟩ := old x' a' ha'
    have := H.sep2 x x' a0 a0' b ho ho' (oldat x b hp) (oldat x' b hp') hne
    rw [← hr, ← hr']
    exact this
  · intro x a b ha hro hp
    obtain ⟨a0, ho, hr, _⟩ := old x a ha
    exact H.own2 x a0 b ho (hr.trans hro) (oldat x b hp)
  · intro x a b o ha hp
    obtain ⟨a0, ho, _, ht⟩ := old x a ha
    rw [← ht]
    exact H.rng x a0 b o ho hp
  · intro x b hb
    exact H.rngi x b (oldin x b hb)

/-- A function that goes through the rows of a table, as a callee: given its walk. -/
theorem tabMut_ok {g gr : Nat} {fn : Func} {c : Code} (hf : P.funcs[g]? = some fn) (hb : fn.body = some c) (hname : (fn.name == "runtime.NumGoroutine") = false) (hrow : (rowMut f).Ok P gr)
    (hF : ∀ ll k r, F ll k = some r → ll.length ≤ 1048576 ∧ markT f ll k = some r)
    (walk : ∀ (n : Nat) (hn : n ≤ 1048576) (A : Option Addr) (cap : Nat) (k : Int) (w : World) (I : Nat → Int → World → Prop) (V : Nat → Value), I 0 k w →
      (∀ i k wr, I i k wr → i < n → ∃ b o, A = some ⟨b, o, none⟩ ∧ wr.cell? ⟨b, o + i, none⟩ = some (V i) ∧ Calls P gr #[V i, .int .i64 k] wr fun e w' => ∃ k', e = .returned (.int .i64 k') ∧ I (i + 1) k' w') →
      Calls P g #[.slice A n cap, .int .i64 k] w fun e w' => ∃ k', e = .returned (.int .i64 k') ∧ I n k' w') : (tabMut F).Ok P g where
  nat := tabMut_nat
  loc := tabMut_loc
  calls := by
    intro w0 W0 objs φ seen w args vals d e h H hv hG
    obtain ⟨hh, ll, k, r, rfl, hob, hFr, rfl⟩ := tabMut_run h
    obtain ⟨V0, Vs, rfl, hv0, ⟨V1, Vs1, rfl, hv1, hv2⟩⟩ := hv
    have hv1' : V1 = .int .i64 k := hv1
    have hv2' : Vs1 = [] := hv2
    subst hv1' hv2'
    obtain ⟨_, _, hs⟩ := hv0
    unfold Ctx.slOk at hs
    have hob' : (G objs φ seen w).objs hh = some ⟨false, .tab ll⟩ := hob
    rw [hob'] at hs
    obtain ⟨A, cap, rfl, c1, c2, c3⟩ := hs rfl
    obtain ⟨hll, hm⟩ := hF ll k r hFr
    refine ⟨fn, c, hf, hb, hname, ?_⟩
    rcases H.obj hh _ hob with ⟨hn, hl⟩ | ⟨b, o, hp, vs, hl, hc, hr, ho⟩
    · have hl' : ll = [] := hl
      subst hl'
      simp only [markT, Option.some.injEq] at hm
      subst hm
      refine (walk 0 (by omega) A cap k w (fun i k' wr => k' = k ∧ wr = w) (fun _ => undef) ⟨rfl, rfl⟩ (fun i k' wr _ hi => by omega)).mono ?_
      rintro e w' ⟨k', rfl, rfl, rfl⟩
      exact ⟨φ, rfl, tab_marked H hob (Upd.refl _ _) rfl (fun b o _ i v l hi => by cases hi) _ _⟩
    · have hp' : φ hh = some (b, o) := hp
      obtain ⟨_, hap⟩ := ho rfl
      have inb : ∀ (i : Nat) v, vs[i]? = some v → ∀ b1, rowB v b1 → (G objs φ seen w).inB hh b1 := by
        rintro i v hi b1 ⟨o1, n1, c1, rfl, hc1⟩
        have := (List.getElem?_eq_some_iff.1 hi).1
        exact ⟨false, ll, b, o, i, o1, n1, c1, hob, hp, by omega, hc i _ hi, hc1⟩
      have far : ∀ (i j : Nat) v u, i ≠ j → vs[i]? = some v → vs[j]? = some u → ∀ b1, rowB v b1 → ¬ rowB u b1 := by
        rintro i j v u hij hi hj b1 ⟨o1, n1, c1, rfl, hc1⟩ ⟨o2, n2, c2, rfl, hc2⟩
        exact hap.2 i j b1 o1 n1 c1 b1 o2 n2 c2 hij hi hc1 hj hc2 rfl
      have lt : ∀ (i : Nat) v, vs[i]? = some v → ∀ b1, rowB v b1 → b1 < w.heap.size := fun i v hi b1 h1 => H.lt2 hh _ b1 hob (.inr (inb i v hi b1 h1))
      let I : Nat → Int → World → Prop := fun i k' wr => Upd (fun b1 => (G objs φ seen w).inB hh b1) w wr ∧ ∃ done : List (List Int), done.length = i ∧ (∃ rest, markT f (ll.drop i) k' = some (r.1, rest) ∧ r.2 = done ++ rest) ∧
        (∀ (j : Nat) v l, vs[j]? = some v → done[j]? = some l → rowAt wr false v l) ∧ (∀ (j : Nat) v, i ≤ j → vs[j]? = some v → ∀ b1, rowB v b1 → wr.heap[b1]? = w.heap[b1]?)
      refine (walk ll.length hll A cap k w I (fun i => vs.getD i undef) ⟨Upd.refl _ _, [], rfl, ⟨r.2, by rw [List.drop_zero, hm], rfl⟩, fun j v l _ hd => by simp at hd, fun _ _ _ _ _ _ => rfl⟩ ?_).mono ?_
      · rintro i k' wr ⟨U, done, hdone, ⟨rest, hrest, hr2⟩, hrows, hkeep⟩ hi
        have hiv : i < vs.length := by omega
        have hvi : vs[i]? = some (vs.getD i undef) := by rw [List.getD_eq_getElem?_getD, List.getElem?_eq_getElem hiv]; rfl
        generalize hV : vs.getD i undef = V at *
        have hli : ll[i]? = some ll[i] := List.getElem?_eq_getElem hi
        have cap0 : cap ≠ 0 := by omega
        obtain ⟨b', o', q1, q2, _⟩ := c3.resolve_left cap0
        have q1' : φ hh = some (b', o') := q1
        rw [hp'] at q1'
        cases q1'
        have hblk : wr.heap[b]? = w.heap[b]? := U.keep b (H.lt hh _ b o hob hp) (tab_apart H hob hp')
        rw [List.drop_eq_getElem_cons hi] at hrest
        simp only [markT] at hrest
        cases hfa : f ll[i] k' with
        | none => rw [hfa] at hrest; cases hrest
        | some a =>
          rw [hfa, Option.bind_some] at hrest
          cases hfb : markT f (ll.drop (i + 1)) a.1 with
          | none => rw [hfb] at hrest; cases hrest
          | some p =>
            rw [hfb, Option.bind_some] at hrest
            simp only [Option.some.injEq, Prod.mk.injEq] at hrest
            obtain ⟨e1, e2⟩ := hrest
            have row0 : rowAt wr false V ll[i] := rowAt_keepU (hr i V _ hvi hli) (hkeep i V (Nat.le_refl _) hvi)
            have hlt : ∀ b1, rowB V b1 → b1 < wr.heap.size := fun b1 h1 => Nat.lt_of_lt_of_le (lt i V hvi b1 h1) U.size
            have nin : ∀ b1, b1 < w0.heap.size → ¬ W0 b1 none → ¬ (G objs φ seen w).inB hh b1 := fun b1 h1 h2 hi => by
              rcases H.own2 hh _ b1 hob rfl (.inr hi) with h3 | h3
              · omega
              · exact h2 h3
            have hG' : GlOk P wr (fun b1 _ => rowB V b1) := fun w2 hs2 hk2 => hG w2 (Nat.le_trans (Nat.le_trans H.size U.size) hs2) fun b1 hb1 hW => by
              have hn1 := nin b1 hb1 hW
              have hb2 : b1 < w.heap.size := Nat.lt_of_lt_of_le hb1 H.size
              rw [hk2 b1 (Nat.lt_of_lt_of_le hb2 U.size) fun h1 => hn1 (inb i V hvi b1 h1), U.keep b1 hb2 hn1, H.keep b1 hb1 hW]
            refine ⟨b, o, q2, ?_, (one_row hrow row0 hlt hG' hfa).mono ?_⟩
            · rw [World.cell?_of_block (w := w) (a := ⟨b, o + i, none⟩) hblk]
              exact hc i V hvi
            · rintro e w' ⟨rfl, U', hrow', hlen'⟩
              have near : ∀ (j : Nat) v, j ≠ i → vs[j]? = some v → ∀ b1, rowB v b1 → w'.heap[b1]? = wr.heap[b1]? := fun j v hj hv b1 h1 =>
                U'.keep b1 (Nat.lt_of_lt_of_le (lt j v hv b1 h1) U.size) (far j i v V hj hv hvi b1 h1)
              refine ⟨a.1, rfl, U.trans U' (fun _ h => h) (fun b1 h1 => inb i V hvi b1 h1), done ++ [a.2], by simp [hdone], ⟨p.2, ?_, ?_⟩, fun j v l hv hl => ?_, fun j v hj hv b1 h1 => ?_⟩
              · rw [hfb, ← e1]
              · rw [hr2, ← e2]
                simp
              · by_cases hji : j = i
                · subst hji
                  rw [← hdone, List.getElem?_concat_length] at hl
                  simp only [Option.some.injEq] at hl
                  rw [hvi] at hv
                  simp only [Option.some.injEq] at hv
                  rw [← hl, ← hv]
                  exact hrow'
                · have hjl := (List.getElem?_eq_some_iff.1 hl).1
                  rw [List.length_append, List.length_singleton] at hjl
                  rw [List.getElem?_append_left (by omega)] at hl
                  exact rowAt_keepU (hrows j v l hv hl) (near j v hji hv)
              · rw [near j v (by omega) hv b1 h1]
                exact hkeep j v (by omega) hv b1 h1
      · rintro e w' ⟨k', rfl, U, done, hdone, ⟨rest, hrest, hr2⟩, hrows, _⟩
        rw [List.drop_length] at hrest
        simp only [markT, Option.some.injEq, Prod.mk.injEq] at hrest
        obtain ⟨e1, e2⟩ := hrest
        rw [← e2, List.append_nil] at hr2
        refine ⟨φ, ?_, tab_marked H hob U (by rw [hr2, hdone]) (fun b1 o1 hp1 i v l hi hv hl => ?_) _ _⟩
        · show Value.int .i64 k' = .int .i64 r.1
          rw [e1]
        · rw [hp'] at hp1
          cases hp1
          have hiv : i < vs.length := by omega
          have := hc i _ (List.getElem?_eq_getElem hiv)
          rw [this] at hv
          simp only [Option.some.injEq] at hv
          rw [hr2] at hl
          exact hrows i v l (by rw [List.getElem?_eq_getElem hiv, hv]) hl
end
end Go.Fx
end
