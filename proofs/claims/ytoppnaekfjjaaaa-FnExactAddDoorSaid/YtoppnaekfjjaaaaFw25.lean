/- The reflective executor, part 25: a function that changes its first argument's rows in place. -/
import Derived.Test.YtoppnaekfjjaaaaFw24
set_option linter.unusedVariables false
set_option linter.unusedSimpArgs false
set_option autoImplicit false
namespace Go.Fx
open Go

/-! ### 1. What is written -/
def updB : (b : BK) → SV → b.den → Option (List (Nat × Option AO))
  | .row e true, .sl h .all, l => some [(h, some ⟨false, .row e l⟩)]
  | .row _ true, .nil, _ => some []
  | .int _, _, _ => some []
  | .bool, _, _ => some []
  | .str, _, _ => some []
  | _, _, _ => none
def updBs : (bs : List BK) → List SV → denB bs → Option (List (Nat × Option AO))
  | [], [], _ => some []
  | b :: bs, v :: vs, x => match updB b v x.1, updBs bs vs x.2 with
    | some l, some m => some (l ++ m)
    | _, _ => none
  | _, _, _ => none
def updK : (k : KD) → SV → k.den → Option (List (Nat × Option AO))
  | .one b, v, x => updB b v x
  | .agg bs, .agg vs, x => updBs bs vs x
  | _, _, _ => none

def mkMut {R : Type} (k0 : KD) (rs : List KD) (outs : List KD) (F : k0.den → denL rs → Option R) (out : R → denL outs) (up : R → k0.den) : PFn where
  run := fun args look seen d K =>
    match args with
    | a0 :: rest => match extK look k0 a0 [], extL look rs rest [] with
      | some (x, es), some (xs, _) => match entsOk es with
        | true => (F x xs).bind fun r => match updK k0 a0 (up r) with
          | some wr => K ⟨valOf (bldL 0 outs (out r) []).1, wr, entHs es⟩
          | none => none
        | false => none
      | _, _ => none
    | [] => none

def finMut {R : Type} (ty : Ty) (results : List ResultVar) (outs : List KD) (k0 : KD) (into : denL outs → k0.den → R) (st : St) : Option R :=
  match resSV ty results st with
  | some vs => match extL st.objs outs vs [], extK st.objs k0 (st.slots 0) [] with
    | some (y, _), some (z, _) => some (into y z)
    | _, _ => none
  | none => none

/-- Rows of the first argument that the callee may write. -/
def MUp (Γ : Ctx) (w' : World) (h : Nat) (a : Option AO) : Prop :=
  ∃ e l0 l, a = some ⟨false, .row e l⟩ ∧ Γ.objs h = some ⟨false, .row e l0⟩ ∧ l.length = l0.length ∧
    ∀ b o, Γ.φ h = some (b, o) → ∀ i v, (encAll e l)[i]? = some v → w'.cell? ⟨b, o + i, none⟩ = some v

section
variable {Γ Γ' : Ctx} {w w' : World}

theorem ext_row {e : EK} {own : Bool} {v : SV} {es es1 : List Ent} {l : List e.den} {V : Value} (h : extB Γ.objs (.row e own) v es = some (l, es1)) (hr : v.rep Γ V) :
    (v = .nil ∧ l = [] ∧ V = .slice none 0 0) ∨ ∃ hh win ro l0, v = .sl hh win ∧ es1 = es ++ [⟨some (hh, win), own⟩] ∧ Γ.objs hh = some ⟨ro, .row e l0⟩ ∧ l = win.view l0 ∧ (own = true → ro = false) ∧
      win.ok l0.length ∧ ∃ A cap, V = .slice A l.length cap ∧ l.length ≤ cap ∧ (cap = 0 ∨ ∃ b o, Γ.φ hh = some (b, o) ∧ A = some ⟨b, o + win.off * e.sz, none⟩) := by
  cases v <;> simp only [extB] at h <;> try (simp at h; done)
  · simp only [Option.some.injEq, Prod.mk.injEq] at h
    exact .inl ⟨rfl, h.1.symm, hr⟩
  · rename_i hh win
    split at h
    · rename_i ro e' l0 ho
      split at h
      · rename_i he
        subst he
        split at h
        · simp at h
        · rename_i hoo
          simp only [Option.some.injEq, Prod.mk.injEq] at h
          obtain ⟨rfl, rfl⟩ := h
          obtain ⟨_, _, h3⟩ := hr
          unfold Ctx.slOk at h3
          rw [ho] at h3
          obtain ⟨h4, A, cap, h5, h6, h7, h8⟩ := h3
          refine .inr ⟨hh, win, ro, l0, rfl, rfl, ho, rfl, ?_, h4, A, cap, ?_, ?_, ?_⟩
          · intro ho'
            rw [ho'] at hoo
            simpa using hoo
          · show V = .slice A (win.view l0).length cap
            rw [view_length]; exact h5
          · show (win.view l0).length ≤ cap
            rw [view_length]; exact h6.1
          · rcases h8 with h8 | ⟨b, o, h9, h10, _⟩
            · exact .inl h8
            · exact .inr ⟨b, o, h9, h10⟩
      · simp at h
    · simp at h

theorem updB_spec (hobj' : ∀ h a, Γ'.objs h = some a → oRep Γ' w' h a) {b : BK} {v v' : SV} {V : Value} {x y : b.den} {es es1 es' es1' : List Ent} {wr : List (Nat × Option AO)}
    (h : extB Γ.objs b v es = some (x, es1)) (hr : v.rep Γ V) (h' : extB Γ'.objs b v' es' = some (y, es1')) (hr' : v'.rep Γ' V) (hw : updB b v y = some wr) :
    (∀ p ∈ wr, MUp Γ w' p.1 p.2) ∧ ∀ m ∈ es1, m ∈ es ∨ ∀ hh win, m.src = some (hh, win) → hh ∈ wr.map (·.1) := by
  cases b with
  | int k =>
    simp only [updB, Option.some.injEq] at hw
    subst hw
    refine ⟨by simp, fun m hm => .inl ?_⟩
    cases v <;> simp only [extB] at h <;> try (simp at h; done)
    split at h
    · simp only [Option.some.injEq, Prod.mk.injEq] at h
      rw [h.2]; exact hm
    · simp at h
  | bool =>
    simp only [updB, Option.some.injEq] at hw
    subst hw
    refine ⟨by simp, fun m hm => .inl ?_⟩
    cases v <;> simp only [extB] at h <;> try (simp at h; done)
    simp only [Option.some.injEq, Prod.mk.injEq] at h
    rw [h.2]; exact hm
  | str =>
    simp only [updB, Option.some.injEq] at hw
    subst hw
    refine ⟨by simp, fun m hm => .inl ?_⟩
    cases v <;> simp only [extB] at h <;> try (simp at h; done)
    simp only [Option.some.injEq, Prod.mk.injEq] at h
    rw [h.2]; exact hm
  | ref i => cases v <;> simp [updB] at hw
  | part i => cases v <;> simp [updB] at hw
  | lit c => cases v <;> simp [updB] at hw
  | row e own =>
    cases own with
    | false => cases v <;> simp [updB] at hw
    | true =>
      rcases ext_row h hr with ⟨rfl, rfl, hV⟩ | ⟨hh, win, ro, l0, rfl, rfl, ho, rfl, hown, hok, A, cap, hV, hc, hA⟩
      · simp only [updB, Option.some.injEq] at hw
        subst hw
        refine ⟨by simp, fun m hm => ?_⟩
        simp only [extB, Option.some.injEq, Prod.mk.injEq] at h
        rw [← h.2] at hm
        rcases List.mem_append.1 hm with hm | hm
        · exact .inl hm
        · right
          intro hh win hs
          simp at hm
          subst hm
          simp at hs
      · cases win <;> simp only [updB] at hw <;> try (simp at hw; done)
        simp only [Option.some.injEq] at hw
        subst hw
        have hro := hown rfl
        subst hro
        refine ⟨?_, fun m hm => ?_⟩
        · intro p hp
          simp only [List.mem_singleton] at hp
          subst hp
          have hlen : ∀ n c A', V = .slice A' n c → n = l0.length := by
            intro n c A' hq
            rw [hV] at hq
            simp only [Value.slice.injEq] at hq
            rw [← hq.2.1]
            rfl
          rcases ext_row h' hr' with ⟨_, hy, hV'⟩ | ⟨hh', win', ro', l0', rfl, _, ho', hy, hown', hok', A', cap', hV', hc', hA'⟩
          · have : 0 = l0.length := hlen 0 0 none hV'
            refine ⟨e, l0, y, rfl, ho, ?_, ?_⟩
            · rw [hy]; exact this
            · intro b o _ i v hi
              rw [hy] at hi
              simp [encAll] at hi
          · have hl : List.length y = l0.length := hlen _ _ _ hV'
            refine ⟨e, l0, y, rfl, ho, hl, ?_⟩
            intro b o hφ i v hi
            have hlt : i < List.length y * e.sz := by
              have := (List.getElem?_eq_some_iff.1 hi).1
              rw [encAll_length] at this
              exact this
            have hpos : 0 < List.length y := by
              rcases Nat.eq_zero_or_pos (List.length y) with h0 | h0
              · rw [h0] at hlt; simp at hlt
              · exact h0
            rw [hV] at hV'
            simp only [Value.slice.injEq] at hV'
            obtain ⟨hAA, _, hcc⟩ := hV'
            have c1 : cap ≠ 0 := by
              have : (Win.all.view l0).length = l0.length := rfl
              omega
            have c2 : cap' ≠ 0 := by omega
            obtain ⟨b1, o1, q1, q2⟩ := hA.resolve_left c1
            obtain ⟨b2, o2, q3, q4⟩ := hA'.resolve_left c2
            rw [hφ] at q1
            simp only [Option.some.injEq, Prod.mk.injEq] at q1
            obtain ⟨rfl, rfl⟩ := q1
            rw [hAA, q4] at q2
            simp only [Option.some.injEq, Addr.mk.injEq, and_true] at q2
            obtain ⟨rfl, q5⟩ := q2
            rcases hobj' hh' _ ho' with ⟨hn, _⟩ | ⟨b3, o3, q6, hcell, _⟩
            · rw [hn] at q3; cases q3
            · rw [q3] at q6
              simp only [Option.some.injEq, Prod.mk.injEq] at q6
              obtain ⟨rfl, rfl⟩ := q6
              rw [hy, encAll_view, List.getElem?_take] at hi
              split at hi
              · rw [List.getElem?_drop] at hi
                have := hcell _ v hi
                have e1 : Win.all.off * e.sz = 0 := by simp [Win.off]
                rw [show o + i = o2 + (win'.off * e.sz + i) by omega]
                exact this
              · simp at hi
        · rcases List.mem_append.1 hm with hm | hm
          · exact .inl hm
          · right
            intro h2 win2 hs
            simp only [List.mem_singleton] at hm
            subst hm
            simp only [Option.some.injEq, Prod.mk.injEq] at hs
            simp [hs.1]

theorem updBs_spec (hobj' : ∀ h a, Γ'.objs h = some a → oRep Γ' w' h a) : ∀ {bs : List BK} {vs vs' : List SV} {Vs : List Value} {x y : denB bs} {es es1 es' es1' : List Ent} {wr : List (Nat × Option AO)},
    extBs Γ.objs bs vs es = some (x, es1) → SV.repL Γ vs Vs → extBs Γ'.objs bs vs' es' = some (y, es1') → SV.repL Γ' vs' Vs → updBs bs vs y = some wr →
    (∀ p ∈ wr, MUp Γ w' p.1 p.2) ∧ ∀ m ∈ es1, m ∈ es ∨ ∀ hh win, m.src = some (hh, win) → hh ∈ wr.map (·.1)
  | [], vs, vs', Vs, x, y, es, es1, es', es1', wr, h, hr, h', hr', hw => by
    cases vs <;> simp only [extBs] at h <;> try (simp at h; done)
    simp only [updBs, Option.some.injEq] at hw
    subst hw
    simp only [Option.some.injEq, Prod.mk.injEq] at h
    exact ⟨by simp, fun m hm => .inl (by rw [h.2]; exact hm)⟩
  | b :: bs, vs, vs', Vs, x, y, es, es1, es', es1', wr, h, hr, h', hr', hw => by
    cases vs with
    | nil => simp [extBs] at h
    | cons v vs =>
      cases vs' with
      | nil => simp [extBs] at h'
      | cons v' vs' =>
        obtain ⟨V, Vs1, rfl, r1, r2⟩ := hr
        obtain ⟨V', Vs1', hVV, r1', r2'⟩ := hr'
        simp only [List.cons.injEq] at hVV
        obtain ⟨rfl, rfl⟩ := hVV
        simp only [extBs] at h h'
        split at h
        · rename_i x1 es2 hx
          split at h
          · rename_i xs es3 hxs
            simp only [Option.some.injEq, Prod.mk.injEq] at h
            obtain ⟨rfl, rfl⟩ := h
            split at h'
            · rename_i y1 es2' hy
              split at h'
              · rename_i ys es3' hys
                simp only [Option.some.injEq, Prod.mk.injEq] at h'
                obtain ⟨rfl, rfl⟩ := h'
                simp only [updBs] at hw
                split at hw
                · rename_i l m hl hm
                  simp only [Option.some.injEq] at hw
                  subst hw
                  obtain ⟨a1, a2⟩ := updB_spec hobj' hx r1 hy r1' hl
                  obtain ⟨b1, b2⟩ := updBs_spec hobj' hxs r2 hys r2' hm
                  refine ⟨fun p hp => ?_, fun q hq => ?_⟩
                  · rcases List.mem_append.1 hp with hp | hp
                    · exact a1 p hp
                    · exact b1 p hp
                  · rcases b2 q hq with hq | hq
                    · rcases a2 q hq with hq | hq
                      · exact .inl hq
                      · exact .inr fun hh win hs => by rw [List.map_append]; exact List.mem_append_left _ (hq hh win hs)
                    · exact .inr fun hh win hs => by rw [List.map_append]; exact List.mem_append_right _ (hq hh win hs)
                · simp at hw
              · simp at h'
            · simp at h'
          · simp at h
        · simp at h

theorem updK_spec (hobj' : ∀ h a, Γ'.objs h = some a → oRep Γ' w' h a) {k : KD} {v v' : SV} {V : Value} {x y : k.den} {es1 es1' : List Ent} {wr : List (Nat × Option AO)}
    (h : extK Γ.objs k v [] = some (x, es1)) (hr : v.rep Γ V) (h' : extK Γ'.objs k v' [] = some (y, es1')) (hr' : v'.rep Γ' V) (hw : updK k v y = some wr) :
    (∀ p ∈ wr, MUp Γ w' p.1 p.2) ∧ ∀ m ∈ es1, ∀ hh win, m.src = some (hh, win) → hh ∈ wr.map (·.1) := by
  cases k with
  | one b =>
    obtain ⟨a1, a2⟩ := updB_spec (es := []) (es' := []) hobj' (by simpa only [extK] using h) hr (by simpa only [extK] using h') hr' (by simpa only [updK] using hw)
    exact ⟨a1, fun m hm => (a2 m hm).resolve_left (by simp)⟩
  | agg bs =>
    cases v <;> simp only [extK] at h <;> try (simp at h; done)
    cases v' <;> simp only [extK] at h' <;> try (simp at h'; done)
    obtain ⟨us, hu, hus⟩ := hr
    obtain ⟨us', hu', hus'⟩ := hr'
    have : us = us' := by
      rw [hu] at hu'
      simpa using hu'
    subst this
    obtain ⟨a1, a2⟩ := updBs_spec (es := []) (es' := []) hobj' h hus h' hus' (by simpa only [updK] using hw)
    exact ⟨a1, fun m hm => (a2 m hm).resolve_left (by simp)⟩
  | _ => cases v <;> simp [updK] at hw
end
end Go.Fx
