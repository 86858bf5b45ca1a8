/- The reflective executor, part 18: what is kept of a state, under new names. -/
import Derived.Test.YtoppnaekfjjaaaaFw17
set_option linter.unusedVariables false
set_option linter.unusedSimpArgs false
set_option autoImplicit false
namespace Go.Fx
open Go

/-! ### 1. Values under new names -/
mutual
def VR (base : Nat) (Es : List Ent) : SV → SV → Prop
  | .top, v' => v' = .top
  | .bool b, v' => v' = .bool b
  | .int k n, v' => v' = .int k n
  | .str s, v' => v' = .str s
  | .nil, v' => v' = .nil ∨ ∃ k own, Es[k]? = some ⟨none, own⟩ ∧ v' = .sl (base + k) .all
  | .nilfn, v' => v' = .nilfn
  | .sl h w, v' => (∃ k own, Es[k]? = some ⟨some (h, w), own⟩ ∧ v' = .sl (base + k) .all) ∨ (∃ k own i, w = .drop i ∧ Es[k]? = some ⟨some (h, .all), own⟩ ∧ v' = .sl (base + k) (.drop i))
  | .ptr h j, v' => ∃ k own, Es[k]? = some ⟨some (h, .all), own⟩ ∧ v' = .ptr (base + k) j
  | .pel h i j, v' => i = 0 ∧ j = 0 ∧ ∃ k own, Es[k]? = some ⟨some (h, .all), own⟩ ∧ v' = .pel (base + k) 0 0
  | .fn f cs, v' => ∃ cs', v' = .fn f cs' ∧ VRL base Es cs cs'
  | .agg cs, v' => ∃ cs', v' = .agg cs' ∧ VRL base Es cs cs'
  | .ints n l, v' => v' = .ints n l
  | .tup _, _ => False
def VRL (base : Nat) (Es : List Ent) : List SV → List SV → Prop
  | [], vs' => vs' = []
  | v :: vs, ws => ∃ v' vs', ws = v' :: vs' ∧ VR base Es v v' ∧ VRL base Es vs vs'
end

def OM (Γ : Ctx) (base : Nat) (Es : List Ent) (x : Ent) : AO → Prop
  | ⟨ro', .row e l'⟩ => ro' = !x.own ∧ ((x.src = none ∧ l' = []) ∨ ∃ h w ro l, x.src = some (h, w) ∧ Γ.objs h = some ⟨ro, .row e l⟩ ∧ l' = w.view l ∧ w.ok l.length ∧ (x.own = true → ro = false))
  | ⟨ro', .cells cs'⟩ => ro' = !x.own ∧ ∃ h ro cs, x.src = some (h, .all) ∧ Γ.objs h = some ⟨ro, .cells cs⟩ ∧ VRL base Es cs cs' ∧ (x.own = true → ro = false)
  | ⟨ro', .arr n l'⟩ => ro' = !x.own ∧ ∃ h ro, x.src = some (h, .all) ∧ Γ.objs h = some ⟨ro, .arr n l'⟩ ∧ (x.own = true → ro = false)

def entPlace (Γ : Ctx) (x : Ent) : Option (Nat × Nat) :=
  match x.src with
  | none => none
  | some (h, w) => match Γ.φ h with
    | none => none
    | some (b, o) => match Γ.objs h with
      | some ⟨_, .row e _⟩ => some (b, o + w.off * e.sz)
      | _ => some (b, o)

/-- A context that has the kept objects under their new names. -/
structure Tgt (Γ Γ' : Ctx) (base : Nat) (Es : List Ent) (F : List AO) : Prop where
  objs : ∀ (k : Nat) (a : AO), F[k]? = some a → Γ'.objs (base + k) = some a
  φ : ∀ (k : Nat) (x : Ent), Es[k]? = some x → Γ'.φ (base + k) = entPlace Γ x
  seen : ∀ k, k < F.length → Γ'.seen (base + k) = true
  bs : ∀ b, Γ'.bs b = Γ.bs b
  len : Es.length = F.length
  om : ∀ (k : Nat) (x : Ent) (a : AO), Es[k]? = some x → F[k]? = some a → OM Γ base Es x a

theorem Tgt.get {Γ Γ' : Ctx} {base : Nat} {Es : List Ent} {F : List AO} (T : Tgt Γ Γ' base Es F) {k : Nat} {x : Ent} (h : Es[k]? = some x) :
    ∃ a, F[k]? = some a ∧ Γ'.objs (base + k) = some a ∧ Γ'.φ (base + k) = entPlace Γ x ∧ Γ'.seen (base + k) = true ∧ OM Γ base Es x a := by
  have hlt : k < F.length := T.len ▸ (List.getElem?_eq_some_iff.1 h).1
  have hF : F[k]? = some F[k] := List.getElem?_eq_getElem hlt
  exact ⟨F[k], hF, T.objs k _ hF, T.φ k x h, T.seen k hlt, T.om k x _ h hF⟩

mutual
theorem VR_rep {Γ Γ' : Ctx} {base : Nat} {Es : List Ent} {F : List AO} (T : Tgt Γ Γ' base Es F) : ∀ (v v' : SV) (u : Value), VR base Es v v' → v.rep Γ u → v'.rep Γ' u
  | .top, v', u, h, r => by simp only [VR] at h; subst h; exact r
  | .bool b, v', u, h, r => by simp only [VR] at h; subst h; exact r
  | .int k n, v', u, h, r => by simp only [VR] at h; subst h; exact r
  | .str s, v', u, h, r => by simp only [VR] at h; subst h; exact r
  | .nilfn, v', u, h, r => by simp only [VR] at h; subst h; exact r
  | .ints n l, v', u, h, r => by simp only [VR] at h; subst h; exact r
  | .tup cs, v', u, h, r => by simp only [VR] at h
  | .nil, v', u, h, r => by
    simp only [VR] at h
    rcases h with rfl | ⟨k, own, hk, rfl⟩
    · exact r
    · obtain ⟨a, hF, ho, hp, hs, hm⟩ := T.get hk
      simp only [SV.rep] at r
      subst r
      refine ⟨hs, ⟨_, _, _, rfl⟩, ?_⟩
      unfold Ctx.slOk
      rw [ho]
      obtain ⟨ro, o⟩ := a
      cases o with
      | row e l =>
        simp only [OM] at hm
        rcases hm.2 with ⟨_, rfl⟩ | ⟨h, w, _, _, q, _⟩
        · exact ⟨trivial, none, 0, rfl, ⟨Nat.le_refl _, Nat.zero_le _⟩, Nat.zero_le _, .inl rfl⟩
        · simp at q
      | _ => trivial
  | .sl h w, v', u, hv, r => by
    simp only [VR] at hv
    rcases hv with ⟨k, own, hk, rfl⟩ | ⟨k, own, i, rfl, hk, rfl⟩
    · skip
      obtain ⟨a, hF, ho, hp, hs, hm⟩ := T.get hk
      obtain ⟨r1, r2, r3⟩ := r
      refine ⟨hs, r2, ?_⟩
      unfold Ctx.slOk
      rw [ho]
      obtain ⟨ro', o⟩ := a
      cases o with
      | row e l' =>
        simp only [OM] at hm
        obtain ⟨hro, hm⟩ := hm
        rcases hm with ⟨q, _⟩ | ⟨h', w', ro, l, q, hob, rfl, hok, hown⟩
        · simp at q
        · simp only [Option.some.injEq, Prod.mk.injEq] at q
          obtain ⟨rfl, rfl⟩ := q
          unfold Ctx.slOk at r3
          rw [hob] at r3
          obtain ⟨_, A, cap, hu, h1, h2, h3⟩ := r3
          refine ⟨trivial, A, cap, ?_, ?_, h2, ?_⟩
          · simp only [Win.len, view_length]; exact hu
          · simp only [Win.len, Win.off, view_length, Nat.zero_add]; exact ⟨h1.1, h1.1⟩
          · rcases h3 with h3 | ⟨b, o, h4, h5, h6⟩
            · exact .inl h3
            · right
              refine ⟨b, o + w.off * e.sz, ?_, ?_, ?_⟩
              · rw [hp]
                simp only [entPlace, h4, hob]
              · simp only [Win.off, Nat.zero_mul, Nat.add_zero]; exact h5
              · intro hr
                have hown' : own = true := by
                  rw [hr] at hro
                  simpa using hro.symm
                have := h6 (hown hown')
                rw [T.bs b, show Win.all.off = 0 from rfl, Nat.zero_add]
                have e1 : (w.off + cap) * e.sz = w.off * e.sz + cap * e.sz := Nat.add_mul _ _ _
                omega
      | _ => trivial
    · obtain ⟨a, hF, ho, hp, hs, hm⟩ := T.get hk
      obtain ⟨r1, r2, r3⟩ := r
      refine ⟨hs, r2, ?_⟩
      unfold Ctx.slOk
      rw [ho]
      obtain ⟨ro', o⟩ := a
      cases o with
      | row e l' =>
        simp only [OM] at hm
        obtain ⟨hro, hm⟩ := hm
        rcases hm with ⟨q, _⟩ | ⟨h', w', ro, l, q, hob, rfl, hok, hown⟩
        · simp at q
        · simp only [Option.some.injEq, Prod.mk.injEq] at q
          obtain ⟨rfl, rfl⟩ := q
          have hall : Win.all.view l = l := rfl
          rw [hall]
          unfold Ctx.slOk at r3
          rw [hob] at r3
          obtain ⟨hok2, A, cap, hu, h1, h2, h3⟩ := r3
          refine ⟨hok2, A, cap, hu, h1, h2, ?_⟩
          rcases h3 with h3 | ⟨b, o, h4, h5, h6⟩
          · exact .inl h3
          · right
            refine ⟨b, o, ?_, h5, ?_⟩
            · rw [hp]
              simp only [entPlace, h4, hob, Win.off, Nat.zero_mul, Nat.add_zero]
            · intro hr
              have hown' : own = true := by
                rw [hr] at hro
                simpa using hro.symm
              rw [T.bs b]
              exact h6 (hown hown')
      | _ => trivial
  | .ptr h j, v', u, hv, r => by
    simp only [VR] at hv
    obtain ⟨k, own, hk, rfl⟩ := hv
    obtain ⟨a, hF, ho, hp, hs, hm⟩ := T.get hk
    obtain ⟨r1, r2, r3⟩ := r
    refine ⟨hs, r2, ?_⟩
    unfold Ctx.ptrOk
    rw [ho]
    obtain ⟨ro', o⟩ := a
    cases o with
    | cells cs' =>
      simp only [OM] at hm
      obtain ⟨_, h', ro, cs, q, hob, _, _⟩ := hm
      simp only [Option.some.injEq, Prod.mk.injEq, and_true] at q
      subst q
      unfold Ctx.ptrOk at r3
      rw [hob] at r3
      obtain ⟨b, o, h4, h5⟩ := r3
      refine ⟨b, o, ?_, h5⟩
      rw [hp]
      simp only [entPlace, h4, hob]
    | _ => trivial
  | .pel h i j, v', u, hv, r => by
    simp only [VR] at hv
    obtain ⟨rfl, rfl, k, own, hk, rfl⟩ := hv
    obtain ⟨a, hF, ho, hp, hs, hm⟩ := T.get hk
    obtain ⟨r1, r2, r3⟩ := r
    refine ⟨hs, r2, ?_⟩
    unfold Ctx.pelOk
    rw [ho]
    obtain ⟨ro', o⟩ := a
    cases o with
    | cells cs' => trivial
    | row e l' =>
      simp only [OM] at hm
      obtain ⟨hro, hm⟩ := hm
      rcases hm with ⟨q, _⟩ | ⟨h', w', ro, l, q, hob, rfl, hok, hown⟩
      · simp at q
      · simp only [Option.some.injEq, Prod.mk.injEq] at q
        obtain ⟨rfl, rfl⟩ := q
        unfold Ctx.pelOk at r3
        rw [hob] at r3
        obtain ⟨hi, b, o, h4, h5⟩ := r3
        refine ⟨hi, b, o, ?_, h5⟩
        rw [hp]
        simp only [entPlace, h4, hob, Win.off, Nat.zero_mul, Nat.add_zero]
    | arr n l' =>
      simp only [OM] at hm
      obtain ⟨_, h', ro, q, hob, _⟩ := hm
      simp only [Option.some.injEq, Prod.mk.injEq, and_true] at q
      subst q
      unfold Ctx.pelOk at r3
      rw [hob] at r3
      obtain ⟨hi, b, o, h4, h5⟩ := r3
      refine ⟨hi, b, o, ?_, h5⟩
      rw [hp]
      simp only [entPlace, h4, hob]
  | .fn f cs, v', u, hv, r => by
    simp only [VR] at hv
    obtain ⟨cs', rfl, h1⟩ := hv
    obtain ⟨vs, hu, hr⟩ := r
    exact ⟨vs, hu, VRL_rep T cs cs' vs h1 hr⟩
  | .agg cs, v', u, hv, r => by
    simp only [VR] at hv
    obtain ⟨cs', rfl, h1⟩ := hv
    obtain ⟨vs, hu, hr⟩ := r
    exact ⟨vs, hu, VRL_rep T cs cs' vs h1 hr⟩
theorem VRL_rep {Γ Γ' : Ctx} {base : Nat} {Es : List Ent} {F : List AO} (T : Tgt Γ Γ' base Es F) : ∀ (cs cs' : List SV) (vs : List Value), VRL base Es cs cs' → SV.repL Γ cs vs → SV.repL Γ' cs' vs
  | [], cs', vs, h, r => by
    simp only [VRL] at h
    subst h
    exact r
  | c :: cs, ds, vs, h, r => by
    simp only [VRL] at h
    obtain ⟨c', cs', rfl, h1, h2⟩ := h
    obtain ⟨x, xs, rfl, r1, r2⟩ := r
    exact ⟨x, xs, rfl, VR_rep T c c' x h1 r1, VRL_rep T cs cs' xs h2 r2⟩
end

/-- The memory of a kept object. -/
theorem OM_rep {Γ Γ' : Ctx} {base : Nat} {Es : List Ent} {F : List AO} {w : World} (T : Tgt Γ Γ' base Es F) (hobj : ∀ h a, Γ.objs h = some a → oRep Γ w h a) {k : Nat} {x : Ent} {a : AO} (hk : Es[k]? = some x) (ha : F[k]? = some a) :
    oRep Γ' w (base + k) a := by
  obtain ⟨a', hF, ho, hp, hs, hm⟩ := T.get hk
  rw [ha] at hF
  cases hF
  obtain ⟨ro', o⟩ := a
  cases o with
  | row e l' =>
    simp only [OM] at hm
    obtain ⟨hro, hm⟩ := hm
    rcases hm with ⟨q, rfl⟩ | ⟨h, w', ro, l, q, hob, rfl, hok, hown⟩
    · left
      refine ⟨?_, rfl⟩
      rw [hp]
      simp only [entPlace, q]
    · rcases hobj h _ hob with ⟨hn, rfl⟩ | ⟨b, o, hφ, hc, hr⟩
      · left
        refine ⟨?_, ?_⟩
        · rw [hp]
          simp only [entPlace, q, hn]
        · cases w' <;> simp [Win.view]
      · right
        refine ⟨b, o + w'.off * e.sz, ?_, ?_, ?_⟩
        · rw [hp]
          simp only [entPlace, q, hφ, hob]
        · intro i v hv
          rw [encAll_view, List.getElem?_take] at hv
          split at hv
          · rw [List.getElem?_drop] at hv
            have := hc _ v hv
            rw [show o + w'.off * e.sz + i = o + (w'.off * e.sz + i) by omega]
            exact this
          · simp at hv
        · intro hf
          have hown' : x.own = true := by
            rw [hf] at hro
            simpa using hro.symm
          obtain ⟨cur, Ty, h1, h2⟩ := hr (hown hown')
          refine ⟨cur, Ty, h1, ?_⟩
          rw [view_length]
          have h3 := len_le w' l.length hok
          have h4 : (w'.off + w'.len l.length) * e.sz ≤ l.length * e.sz := Nat.mul_le_mul_right _ h3
          rw [Nat.add_mul] at h4
          omega
  | cells cs' =>
    simp only [OM] at hm
    obtain ⟨hro, h, ro, cs, q, hob, hv, hown⟩ := hm
    obtain ⟨b, o, hφ, vs, h1, h2, h3, h4⟩ := hobj h _ hob
    refine ⟨b, o, ?_, vs, VRL_rep T _ _ _ hv h1, h2, h3, fun hf => h4 (hown ?_)⟩
    · rw [hp]
      simp only [entPlace, q, hφ, hob]
    · rw [hf] at hro
      simpa using hro.symm
  | arr n l' =>
    simp only [OM] at hm
    obtain ⟨hro, h, ro, q, hob, hown⟩ := hm
    obtain ⟨hn, b, o, hφ, h3, h4⟩ := hobj h _ hob
    refine ⟨hn, b, o, ?_, h3, fun hf => h4 (hown ?_)⟩
    · rw [hp]
      simp only [entPlace, q, hφ, hob]
    · rw [hf] at hro
      simpa using hro.symm

/-! ### 2. What is read off and built again -/
/-- The reading from es to es1 and the building from os to os1 agree; under every longer list, p holds and the new objects match. -/
structure Pair (Γ : Ctx) (base : Nat) (es es1 : List Ent) (os os1 : List AO) (p : List Ent → Prop) : Prop where
  ex : ∃ de dd, es1 = es ++ de ∧ os1 = os ++ dd ∧ de.length = dd.length
  om : ∀ r, p (es1 ++ r) ∧ ∀ (k : Nat) (x : Ent) (a : AO), es.length ≤ k → es1[k]? = some x → os1[k]? = some a → OM Γ base (es1 ++ r) x a

theorem Pair.none {Γ : Ctx} {base : Nat} {es : List Ent} {os : List AO} {p : List Ent → Prop} (h : ∀ r, p (es ++ r)) : Pair Γ base es es os os p :=
  ⟨⟨[], [], by simp, by simp, rfl⟩, fun r => ⟨h r, fun k x a hk hx _ => by
    have := (List.getElem?_eq_some_iff.1 hx).1
    omega⟩⟩

theorem Pair.lens {Γ : Ctx} {base : Nat} {es es1 : List Ent} {os os1 : List AO} {p : List Ent → Prop} (h : Pair Γ base es es1 os os1 p) (hl : os.length = es.length) : os1.length = es1.length := by
  obtain ⟨de, dd, h1, h2, h3⟩ := h.ex
  rw [h1, h2, List.length_append, List.length_append, hl, h3]

theorem Pair.seq {Γ : Ctx} {base : Nat} {es es1 es2 : List Ent} {os os1 os2 : List AO} {p q : List Ent → Prop} (hl : os.length = es.length) (h : Pair Γ base es es1 os os1 p) (k : Pair Γ base es1 es2 os1 os2 q) :
    Pair Γ base es es2 os os2 (fun l => p l ∧ q l) := by
  obtain ⟨de, dd, h1, h2, h3⟩ := h.ex
  obtain ⟨de', dd', k1, k2, k3⟩ := k.ex
  have hl1 := h.lens hl
  refine ⟨⟨de ++ de', dd ++ dd', by rw [k1, h1]; simp, by rw [k2, h2]; simp, by simp [h3, k3]⟩, fun r => ⟨⟨?_, (k.om r).1⟩, ?_⟩⟩
  · have := (h.om (de' ++ r)).1
    rw [k1]
    simpa using this
  · intro i x a hi hx ha
    by_cases c : es1.length ≤ i
    · exact (k.om r).2 i x a c hx ha
    · have hx1 : es1[i]? = some x := by
        rw [k1, List.getElem?_append_left (by omega)] at hx
        exact hx
      have ha1 : os1[i]? = some a := by
        rw [k2, List.getElem?_append_left (by omega)] at ha
        exact ha
      have := (h.om (de' ++ r)).2 i x a hi hx1 ha1
      rw [k1]
      simpa using this

theorem Pair.imp {Γ : Ctx} {base : Nat} {es es1 : List Ent} {os os1 : List AO} {p q : List Ent → Prop} (h : Pair Γ base es es1 os os1 p) (hpq : ∀ l, p l → q l) : Pair Γ base es es1 os os1 q :=
  ⟨h.ex, fun r => ⟨hpq _ (h.om r).1, (h.om r).2⟩⟩

/-- One object more. -/
theorem Pair.one {Γ : Ctx} {base : Nat} {es : List Ent} {os : List AO} {x : Ent} {a : AO} {p : List Ent → Prop} (hl : os.length = es.length) (hp : ∀ r, p (es ++ [x] ++ r)) (hm : ∀ r, OM Γ base (es ++ [x] ++ r) x a) :
    Pair Γ base es (es ++ [x]) os (os ++ [a]) p :=
  ⟨⟨[x], [a], rfl, rfl, rfl⟩, fun r => ⟨hp r, fun k y b hk hy hb => by
    have hlt := (List.getElem?_eq_some_iff.1 hy).1
    simp only [List.length_append, List.length_singleton] at hlt
    have hkk : k = es.length := by omega
    subst hkk
    rw [List.getElem?_append_right (Nat.le_refl _)] at hy
    rw [← hl, List.getElem?_append_right (Nat.le_refl _)] at hb
    simp at hy hb
    subst hy; subst hb
    exact hm r⟩⟩

theorem last_get {es : List Ent} {x : Ent} {r : List Ent} : (es ++ [x] ++ r)[es.length]? = some x := by
  simp

section
variable {Γ : Ctx} {w : World} {base : Nat}

theorem litEq_vr {c v : SV} (h : litEq c v = true) (Es : List Ent) : VR base Es v c := by
  unfold litEq at h
  split at h
  · exact .inl rfl
  · exact rfl
  · rename_i f g
    have := Nat.eq_of_beq_eq_true h
    subst this
    exact ⟨[], rfl, rfl⟩
  · simp at h

theorem extB_pair {b : BK} {v : SV} {es es1 : List Ent} {y : b.den} {os : List AO} {u : Value} (h : extB Γ.objs b v es = some (y, es1)) (hu : v.rep Γ u) (hl : os.length = es.length) :
    Pair Γ base es es1 os (bldB base b y os).2 (fun Es => VR base Es v (bldB base b y os).1) := by
  cases b with
  | int k =>
    cases v <;> simp only [extB] at h <;> try (simp at h; done)
    split at h
    · rename_i hk
      subst hk
      simp only [Option.some.injEq, Prod.mk.injEq] at h
      obtain ⟨rfl, rfl⟩ := h
      exact .none fun r => rfl
    · simp at h
  | bool =>
    cases v <;> simp only [extB] at h <;> try (simp at h; done)
    simp only [Option.some.injEq, Prod.mk.injEq] at h
    obtain ⟨rfl, rfl⟩ := h
    exact .none fun r => rfl
  | str =>
    cases v <;> simp only [extB] at h <;> try (simp at h; done)
    simp only [Option.some.injEq, Prod.mk.injEq] at h
    obtain ⟨rfl, rfl⟩ := h
    exact .none fun r => rfl
  | row e own =>
    cases v <;> simp only [extB] at h <;> try (simp at h; done)
    · -- nil
      simp only [Option.some.injEq, Prod.mk.injEq] at h
      obtain ⟨rfl, rfl⟩ := h
      refine .one hl (fun r => ?_) (fun r => ?_)
      · exact .inr ⟨es.length, own, last_get, by simp [bldB, hl]⟩
      · exact ⟨rfl, .inl ⟨rfl, rfl⟩⟩
    · -- sl
      rename_i hh win
      split at h
      · rename_i ro e' l ho
        split at h
        · rename_i he
          subst he
          split at h
          · simp at h
          · rename_i hoo
            simp only [Option.some.injEq, Prod.mk.injEq] at h
            obtain ⟨rfl, rfl⟩ := h
            refine .one hl (fun r => ?_) (fun r => ?_)
            · exact .inl ⟨es.length, own, last_get, by simp [bldB, hl]⟩
            · refine ⟨rfl, .inr ⟨hh, win, ro, l, rfl, ho, rfl, ?_, ?_⟩⟩
              · have h3 := hu.2.2
                unfold Ctx.slOk at h3
                rw [ho] at h3
                exact h3.1
              · intro ho'
                have ho'' : own = true := ho'
                rw [ho''] at hoo
                simpa using hoo
        · simp at h
      · simp at h
  | ref i =>
    cases v <;> simp only [extB] at h <;> try (simp at h; done)
    rename_i hh win
    cases win <;> simp only [extB] at h <;> try (simp at h; done)
    split at h
    · rename_i h' own hes
      split at h
      · rename_i hb
        have := Nat.eq_of_beq_eq_true hb
        subst this
        simp only [Option.some.injEq, Prod.mk.injEq] at h
        obtain ⟨_, rfl⟩ := h
        refine .none fun r => .inl ⟨i, own, ?_, rfl⟩
        have hlt := (List.getElem?_eq_some_iff.1 hes).1
        rw [List.getElem?_append_left hlt]
        exact hes
      · simp at h
    · simp at h
  | part i =>
    cases v <;> simp only [extB] at h <;> try (simp at h; done)
    rename_i hh win
    cases win <;> simp only [extB] at h <;> try (simp at h; done)
    rename_i q
    split at h
    · rename_i h' own hes
      split at h
      · rename_i hb
        have := Nat.eq_of_beq_eq_true hb
        subst this
        simp only [Option.some.injEq, Prod.mk.injEq] at h
        obtain ⟨rfl, rfl⟩ := h
        refine .none fun r => .inr ⟨i, own, q, rfl, ?_, rfl⟩
        have hlt := (List.getElem?_eq_some_iff.1 hes).1
        rw [List.getElem?_append_left hlt]
        exact hes
      · simp at h
    · simp at h
  | lit c =>
    have h' : (match litEq c v with | true => (some ((), es) : Option (Unit × List Ent)) | false => none) = some (y, es1) := by
      cases v <;> (simp only [extB] at h; exact h)
    split at h'
    · rename_i hc
      simp only [Option.some.injEq, Prod.mk.injEq] at h'
      obtain ⟨_, rfl⟩ := h'
      exact .none fun r => litEq_vr hc _
    · simp at h'

theorem extBs_pair : ∀ {bs : List BK} {vs : List SV} {es es1 : List Ent} {y : denB bs} {os : List AO} {us : List Value}, extBs Γ.objs bs vs es = some (y, es1) → SV.repL Γ vs us → os.length = es.length →
    Pair Γ base es es1 os (bldBs base bs y os).2 (fun Es => VRL base Es vs (bldBs base bs y os).1)
  | [], vs, es, es1, y, os, us, h, hu, hl => by
    cases vs <;> simp only [extBs] at h <;> try (simp at h; done)
    simp only [Option.some.injEq, Prod.mk.injEq] at h
    obtain ⟨_, rfl⟩ := h
    exact .none fun r => rfl
  | b :: bs, vs, es, es1, y, os, us, h, hu, hl => by
    cases vs with
    | nil => simp [extBs] at h
    | cons v vs =>
      simp only [extBs] at h
      obtain ⟨u, us', rfl, hu1, hu2⟩ := hu
      split at h
      · rename_i x es2 hx
        split at h
        · rename_i xs es3 hxs
          simp only [Option.some.injEq, Prod.mk.injEq] at h
          obtain ⟨rfl, rfl⟩ := h
          have p1 := extB_pair (base := base) (os := os) hx hu1 hl
          have p2 := extBs_pair (os := (bldB base b x os).2) hxs hu2 (p1.lens hl)
          exact (p1.seq hl p2).imp fun l hl => ⟨_, _, rfl, hl.1, hl.2⟩
        · simp at h
      · simp at h

theorem ref_pair {es : List Ent} {i h h' : Nat} {own : Bool} {os : List AO} {v v' : SV} (hes : es[i]? = some ⟨some (h', .all), own⟩) (hv : ∀ Es : List Ent, Es[i]? = some ⟨some (h', .all), own⟩ → VR base Es v v') :
    Pair Γ base es es os os (fun Es => VR base Es v v') := by
  refine .none fun r => hv _ ?_
  have hlt := (List.getElem?_eq_some_iff.1 hes).1
  rw [List.getElem?_append_left hlt]
  exact hes

theorem extK_pair (hobj : ∀ h a, Γ.objs h = some a → oRep Γ w h a) {k : KD} {v : SV} {es es1 : List Ent} {y : k.den} {os : List AO} {u : Value} (h : extK Γ.objs k v es = some (y, es1)) (hu : v.rep Γ u) (hl : os.length = es.length) :
    Pair Γ base es es1 os (bldK base k y os).2 (fun Es => VR base Es v (bldK base k y os).1) := by
  induction k generalizing v es es1 os u with
  | one b => exact extB_pair (by simpa only [extK] using h) hu hl
  | agg bs =>
    cases v <;> simp only [extK] at h <;> try (simp at h; done)
    obtain ⟨us, _, hus⟩ := hu
    exact (extBs_pair (base := base) (os := os) h hus hl).imp fun l hl => ⟨_, rfl, hl⟩
  | box own bs =>
    cases v <;> try (simp [extK] at h; done)
    rename_i hh i
    cases i with
    | succ i => simp only [extK] at h; simp at h
    | zero =>
      simp only [extK] at h
      split at h
      · rename_i ro cs ho
        split at h
        · simp at h
        · rename_i hoo
          obtain ⟨b, o, hφ, vs, hr, _, _, _⟩ := hobj hh _ ho
          have p := extBs_pair (base := base) (os := os ++ [⟨!own, .cells []⟩]) h hr (by simp [hl])
          obtain ⟨de, dd, q1, q2, q3⟩ := p.ex
          have e2 : (bldK base (.box own bs) y os).2 = os ++ [⟨!own, .cells (bldBs base bs y (os ++ [⟨!own, .cells []⟩])).1⟩] ++ dd := by
            simp only [bldK, q2]
            rw [List.append_assoc os, List.append_assoc os, List.set_append_right _ _ (Nat.le_refl _)]
            simp
          have hx : ∀ r, (es1 ++ r)[es.length]? = some ⟨some (hh, .all), own⟩ := by
            intro r
            rw [q1]
            simp
          refine ⟨⟨⟨some (hh, .all), own⟩ :: de, ⟨!own, .cells (bldBs base bs y (os ++ [⟨!own, .cells []⟩])).1⟩ :: dd, by rw [q1]; simp, by rw [e2]; simp, by simp [q3]⟩, fun r => ⟨?_, ?_⟩⟩
          · exact ⟨es.length, own, hx r, by simp [bldK, hl]⟩
          · intro k x a hk hxk ha
            by_cases c : k = es.length
            · subst c
              have hx' := hx []
              rw [List.append_nil] at hx'
              rw [hx'] at hxk
              rw [e2, ← hl, List.append_assoc, List.getElem?_append_right (Nat.le_refl _)] at ha
              simp at hxk ha
              subst hxk
              subst ha
              refine ⟨rfl, hh, ro, cs, rfl, ho, (p.om r).1, ?_⟩
              intro ho'
              have ho'' : own = true := ho'
              rw [ho''] at hoo
              simpa using hoo
            · refine (p.om r).2 k x a (by simp; omega) hxk ?_
              rw [q2]
              rw [e2] at ha
              rw [List.getElem?_append_right (by simp; omega)] at ha ⊢
              simpa using ha
      · simp at h
  | arr n own =>
    cases v <;> try (simp [extK] at h; done)
    rename_i hh i j
    cases i with
    | succ i => simp only [extK] at h; simp at h
    | zero =>
      cases j with
      | succ j => simp only [extK] at h; simp at h
      | zero =>
        simp only [extK] at h
        split at h
        · rename_i ro m l ho
          split at h
          · rename_i hoo hb
            have := Nat.eq_of_beq_eq_true hb
            subst this
            simp only [Option.some.injEq, Prod.mk.injEq] at h
            obtain ⟨rfl, rfl⟩ := h
            refine .one hl (fun r => ?_) (fun r => ?_)
            · exact ⟨rfl, rfl, es.length, own, last_get, by simp [bldK, hl]⟩
            · refine ⟨rfl, hh, ro, rfl, ho, ?_⟩
              intro ho'
              have ho'' : own = true := ho'
              rw [ho''] at hoo
              simpa using hoo
          · simp at h
        · simp at h
  | ints n =>
    cases v <;> simp only [extK] at h <;> try (simp at h; done)
    split at h
    · rename_i hb
      have := Nat.eq_of_beq_eq_true hb
      subst this
      simp only [Option.some.injEq, Prod.mk.injEq] at h
      obtain ⟨rfl, rfl⟩ := h
      exact .none fun r => rfl
    · simp at h
  | fn f bs =>
    cases v <;> simp only [extK] at h <;> try (simp at h; done)
    split at h
    · rename_i hb
      have := Nat.eq_of_beq_eq_true hb
      subst this
      obtain ⟨us, _, hus⟩ := hu
      exact (extBs_pair (base := base) (os := os) h hus hl).imp fun l hl => ⟨_, rfl, hl⟩
    · simp at h
  | fna f bs =>
    cases v <;> try (simp only [extK] at h; simp at h; done)
    rename_i g caps
    cases caps with
    | nil => simp [extK] at h
    | cons c caps =>
      cases caps with
      | cons c2 caps => cases c <;> (simp only [extK] at h; simp at h)
      | nil =>
        cases c <;> try (simp only [extK] at h; simp at h; done)
        simp only [extK] at h
        split at h
        · rename_i hb
          have := Nat.eq_of_beq_eq_true hb
          subst this
          obtain ⟨us, _, x, xs, _, ⟨vs, _, hvs⟩, _⟩ := hu
          exact (extBs_pair (base := base) (os := os) h hvs hl).imp fun l hl => ⟨_, rfl, _, _, rfl, ⟨_, rfl, hl⟩, rfl⟩
        · simp at h
  | pref i off =>
    cases v <;> simp only [extK] at h <;> try (simp at h; done)
    rename_i hh j
    split at h
    · rename_i h' own hes
      split at h
      · rename_i hb
        simp only [Bool.and_eq_true] at hb
        have e1 := Nat.eq_of_beq_eq_true hb.1
        have e2 := Nat.eq_of_beq_eq_true hb.2
        subst e1; subst e2
        simp only [Option.some.injEq, Prod.mk.injEq] at h
        obtain ⟨_, rfl⟩ := h
        exact ref_pair (h := hh) hes fun Es hE => ⟨i, own, hE, rfl⟩
      · simp at h
    · simp at h
  | aref i =>
    cases v <;> try (simp [extK] at h; done)
    rename_i hh a b
    cases a with
    | succ a => simp only [extK] at h; simp at h
    | zero =>
      cases b with
      | succ b => simp only [extK] at h; simp at h
      | zero =>
        simp only [extK] at h
        split at h
        · rename_i h' own hes
          split at h
          · rename_i hb
            have e1 := Nat.eq_of_beq_eq_true hb
            subst e1
            simp only [Option.some.injEq, Prod.mk.injEq] at h
            obtain ⟨_, rfl⟩ := h
            exact ref_pair (h := hh) hes fun Es hE => ⟨rfl, rfl, i, own, hE, rfl⟩
          · simp at h
        · simp at h
  | cap k r ihk ihr =>
    cases v <;> try (simp only [extK] at h; simp at h; done)
    rename_i g caps
    cases caps with
    | nil => simp [extK] at h
    | cons c cs =>
      simp only [extK] at h
      obtain ⟨us, rfl, u1, us1, rfl, hu1, hu2⟩ := hu
      split at h
      · rename_i x es2 hx
        split at h
        · rename_i z es3 hz
          simp only [Option.some.injEq, Prod.mk.injEq] at h
          obtain ⟨rfl, rfl⟩ := h
          have p1 := ihk (os := os) hx hu1 hl
          have p2 := ihr (os := (bldK base k x os).2) (u := .func (.func g) #[] us1.toArray) hz ⟨us1, rfl, hu2⟩ (p1.lens hl)
          refine (p1.seq hl p2).imp fun l hl => ?_
          obtain ⟨cs', e, hcs⟩ := hl.2
          simp only [bldK, e, consCap]
          exact ⟨_, rfl, _, _, rfl, hl.1, hcs⟩
        · simp at h
      · simp at h

theorem extL_pair (hobj : ∀ h a, Γ.objs h = some a → oRep Γ w h a) : ∀ {ks : List KD} {vs : List SV} {es es1 : List Ent} {y : denL ks} {os : List AO} {us : List Value}, extL Γ.objs ks vs es = some (y, es1) → SV.repL Γ vs us → os.length = es.length →
    Pair Γ base es es1 os (bldL base ks y os).2 (fun Es => VRL base Es vs (bldL base ks y os).1)
  | [], vs, es, es1, y, os, us, h, hu, hl => by
    cases vs <;> simp only [extL] at h <;> try (simp at h; done)
    simp only [Option.some.injEq, Prod.mk.injEq] at h
    obtain ⟨_, rfl⟩ := h
    exact .none fun r => rfl
  | b :: bs, vs, es, es1, y, os, us, h, hu, hl => by
    cases vs with
    | nil => simp [extL] at h
    | cons v vs =>
      simp only [extL] at h
      obtain ⟨u, us', rfl, hu1, hu2⟩ := hu
      split at h
      · rename_i x es2 hx
        split at h
        · rename_i xs es3 hxs
          simp only [Option.some.injEq, Prod.mk.injEq] at h
          obtain ⟨rfl, rfl⟩ := h
          have p1 := extK_pair (base := base) (os := os) hobj hx hu1 hl
          have p2 := extL_pair hobj (os := (bldK base b x os).2) hxs hu2 (p1.lens hl)
          exact (p1.seq hl p2).imp fun l hl => ⟨_, _, rfl, hl.1, hl.2⟩
        · simp at h
      · simp at h

/-- What has been read off stands, under new names, in every context that has the objects so. -/
theorem extL_tgt (hobj : ∀ h a, Γ.objs h = some a → oRep Γ w h a) {ks : List KD} {vs : List SV} {es : List Ent} {y : denL ks} {us : List Value} (h : extL Γ.objs ks vs [] = some (y, es)) (hu : SV.repL Γ vs us)
    {Γ' : Ctx} (h1 : ∀ (k : Nat) (a : AO), (bldL base ks y []).2[k]? = some a → Γ'.objs (base + k) = some a) (h2 : ∀ (k : Nat) (x : Ent), es[k]? = some x → Γ'.φ (base + k) = entPlace Γ x)
    (h3 : ∀ k, k < (bldL base ks y []).2.length → Γ'.seen (base + k) = true) (h4 : ∀ b, Γ'.bs b = Γ.bs b) :
    Tgt Γ Γ' base es (bldL base ks y []).2 ∧ SV.repL Γ' (bldL base ks y []).1 us := by
  have p := extL_pair (base := base) (os := []) hobj h hu rfl
  have hlen := p.lens rfl
  have om := p.om []
  rw [List.append_nil] at om
  have T : Tgt Γ Γ' base es (bldL base ks y []).2 := ⟨h1, h2, h3, h4, hlen.symm, fun k x a hk ha => om.2 k x a (Nat.zero_le _) hk ha⟩
  exact ⟨T, VRL_rep T _ _ _ om.1 hu⟩
end

theorem entsOk_spec : ∀ {es : List Ent}, entsOk es = true → ∀ (i j : Nat) (x y : Ent), i < j → es[i]? = some x → es[j]? = some y → x.apart y = true
  | [], _, i, j, x, y, _, hx, _ => by simp at hx
  | e :: es, h, i, j, x, y, hij, hx, hy => by
    simp only [entsOk, Bool.and_eq_true] at h
    cases j with
    | zero => omega
    | succ j =>
      cases i with
      | zero =>
        simp at hx
        subst hx
        exact List.all_eq_true.1 h.1 y (List.mem_of_getElem? (by simpa using hy))
      | succ i => exact entsOk_spec h.2 i j x y (by omega) (by simpa using hx) (by simpa using hy)

end Go.Fx
