/- The reflective executor, part 23: a law, called at any memory that its arguments can be read in. -/
import Derived.Test.YtkledlpiilcagaaFw22
import Derived.Below
set_option linter.unusedVariables false
set_option linter.unusedSimpArgs false
set_option autoImplicit false
namespace Go.Fx
open Go Go.RowKit

/-! ### 1. Arguments as they are read -/
def RB (W : World) : (b : BK) → b.den → Value → Prop
  | .int k, x, u => u = .int k x
  | .bool, x, u => u = .bool x
  | .str, x, u => u = .string x
  | .row e own, l, u => own = false ∧ ∃ A cap, u = .slice A (List.length l) cap ∧ List.length l ≤ cap ∧ cap ≤ maxLen ∧
      (cap = 0 ∨ ∃ b o, A = some ⟨b, o, none⟩ ∧ b < W.heap.size ∧ ∀ i v, (encAll e l)[i]? = some v → W.cell? ⟨b, o + i, none⟩ = some v)
  | _, _, _ => False
def RBs (W : World) : (bs : List BK) → denB bs → List Value → Prop
  | [], _, us => us = []
  | b :: bs, x, us => ∃ u us', us = u :: us' ∧ RB W b x.1 u ∧ RBs W bs x.2 us'
def RK (W : World) : (k : KD) → k.den → Value → Prop
  | .one b, x, u => RB W b x u
  | .agg bs, x, u => ∃ us : List Value, u = .agg us.toArray ∧ RBs W bs x us
  | _, _, _ => False
def RL (W : World) : (ks : List KD) → denL ks → List Value → Prop
  | [], _, us => us = []
  | k :: ks, x, us => ∃ u us', us = u :: us' ∧ RK W k x.1 u ∧ RL W ks x.2 us'

/-- An object of the caller's, read only. -/
def OR (W : World) (a : AO) (p : Option (Nat × Nat)) : Prop :=
  ∃ e l, a = ⟨true, .row e l⟩ ∧ ((p = none ∧ l = []) ∨ ∃ b o, p = some (b, o) ∧ b < W.heap.size ∧ ∀ i v, (encAll e l)[i]? = some v → W.cell? ⟨b, o + i, none⟩ = some v)

def Has (Γ : Ctx) (os : List AO) (pl : List (Option (Nat × Nat))) : Prop :=
  ∀ k a p, os[k]? = some a → pl[k]? = some p → Γ.objs k = some a ∧ Γ.φ k = p ∧ Γ.seen k = true

structure RP (W : World) (os os1 : List AO) (pl pl1 : List (Option (Nat × Nat))) (p : Ctx → Prop) : Prop where
  ex : ∃ dd dp, os1 = os ++ dd ∧ pl1 = pl ++ dp ∧ dd.length = dp.length
  rep : ∀ Γ, Has Γ os1 pl1 → p Γ
  obj : ∀ (k : Nat) (a : AO) (q : Option (Nat × Nat)), os.length ≤ k → os1[k]? = some a → pl1[k]? = some q → OR W a q

theorem RP.none {W : World} {os : List AO} {pl : List (Option (Nat × Nat))} {p : Ctx → Prop} (h : ∀ Γ, p Γ) : RP W os os pl pl p :=
  ⟨⟨[], [], by simp, by simp, rfl⟩, fun Γ _ => h Γ, fun k a q hk ha _ => by
    have := (List.getElem?_eq_some_iff.1 ha).1
    omega⟩
theorem RP.lens {W : World} {os os1 : List AO} {pl pl1 : List (Option (Nat × Nat))} {p : Ctx → Prop} (h : RP W os os1 pl pl1 p) (hl : os.length = pl.length) : os1.length = pl1.length := by
  obtain ⟨dd, dp, h1, h2, h3⟩ := h.ex
  rw [h1, h2, List.length_append, List.length_append, hl, h3]
theorem RP.seq {W : World} {os os1 os2 : List AO} {pl pl1 pl2 : List (Option (Nat × Nat))} {p q : Ctx → Prop} (hl : os.length = pl.length) (h : RP W os os1 pl pl1 p) (k : RP W os1 os2 pl1 pl2 q) :
    RP W os os2 pl pl2 (fun Γ => p Γ ∧ q Γ) := by
  obtain ⟨dd, dp, h1, h2, h3⟩ := h.ex
  obtain ⟨dd', dp', k1, k2, k3⟩ := k.ex
  have hl1 := h.lens hl
  refine ⟨⟨dd ++ dd', dp ++ dp', by rw [k1, h1]; simp, by rw [k2, h2]; simp, by simp [h3, k3]⟩, fun Γ hh => ⟨h.rep Γ fun i a r hi hr => hh i a r ?_ ?_, k.rep Γ hh⟩, ?_⟩
  · rw [k1, List.getElem?_append_left (List.getElem?_eq_some_iff.1 hi).1]; exact hi
  · rw [k2, List.getElem?_append_left (List.getElem?_eq_some_iff.1 hr).1]; exact hr
  · intro i a r hi ha hr
    by_cases c : os1.length ≤ i
    · exact k.obj i a r c ha hr
    · rw [k1, List.getElem?_append_left (by omega)] at ha
      rw [k2, List.getElem?_append_left (by omega)] at hr
      exact h.obj i a r hi ha hr
theorem RP.imp {W : World} {os os1 : List AO} {pl pl1 : List (Option (Nat × Nat))} {p q : Ctx → Prop} (h : RP W os os1 pl pl1 p) (hpq : ∀ Γ, p Γ → q Γ) : RP W os os1 pl pl1 q :=
  ⟨h.ex, fun Γ hh => hpq Γ (h.rep Γ hh), h.obj⟩

theorem RB_rp {W : World} {b : BK} {x : b.den} {u : Value} (h : RB W b x u) (os : List AO) (pl : List (Option (Nat × Nat))) (hl : os.length = pl.length) :
    ∃ pl1, RP W os (bldB 0 b x os).2 pl pl1 (fun Γ => (bldB 0 b x os).1.rep Γ u) := by
  cases b with
  | int k => exact ⟨pl, .none fun Γ => h⟩
  | bool => exact ⟨pl, .none fun Γ => h⟩
  | str => exact ⟨pl, .none fun Γ => h⟩
  | ref i => exact h.elim
  | part i => exact h.elim
  | lit c => exact h.elim
  | row e own =>
    obtain ⟨rfl, A, cap, hu, h1, h2, h3⟩ := h
    subst hu
    have key : ∀ p, OR W ⟨true, .row e x⟩ p → (∀ Γ : Ctx, Γ.objs os.length = some ⟨true, .row e x⟩ → Γ.φ os.length = p → Γ.seen os.length = true → (SV.sl os.length .all).rep Γ (.slice A (List.length x) cap)) →
        ∃ pl1, RP W os (bldB 0 (.row e false) x os).2 pl pl1 (fun Γ => (bldB 0 (.row e false) x os).1.rep Γ (.slice A (List.length x) cap)) := by
      intro p hor hrep
      refine ⟨pl ++ [p], ⟨⟨[⟨true, .row e x⟩], [p], rfl, rfl, rfl⟩, fun Γ hh => ?_, fun k a q hk ha hq => ?_⟩⟩
      · obtain ⟨q1, q2, q3⟩ := hh os.length ⟨true, .row e x⟩ p (by simp [bldB]) (by rw [hl]; simp)
        have := hrep Γ q1 q2 q3
        simpa [bldB] using this
      · have hlt := (List.getElem?_eq_some_iff.1 hq).1
        simp only [List.length_append, List.length_singleton] at hlt
        have : k = os.length := by omega
        subst this
        simp [bldB] at ha
        rw [hl, List.getElem?_append_right (Nat.le_refl _)] at hq
        simp at hq
        subst ha; subst hq
        exact hor
    rcases h3 with h3 | ⟨b, o, hA, hb, hc⟩
    · have hx : x = [] := List.length_eq_zero_iff.1 (by omega)
      refine key none ⟨e, x, rfl, .inl ⟨rfl, hx⟩⟩ fun Γ q1 q2 q3 => ⟨q3, ⟨_, _, _, rfl⟩, ?_⟩
      unfold Ctx.slOk
      rw [q1]
      exact ⟨trivial, A, cap, rfl, ⟨h1, by simpa [Win.off] using h1⟩, h2, .inl h3⟩
    · refine key (some (b, o)) ⟨e, x, rfl, .inr ⟨b, o, rfl, hb, hc⟩⟩ fun Γ q1 q2 q3 => ⟨q3, ⟨_, _, _, rfl⟩, ?_⟩
      unfold Ctx.slOk
      rw [q1]
      exact ⟨trivial, A, cap, rfl, ⟨h1, by simpa [Win.off] using h1⟩, h2, .inr ⟨b, o, q2, by rw [hA]; simp [Win.off], fun h => by cases h⟩⟩
theorem RBs_rp {W : World} : ∀ {bs : List BK} {x : denB bs} {us : List Value}, RBs W bs x us → ∀ (os : List AO) (pl : List (Option (Nat × Nat))), os.length = pl.length →
    ∃ pl1, RP W os (bldBs 0 bs x os).2 pl pl1 (fun Γ => SV.repL Γ (bldBs 0 bs x os).1 us)
  | [], x, us, h, os, pl, hl => by
    simp only [RBs] at h
    subst h
    exact ⟨pl, .none fun Γ => rfl⟩
  | b :: bs, x, us, h, os, pl, hl => by
    obtain ⟨u, us', rfl, h1, h2⟩ := h
    obtain ⟨pl1, p1⟩ := RB_rp h1 os pl hl
    obtain ⟨pl2, p2⟩ := RBs_rp h2 (bldB 0 b x.1 os).2 pl1 (p1.lens hl)
    exact ⟨pl2, (p1.seq hl p2).imp fun Γ hh => ⟨u, us', rfl, hh.1, hh.2⟩⟩
theorem RK_rp {W : World} {k : KD} {x : k.den} {u : Value} (h : RK W k x u) (os : List AO) (pl : List (Option (Nat × Nat))) (hl : os.length = pl.length) :
    ∃ pl1, RP W os (bldK 0 k x os).2 pl pl1 (fun Γ => (bldK 0 k x os).1.rep Γ u) := by
  cases k with
  | one b => exact RB_rp h os pl hl
  | agg bs =>
    obtain ⟨us, hu, h1⟩ := h
    obtain ⟨pl1, p1⟩ := RBs_rp h1 os pl hl
    exact ⟨pl1, p1.imp fun Γ hh => ⟨us, hu, hh⟩⟩
  | _ => exact h.elim
theorem RL_rp {W : World} : ∀ {ks : List KD} {x : denL ks} {us : List Value}, RL W ks x us → ∀ (os : List AO) (pl : List (Option (Nat × Nat))), os.length = pl.length →
    ∃ pl1, RP W os (bldL 0 ks x os).2 pl pl1 (fun Γ => SV.repL Γ (bldL 0 ks x os).1 us)
  | [], x, us, h, os, pl, hl => by
    simp only [RL] at h
    subst h
    exact ⟨pl, .none fun Γ => rfl⟩
  | b :: bs, x, us, h, os, pl, hl => by
    obtain ⟨u, us', rfl, h1, h2⟩ := h
    obtain ⟨pl1, p1⟩ := RK_rp h1 os pl hl
    obtain ⟨pl2, p2⟩ := RL_rp h2 (bldK 0 b x.1 os).2 pl1 (p1.lens hl)
    exact ⟨pl2, (p1.seq hl p2).imp fun Γ hh => ⟨u, us', rfl, hh.1, hh.2⟩⟩

/-- The arguments stand in the memory. -/
theorem RL_heap {W : World} {shp : Shape} {x : shp.den} {us : List Value} (h : RL W shp.ks x us) :
    ∃ φ, Heap W (fun _ => False) (ctx (mkSt shp x) φ W) W ∧ SV.repL (ctx (mkSt shp x) φ W) (bldL 0 shp.ks x []).1 us := by
  obtain ⟨pl, p⟩ := RL_rp h [] [] rfl
  have hl := p.lens rfl
  let φ : Nat → Option (Nat × Nat) := fun k => match pl[k]? with | some q => q | none => none
  have get : ∀ k a, (bldL 0 shp.ks x []).2[k]? = some a → ∃ q, pl[k]? = some q ∧ φ k = q ∧ OR W a q := by
    intro k a ha
    have hlt : k < pl.length := hl ▸ (List.getElem?_eq_some_iff.1 ha).1
    have hq := List.getElem?_eq_getElem hlt
    exact ⟨pl[k], hq, by show (match pl[k]? with | some q => q | none => none) = _; rw [hq], p.obj k a _ (Nat.zero_le _) ha hq⟩
  refine ⟨φ, ⟨rfl, ⟨rfl, Nat.le_refl _⟩, rfl, Nat.le_refl _, fun _ _ _ => rfl, fun b cur T _ hw => ⟨cur, hw, rfl⟩, fun _ => rfl, ?_, ?_, ?_, ?_, ?_⟩, p.rep _ ?_⟩
  · intro k a ha
    obtain ⟨q, h1, h2, e, l, rfl, h3⟩ := get k a ha
    rcases h3 with ⟨h3, hl⟩ | ⟨b, o, h3, hb, hc⟩
    · exact .inl ⟨h2.trans h3, hl⟩
    · exact .inr ⟨b, o, h2.trans h3, hc, fun h => by cases h⟩
  · intro k a ha
    exact Nat.ble_eq_true_of_le (List.getElem?_eq_some_iff.1 ha).1
  · intro k a b o ha hp
    obtain ⟨q, h1, h2, e, l, rfl, h3⟩ := get k a ha
    have hp' : φ k = some (b, o) := hp
    rcases h3 with ⟨h3, hl⟩ | ⟨b', o', h3, hb, hc⟩
    · rw [h2, h3] at hp'; cases hp'
    · rw [h2, h3] at hp'; cases hp'; exact hb
  · intro k k' a a' b o o' ha ha' hp hp' hne
    obtain ⟨q, h1, h2, e, l, rfl, h3⟩ := get k a ha
    obtain ⟨q', h1', h2', e', l', rfl, h3'⟩ := get k' a' ha'
    exact ⟨rfl, rfl⟩
  · intro k a b o ha hr hp
    obtain ⟨q, h1, h2, e, l, rfl, h3⟩ := get k a ha
    cases hr
  · intro k a q ha hq
    refine ⟨ha, ?_, Nat.ble_eq_true_of_le (List.getElem?_eq_some_iff.1 ha).1⟩
    show (match pl[k]? with | some q => q | none => none) = _
    rw [hq]

/-! ### 2. A law that tells true -/
theorem RL_length {W : World} : ∀ {ks : List KD} {x : denL ks} {us : List Value}, RL W ks x us → us.length = ks.length
  | [], x, us, h => by simp only [RL] at h; simp [h]
  | k :: ks, x, us, h => by
    obtain ⟨u, us', rfl, _, h2⟩ := h
    simp [RL_length h2]

theorem law_calls {P : Program} {g : Nat} {fn : Func} {code : Code} (hf : P.funcs[g]? = some fn) (hb : fn.body = some code)
    {C : Cfg} {Φ : Nat → PFn} {Λ : Nat → (St → Option Bool) → St → Option Bool} {shp : Shape}
    (hT : TyOk P C.ty) (hΦ : ∀ g, (Φ g).Ok P g) (hN : C.N = fn.ntmps) (hshp : shp.map (·.1) = List.range shp.length) (hsl : shp.length ≤ fn.ntmps)
    (hL : LoopsOk C Φ Λ (finOf C.ty fn.results.toList [.one .bool] (fun y => y.1)) (loopsOf C.blk code)) {x : shp.den}
    (hF : exK C Φ Λ (finOf C.ty fn.results.toList [.one .bool] (fun y => y.1)) code (fun _ _ => none) (mkSt shp x) (finOf C.ty fn.results.toList [.one .bool] (fun y => y.1)) = some true)
    {W : World} {vals : List Value} (hR : RL W shp.ks x vals) :
    Calls P g vals.toArray W fun e W' => e = .returned (.bool true) ∧ Below W.heap.size W W' := by
  obtain ⟨φ, H, hr⟩ := RL_heap hR
  have hlv : vals.length = shp.length := by rw [RL_length hR]; simp
  have htmp : ∀ i V, vals[i]? = some V → (vals.toArray ++ Array.replicate (fn.ntmps - vals.toArray.size) undef).getD i undef = V := by
    intro i V h
    have hlt := (List.getElem?_eq_some_iff.1 h).1
    simp only [Array.getD_eq_getD_getElem?]
    rw [Array.getElem?_append_left (by simpa using hlt)]
    simp [h]
  have good : Good W (fun _ => False) C.N (fun _ => none) (mkSt shp x) φ { tmps := vals.toArray ++ Array.replicate (fn.ntmps - vals.toArray.size) undef, defers := [] } W := by
    refine ⟨rfl, ?_, (fun i V hi => by cases hi), ?_, H⟩
    · rw [hN]
      simp
      omega
    · intro i
      refine assocS_rep (a := { tmps := vals.toArray ++ Array.replicate (fn.ntmps - vals.toArray.size) undef, defers := [] }) ?_ i
      rw [hshp]
      have : ((List.range shp.length).map fun i => (vals.toArray ++ Array.replicate (fn.ntmps - vals.toArray.size) undef).getD i undef) = vals := by
        apply List.ext_getElem?
        intro i
        rw [List.getElem?_map]
        by_cases hi : i < shp.length
        · rw [List.getElem?_range hi]
          have hiv : i < vals.length := by omega
          rw [List.getElem?_eq_getElem hiv]
          simp only [Option.map_some]
          rw [htmp i vals[i] (List.getElem?_eq_getElem hiv)]
        · rw [List.getElem?_eq_none (by simp; omega), List.getElem?_eq_none (by omega)]
          rfl
      rw [this]
      exact hr
  refine calls_of_wp hf hb ?_
  have fin : ∀ st' φ' a' w', finOf C.ty fn.results.toList [.one .bool] (fun y => y.1) st' = some true → Good W (fun _ => False) C.N (fun _ => none) st' φ' a' w' → a'.defers = [] ∧ ∃ v, (results fn a'.tmps).run P w' = .ok v w' ∧
      ((Ending.returned v) = .returned (.bool true) ∧ Below W.heap.size W w') := by
    intro st' φ' a' w' hfin g'
    unfold finOf at hfin
    split at hfin
    · rename_i vs hvs
      split at hfin
      · rename_i y es' hy
        split at hfin
        · rename_i hok
          simp only [Option.some.injEq] at hfin
          obtain ⟨us, hrun, hus⟩ := results_run hT g' hvs
          refine ⟨g'.defers, _, hrun, ?_, ⟨g'.heap.os, g'.heap.tape.1, g'.heap.output, g'.heap.size, fun k hk => g'.heap.keep k hk (fun h => h)⟩⟩
          cases vs with
          | nil => simp [extL] at hy
          | cons v vs =>
            cases vs with
            | cons v2 vs =>
              simp only [extL] at hy
              split at hy <;> simp at hy
            | nil =>
              cases v <;> simp only [extL, extK, extB] at hy <;> try (simp at hy; done)
              rename_i b
              simp only [Option.some.injEq, Prod.mk.injEq] at hy
              obtain ⟨hy1, _⟩ := hy
              obtain ⟨u, us', rfl, hu, hus'⟩ := hus
              simp only [SV.repL] at hus'
              subst hus'
              have hu' : u = .bool b := hu
              have hb' : b = true := by
                rw [← hy1] at hfin
                exact hfin
              simp [valC, hu', hb']
        · simp at hfin
      · simp at hfin
    · simp at hfin
  refine exK_sound (pv := fun _ => none) (fun i V hi => by cases hi) hT hΦ code _ _ _ φ _ W _ hL hF good ?_ ?_ ?_
  · intro st' φ' a' w' h' g'
    exact fin st' φ' a' w' h' g'
  · intro id st' φ' a' w' h' g'
    cases h'
  · intro st' φ' a' w' h' g'
    exact fin st' φ' a' w' h' g'
end Go.Fx
