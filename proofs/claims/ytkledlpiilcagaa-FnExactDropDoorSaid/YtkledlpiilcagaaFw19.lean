/- The reflective executor, part 19: the executor is sound for code. -/
import Derived.Test.YtkledlpiilcagaaFw18
import Derived.Deep.LoopGhost
set_option linter.unusedVariables false
set_option linter.unusedSimpArgs false
set_option autoImplicit false
namespace Go.Fx
open Go

/-! ### 1. The heap under new names -/
theorem OM_src {Γ : Ctx} {base : Nat} {Es : List Ent} {x : Ent} {a : AO} (hm : OM Γ base Es x a) : a.ro = !x.own ∧
    ∀ b o, entPlace Γ x = some (b, o) → ∃ h w a0 o', x.src = some (h, w) ∧ Γ.objs h = some a0 ∧ Γ.φ h = some (b, o') ∧ (x.own = true → a0.ro = false) := by
  have key : ∀ h w a0, x.src = some (h, w) → Γ.objs h = some a0 → (x.own = true → a0.ro = false) → ∀ b o, entPlace Γ x = some (b, o) → ∃ h w a0 o', x.src = some (h, w) ∧ Γ.objs h = some a0 ∧ Γ.φ h = some (b, o') ∧ (x.own = true → a0.ro = false) := by
    intro h w a0 h1 h2 h3 b o hp
    refine ⟨h, w, a0, ?_⟩
    unfold entPlace at hp
    rw [h1] at hp
    simp only at hp
    split at hp
    · simp at hp
    · rename_i b' o' hφ
      refine ⟨o', h1, h2, ?_, h3⟩
      split at hp
      · simp only [Option.some.injEq, Prod.mk.injEq] at hp
        rw [hφ, hp.1]
      · simp only [Option.some.injEq, Prod.mk.injEq] at hp
        rw [hφ, hp.1]
  obtain ⟨ro', o⟩ := a
  cases o with
  | row e l' =>
    obtain ⟨hro, hm⟩ := hm
    refine ⟨hro, ?_⟩
    rcases hm with ⟨q, _⟩ | ⟨h, w, ro, l, q, hob, _, _, hown⟩
    · intro b o hp
      unfold entPlace at hp
      rw [q] at hp
      simp at hp
    · exact key h w _ q hob hown
  | cells cs =>
    obtain ⟨hro, h, ro, cs0, q, hob, _, hown⟩ := hm
    exact ⟨hro, key h .all _ q hob hown⟩
  | arr n l =>
    obtain ⟨hro, h, ro, q, hob, hown⟩ := hm
    exact ⟨hro, key h .all _ q hob hown⟩

theorem tgt_heap {w0 w1 : World} {W0 W1 : Nat → Prop} {Γ Γ' : Ctx} {w : World} (H : Heap w0 W0 Γ w) {base : Nat} {es : List Ent} {F : List AO} (T : Tgt Γ Γ' base es F) (hok : entsOk es = true)
    (hobj : ∀ h a, Γ'.objs h = some a → ∃ k, h = base + k ∧ F[k]? = some a)
    (f1 : w.os = w1.os) (f2 : w.tape = w1.tape ∧ w1.drawn ≤ w.drawn) (f3 : w.output = w1.output) (f4 : w1.heap.size ≤ w.heap.size) (f5 : ∀ b, b < w1.heap.size → ¬ W1 b → w.heap[b]? = w1.heap[b]?)
    (f6 : ∀ b cur T, b < w1.heap.size → w1.heap[b]? = some (.cells cur T (0, 0)) → ∃ cur', w.heap[b]? = some (.cells cur' T (0, 0)) ∧ cur'.size = cur.size)
    (f7 : ∀ (k : Nat) x b o, es[k]? = some x → x.own = true → entPlace Γ x = some (b, o) → w1.heap.size ≤ b ∨ W1 b) : Heap w1 W1 Γ' w := by
  have get : ∀ k a, F[k]? = some a → ∃ x, es[k]? = some x ∧ Γ'.φ (base + k) = entPlace Γ x ∧ OM Γ base es x a := by
    intro k a ha
    have hlt : k < es.length := T.len ▸ (List.getElem?_eq_some_iff.1 ha).1
    exact ⟨es[k], List.getElem?_eq_getElem hlt, T.φ k _ (List.getElem?_eq_getElem hlt), T.om k _ a (List.getElem?_eq_getElem hlt) ha⟩
  refine ⟨f1, f2, f3, f4, f5, f6, fun b => (T.bs b).trans (H.bs b), ?_, ?_, ?_, ?_, ?_⟩
  · intro h a ha
    obtain ⟨k, rfl, hk⟩ := hobj h a ha
    obtain ⟨x, hx, _, _⟩ := get k a hk
    exact OM_rep T H.obj hx hk
  · intro h a ha
    obtain ⟨k, rfl, hk⟩ := hobj h a ha
    exact T.seen k (List.getElem?_eq_some_iff.1 hk).1
  · intro h a b o ha hb
    obtain ⟨k, rfl, hk⟩ := hobj h a ha
    obtain ⟨x, hx, hp, hm⟩ := get k a hk
    rw [hp] at hb
    obtain ⟨h', w', a0, o', _, q2, q3, _⟩ := (OM_src hm).2 b o hb
    exact H.lt h' a0 b o' q2 q3
  · intro h h' a a' b o o' ha ha' hb hb' hne
    obtain ⟨k, rfl, hk⟩ := hobj h a ha
    obtain ⟨k', rfl, hk'⟩ := hobj h' a' ha'
    obtain ⟨x, hx, hp, hm⟩ := get k a hk
    obtain ⟨x', hx', hp', hm'⟩ := get k' a' hk'
    rw [hp] at hb
    rw [hp'] at hb'
    obtain ⟨h1, w1, a1, o1, p1, p2, p3, p4⟩ := (OM_src hm).2 b o hb
    obtain ⟨h2, w2, a2, o2, q1, q2, q3, q4⟩ := (OM_src hm').2 b o' hb'
    have hkk : k ≠ k' := fun e => hne (by rw [e])
    have hap : x.apart x' = true ∨ x'.apart x = true := by
      rcases Nat.lt_or_ge k k' with h | h
      · exact .inl (entsOk_spec hok k k' x x' h hx hx')
      · exact .inr (entsOk_spec hok k' k x' x (by omega) hx' hx)
    have hown : x.own = false ∧ x'.own = false := by
      by_cases hh : h1 = h2
      · subst hh
        unfold Ent.apart at hap
        rw [p1, q1] at hap
        simp at hap
        rcases hap with h | h
        · exact h
        · exact ⟨h.2, h.1⟩
      · have := H.sep h1 h2 a1 a2 b o1 o2 p2 q2 p3 q3 hh
        refine ⟨?_, ?_⟩
        · cases hq : x.own with
          | false => rfl
          | true => rw [p4 hq] at this; cases this.1
        · cases hq : x'.own with
          | false => rfl
          | true => rw [q4 hq] at this; cases this.2
    rw [(OM_src hm).1, (OM_src hm').1, hown.1, hown.2]
    exact ⟨rfl, rfl⟩
  · intro h a b o ha hr hb
    obtain ⟨k, rfl, hk⟩ := hobj h a ha
    obtain ⟨x, hx, hp, hm⟩ := get k a hk
    rw [hp] at hb
    refine f7 k x b o hx ?_ hb
    have := (OM_src hm).1
    rw [hr] at this
    simpa using this.symm

/-! ### 2. A state anew -/
theorem assocS_rep {Γ : Ctx} {a : Act} : ∀ {sl : List Nat} {vs : List SV}, SV.repL Γ vs (sl.map fun i => a.tmps.getD i undef) → ∀ i, (assocS (sl.zip vs) i).rep Γ (a.tmps.getD i undef)
  | [], vs, _, i => by simp [assocS, SV.rep]
  | s :: sl, [], h, i => by simp [SV.repL] at h
  | s :: sl, v :: vs, h, i => by
    obtain ⟨x, xs, hx, h1, h2⟩ := h
    simp only [List.map_cons, List.cons.injEq] at hx
    obtain ⟨rfl, rfl⟩ := hx
    simp only [List.zip_cons_cons, assocS]
    split
    · rename_i hb
      have := Nat.eq_of_beq_eq_true hb
      subst this
      exact h1
    · exact assocS_rep h2 i

theorem slots_rep {Γ : Ctx} {a : Act} {slots : Nat → SV} (h : ∀ i, (slots i).rep Γ (a.tmps.getD i undef)) : ∀ sl : List Nat, SV.repL Γ (sl.map slots) (sl.map fun i => a.tmps.getD i undef)
  | [] => rfl
  | s :: sl => ⟨_, _, rfl, h s, slots_rep h sl⟩

section
variable {P : Program} {w0 : World} {W0 : Nat → Prop} {N : Nat} {pv : Nat → Option Value}

theorem fold_good {s : Shape} {st : St} {x : s.den} {es : List Ent} (h : absSt s st = some (x, es)) {φ : Nat → Option (Nat × Nat)} {a : Act} {w : World} (good : Good w0 W0 N pv st φ a w) :
    ∃ φ', Good w0 W0 N pv (mkSt s x) φ' a w := by
  unfold absSt at h
  split at h
  · rename_i x' es' hx
    split at h
    · rename_i hok
      simp only [Option.some.injEq, Prod.mk.injEq] at h
      obtain ⟨rfl, rfl⟩ := h
      have hvals : SV.repL (ctx st φ w) (s.map fun p => st.slots p.1) ((s.map (·.1)).map fun i => a.tmps.getD i undef) := by
        have := slots_rep good.slot (s.map (·.1))
        simpa [List.map_map, Function.comp_def] using this
      have hlen : (bldL 0 s.ks x' []).2.length = es'.length := (extL_pair (base := 0) (os := []) good.heap.obj hx hvals rfl).lens rfl
      let φ' : Nat → Option (Nat × Nat) := fun k => match es'[k]? with | some e => entPlace (ctx st φ w) e | none => none
      obtain ⟨T, hr⟩ := extL_tgt (base := 0) good.heap.obj hx hvals (Γ' := ctx (mkSt s x') φ' w) (fun k a ha => by rw [Nat.zero_add]; exact ha)
        (fun k e he => by rw [Nat.zero_add]; show (match es'[k]? with | some e => entPlace (ctx st φ w) e | none => none) = _; rw [he])
        (fun k hk => by rw [Nat.zero_add]; show Nat.blt k _ = true; exact Nat.ble_eq_true_of_le hk) (fun b => rfl)
      refine ⟨φ', good.defers, good.size, good.par, ?_, ?_⟩
      · intro i
        exact assocS_rep hr i
      · refine tgt_heap good.heap T hok (fun h a ha => ⟨h, by rw [Nat.zero_add], ha⟩) good.heap.os good.heap.tape good.heap.output good.heap.size good.heap.keep good.heap.kind ?_
        intro k e b o he hown hp
        have hlt : k < (bldL 0 s.ks x' []).2.length := by rw [hlen]; exact (List.getElem?_eq_some_iff.1 he).1
        have hm := T.om k e _ he (List.getElem?_eq_getElem hlt)
        obtain ⟨h1, w1, a1, o1, p1, p2, p3, p4⟩ := (OM_src hm).2 b o hp
        exact good.heap.own h1 a1 b o1 p2 (p4 hown) p3
    · simp at h
  · simp at h

/-! ### 3. Code -/
/-- What is asked of the functions that stand for loops. -/
def LoopsOk {β : Type} (C : Cfg) (Φ : Nat → PFn) (Λ : Nat → (St → Option β) → St → Option β) (fin : St → Option β) (l : List (Nat × Code)) : Prop :=
  ∀ p ∈ l, ∀ (K : St → Option β) (st : St) (r : β), Λ p.1 K st = some r → ∃ (sin sout : Shape) (n : Nat) (x : sin.den) (es : List Ent), absSt sin st = some (x, es) ∧ iter (roundK C Φ Λ fin p.1 p.2 sin sout K) n (mkSt sin x) = some r

theorem LoopsOk.sub {β : Type} {C : Cfg} {Φ : Nat → PFn} {Λ : Nat → (St → Option β) → St → Option β} {fin : St → Option β} {l m : List (Nat × Code)} (h : LoopsOk C Φ Λ fin l) (hs : ∀ p ∈ m, p ∈ l) : LoopsOk C Φ Λ fin m :=
  fun p hp => h p (hs p hp)

theorem exK_sound {β : Type} {C : Cfg} {Φ : Nat → PFn} {Λ : Nat → (St → Option β) → St → Option β} {fin : St → Option β} {r : β} (hnp : ∀ i V, pv i = some V → i ∈ C.np) (hT : TyOk P C.ty) (hΦ : ∀ g, (Φ g).Ok P g) :
    ∀ (code : Code) (X : Nat → St → Option β) (st : St) (K : St → Option β) (φ : Nat → Option (Nat × Nat)) (a : Act) (w : World) (Q : Exit → Act → World → Prop),
      LoopsOk C Φ Λ fin (loopsOf C.blk code) → exK C Φ Λ fin code X st K = some r → Good w0 W0 C.N pv st φ a w →
      (∀ st' φ' a' w', K st' = some r → Good w0 W0 C.N pv st' φ' a' w' → Q .normal a' w') →
      (∀ id st' φ' a' w', X id st' = some r → Good w0 W0 C.N pv st' φ' a' w' → Q (.exit id) a' w') →
      (∀ st' φ' a' w', fin st' = some r → Good w0 W0 C.N pv st' φ' a' w' → Q .ret a' w') →
      code.wp P Q a w
  | .skip, X, st, K, φ, a, w, Q, hL, h, good, hK, hX, hR => by
    simp only [exK] at h
    exact wp_skip (hK st φ a w h good)
  | .region id ops dr, X, st, K, φ, a, w, Q, hL, h, good, hK, hX, hR => by
    simp only [exK] at h
    exact region_wp hnp hT hΦ h good hK
  | .seq c d, X, st, K, φ, a, w, Q, hL, h, good, hK, hX, hR => by
    simp only [exK] at h
    simp only [loopsOf] at hL
    refine wp_seq (exK_sound hnp hT hΦ c X st _ φ a w _ (hL.sub fun p hp => by simp [hp]) h good ?_ hX hR)
    intro st' φ' a' w' h' g'
    show d.wp P Q a' w'
    split at h'
    · exact exK_sound hnp hT hΦ d X st' K φ' a' w' Q (hL.sub fun p hp => by simp [hp]) h' g' hK hX hR
    · rename_i s hs
      split at h'
      · rename_i x es hx
        obtain ⟨φ2, g2⟩ := fold_good hx g'
        exact exK_sound hnp hT hΦ d X _ K φ2 a' w' Q (hL.sub fun p hp => by simp [hp]) h' g2 hK hX hR
      · simp at h'
  | .cond c x y, X, st, K, φ, a, w, Q, hL, h, good, hK, hX, hR => by
    simp only [exK] at h
    simp only [loopsOf] at hL
    split at h
    · rename_i t ht
      have hc := ev_rep (Γ := ctx st φ w) good.slot c
      rw [ht] at hc
      have hc' : a.eval c = .bool t := hc
      refine wp_cond hc' ?_
      split at h
      · rename_i htt
        rw [if_pos htt]
        exact exK_sound hnp hT hΦ x X st K φ a w Q (hL.sub fun p hp => by simp [hp]) h good hK hX hR
      · rename_i htf
        rw [if_neg htf]
        exact exK_sound hnp hT hΦ y X st K φ a w Q (hL.sub fun p hp => by simp [hp]) h good hK hX hR
    · simp at h
  | .exit id, X, st, K, φ, a, w, Q, hL, h, good, hK, hX, hR => by
    simp only [exK] at h
    exact wp_exit (hX id st φ a w h good)
  | .ret, X, st, K, φ, a, w, Q, hL, h, good, hK, hX, hR => by
    simp only [exK] at h
    exact wp_ret (hR st φ a w h good)
  | .block id c, X, st, K, φ, a, w, Q, hL, h, good, hK, hX, hR => by
    refine wp_block ?_
    cases hb : C.blk id with
    | plain =>
      have h : exK C Φ Λ fin c (fun j => match Nat.beq j id with | true => K | false => X j) st K = some r := by
        unfold exK at h
        rw [hb] at h
        exact h
      have hL' : LoopsOk C Φ Λ fin (loopsOf C.blk c) := hL.sub fun p hp => by
        cases c <;> simp only [loopsOf, hb] <;> simpa only [loopsOf] using hp
      refine exK_sound hnp hT hΦ c _ st K φ a w _ hL' h good hK ?_ hR
      intro j st' φ' a' w' h' g'
      show Exit.inBlock id Q (.exit j) a' w'
      simp only [Exit.inBlock]
      cases hj : Nat.beq j id with
      | true =>
        rw [hj] at h'
        rw [if_pos (Nat.eq_of_beq_eq_true hj)]
        exact hK st' φ' a' w' h' g'
      | false =>
        rw [hj] at h'
        have hne : j ≠ id := fun e => by subst e; simp at hj
        rw [if_neg hne]
        exact hX j st' φ' a' w' h' g'
    | loop =>
      cases c <;> simp only [exK, hb] at h <;> try (simp at h; done)
      rename_i b
      simp only [loopsOf, hb] at hL
      obtain ⟨sin, sout, n, x, es, hx, hit⟩ := hL (id, b) (by simp) K st r h
      obtain ⟨φ1, g1⟩ := fold_good hx good
      refine wp_loop_ghost (fun n a w => ∃ φ st, Good w0 W0 C.N pv st φ a w ∧ iter (roundK C Φ Λ fin id b sin sout K) n st = some r) n ⟨φ1, _, g1, hit⟩ ?_
      rintro n a w ⟨φ, st, g, hi⟩
      cases n with
      | zero => simp [iter] at hi
      | succ n =>
        simp only [iter, roundK] at hi
        refine exK_sound hnp hT hΦ b _ st _ φ a w _ (hL.sub fun p hp => by simp [hp]) hi g ?_ ?_ hR
        · intro st' φ' a' w' h' g'
          show ∃ n', n' < n + 1 ∧ _
          split at h'
          · rename_i x' es' hx'
            obtain ⟨φ2, g2⟩ := fold_good hx' g'
            exact ⟨n, Nat.lt_succ_self n, φ2, _, g2, h'⟩
          · simp at h'
        · intro j st' φ' a' w' h' g'
          show Exit.inBlock id Q (.exit j) a' w'
          simp only [Exit.inBlock]
          cases hj : Nat.beq j id with
          | true =>
            rw [hj] at h'
            rw [if_pos (Nat.eq_of_beq_eq_true hj)]
            simp only at h'
            split at h'
            · rename_i y es' hy
              obtain ⟨φ2, g2⟩ := fold_good hy g'
              exact hK _ φ2 a' w' h' g2
            · simp at h'
          | false =>
            rw [hj] at h'
            simp at h'
    | unroll m =>
      cases c <;> simp only [exK, hb] at h <;> try (simp at h; done)
      rename_i b
      simp only [loopsOf, hb] at hL
      refine wp_loop_ghost (fun n a w => ∃ φ st, Good w0 W0 C.N pv st φ a w ∧ iter (fun rec st' => exK C Φ Λ fin b (fun j => match Nat.beq j id with | true => K | false => X j) st' rec) n st = some r) m ⟨φ, _, good, h⟩ ?_
      rintro n a w ⟨φ, st, g, hi⟩
      cases n with
      | zero => simp [iter] at hi
      | succ n =>
        simp only [iter] at hi
        refine exK_sound hnp hT hΦ b _ st _ φ a w _ (hL.sub fun p hp => by simpa only [loopsOf] using hp) hi g ?_ ?_ hR
        · intro st' φ' a' w' h' g'
          exact ⟨n, Nat.lt_succ_self n, φ', _, g', h'⟩
        · intro j st' φ' a' w' h' g'
          show Exit.inBlock id Q (.exit j) a' w'
          simp only [Exit.inBlock]
          cases hj : Nat.beq j id with
          | true =>
            rw [hj] at h'
            rw [if_pos (Nat.eq_of_beq_eq_true hj)]
            exact hK st' φ' a' w' h' g'
          | false =>
            rw [hj] at h'
            have hne : j ≠ id := fun e => by subst e; simp at hj
            rw [if_neg hne]
            exact hX j st' φ' a' w' h' g'
  | .loop c, X, st, K, φ, a, w, Q, hL, h, good, hK, hX, hR => by simp [exK] at h
  | .scope c, X, st, K, φ, a, w, Q, hL, h, good, hK, hX, hR => by simp [exK] at h
  | .label l, X, st, K, φ, a, w, Q, hL, h, good, hK, hX, hR => by simp [exK] at h
  | .goto l, X, st, K, φ, a, w, Q, hL, h, good, hK, hX, hR => by simp [exK] at h
  | .rangeFunc .., X, st, K, φ, a, w, Q, hL, h, good, hK, hX, hR => by simp [exK] at h
end
end Go.Fx
