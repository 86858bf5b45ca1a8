/- The reflective executor: sorting. -/
import Derived.Test.YtfgncboicamdjaaGwE
import Derived.Shelf.SlSortCmp.NoneTotal
import Derived.Shelf.Sort.Plain
import Derived.Shelf.Slices.In.SortNone
noncomputable section
set_option linter.unusedVariables false
set_option linter.unusedSimpArgs false
set_option autoImplicit false
namespace Go.Fx
open Go

/-! ### 1. A world that grew -/
theorem grow_of_heap {Γ : Ctx} {w w' : World} (H : Heap w (fun _ _ => False) Γ w') : ∃ (q : Nat) (os : Array Obj), w' = Sort.grow (w.drewN q) os := by
  refine ⟨w'.drawn - w.drawn, w'.heap.extract w.heap.size w'.heap.size, ?_⟩
  have h1 : w'.heap = w.heap ++ w'.heap.extract w.heap.size w'.heap.size := by
    apply Array.ext_getElem?
    intro k
    by_cases hk : k < w.heap.size
    · rw [Array.getElem?_append_left hk, H.keep k hk (fun h => h)]
    · rw [Array.getElem?_append_right (by omega), Array.getElem?_extract]
      have hs := H.size
      by_cases h2 : k < w'.heap.size
      · rw [if_pos (by omega)]
        congr 1
        omega
      · rw [if_neg (by omega), Array.getElem?_eq_none (by omega)]
  have h2 : w'.drawn = w.drawn + (w'.drawn - w.drawn) := by
    have := H.tape.2 rfl
    omega
  have h3 := H.os
  have h4 := H.tape.1
  have h5 := H.output
  cases w'
  cases w
  simp only [Sort.grow, World.drewN] at *
  subst h3 h4 h5
  simp only [World.mk.injEq, true_and, and_true]
  exact ⟨h1, h2⟩

theorem heap_none (w : World) : Heap w (fun _ _ => False) (G (fun _ => none) (fun _ => none) (fun _ => false) w) w :=
  ⟨rfl, ⟨rfl, .of (Nat.le_refl _)⟩, rfl, Nat.le_refl _, fun _ _ _ => rfl, fun b cur T fz _ hw => ⟨cur, hw, rfl⟩, fun _ => rfl, fun h a ha => (by cases ha), fun h a ha => (by cases ha),
   fun h a b o ha => (by cases ha), fun h h' a a' b o o' ha => (by cases ha), fun h a b o ha => (by cases ha), fun h a b o ha => (by cases ha)⟩

theorem fn_run {P : Program} {g : Nat} (h : ∃ fn c, P.funcs[g]? = some fn ∧ fn.body = some c ∧ (fn.name == "runtime.NumGoroutine") = false) (args : Array Value) (w : World) : (callFunc g args).run P w = .ok (.enter g args) w := by
  obtain ⟨fn, c, h1, h2, h3⟩ := h
  simp only [callFunc, Sem.run_bind, Sem.run_pure, Result.andThen_ok, run_program, h1, h3, h2, Option.isNone_some, Bool.false_eq_true, if_false]

/-! ### 2. The comparison -/
theorem cmp_lays {P : Program} {g : Nat} {C : PFn} (hC : C.Ok P g) {cf : (Int × Int × Int) → (Int × Int × Int) → Int}
    (hcf : ∀ x y : Int × Int × Int, C.run [EK.toSV .t3 x, EK.toSV .t3 y] (fun _ => none) (fun _ => false) 0 some = some ⟨.int .i64 (cf x y), [], []⟩) (blk off size : Nat) (w : World) (hG : ∀ (m : Nat) (os : Array Obj) (dk : Array (Int × Int × Int)), GlOk P (Go.Proofs.sortWorldK (EK.enc .t3) 3 w blk off m dk os) (fun _ _ => False)) :
    Go.Proofs.CmpLays P g #[] (EK.enc .t3) 3 cf blk off size w := by
  intro m os dk hs x y
  have hG' := hG m os dk
  generalize Go.Proofs.sortWorldK (EK.enc .t3) 3 w blk off m dk os = W at hG' ⊢
  obtain ⟨fn, c, h1, h2, h3, h4⟩ := hC.calls W (fun _ _ => False) (fun _ => none) (fun _ => none) (fun _ => false) W _ [.agg (EK.enc .t3 x).toArray, .agg (EK.enc .t3 y).toArray] 0 _ (hcf x y) (heap_none W)
    ⟨_, _, rfl, ⟨_, rfl, ⟨_, _, rfl, rfl, ⟨_, _, rfl, rfl, ⟨_, _, rfl, rfl, rfl⟩⟩⟩⟩, ⟨_, _, rfl, ⟨_, rfl, ⟨_, _, rfl, rfl, ⟨_, _, rfl, rfl, ⟨_, _, rfl, rfl, rfl⟩⟩⟩⟩, rfl⟩⟩ hG'
  have harr : (#[Value.agg (EK.enc .t3 x).toArray, Value.agg (EK.enc .t3 y).toArray] ++ (#[] : Array Value)) = ([.agg (EK.enc .t3 x).toArray, .agg (EK.enc .t3 y).toArray] : List Value).toArray := by simp
  rw [harr]
  refine Calls.mono h4 fun e w' he => ?_
  cases e with
  | returned v =>
    obtain ⟨φ', q1, q2, q3⟩ := he
    have q1' : v = .int .i64 (cf x y) := q1
    exact ⟨by rw [q1'], grow_of_heap q2⟩
  | panicked c => exact he.elim
  | outgrown => exact he.elim

/-! ### 3. The row -/
theorem flatK_get {l : List (Int × Int × Int)} {i : Nat} {v : Value} (h : (encAll .t3 l)[i]? = some v) : i < l.toArray.size * 3 ∧ (Sort.flatK (EK.enc .t3) 3 l.toArray)[i]! = v := by
  have hlt : i < l.length * 3 := by
    have := (List.getElem?_eq_some_iff.1 h).1
    rw [encAll_length] at this
    exact this
  refine ⟨by simpa using hlt, ?_⟩
  rw [Sort.get_flatK _ _ _ _ (by simpa using hlt)]
  have hi : i / 3 < l.length := by omega
  have e := encAll_get .t3 l (i / 3) (i % 3) hi (Nat.mod_lt _ (by decide))
  have e3 : i / 3 * EK.sz .t3 + i % 3 = i := by
    show i / 3 * 3 + i % 3 = i
    omega
  rw [e3, h] at e
  have hg : l.toArray[i / 3]! = l.getD (i / 3) (EK.dflt .t3) := by
    simp [hi]
  rw [hg]
  have hlen : i % 3 < (EK.enc .t3 (l.getD (i / 3) (EK.dflt .t3))).length := by rw [enc_length]; exact Nat.mod_lt _ (by decide)
  rw [getElem!_pos (EK.enc .t3 (l.getD (i / 3) (EK.dflt .t3))) (i % 3) hlen]
  rw [List.getElem?_eq_getElem hlen] at e
  exact (Option.some.inj e).symm
theorem holds_row {w : World} {b o : Nat} {l : List (Int × Int × Int)} (hcell : ∀ i v, (encAll .t3 l)[i]? = some v → w.cell? ⟨b, o + i, none⟩ = some v) {cur : Array Value} {T : TypeId} (hcur : w.heap[b]? = some (.cells cur T (0, 0))) :
    Sort.HoldsK (EK.enc .t3) 3 w b o l.toArray := by
  intro j hj
  rw [Sort.size_flatK] at hj
  have hlt : j < (encAll .t3 l).length := by
    rw [encAll_length]
    simpa [EK.sz] using hj
  have hv := List.getElem?_eq_getElem hlt
  refine ⟨?_, ?_⟩
  · rw [hcell j _ hv, ← (flatK_get hv).2]
    rfl
  · unfold World.frozen?
    rw [hcur]
    simp
theorem put_cell {w : World} {b o n : Nat} {l r : List (Int × Int × Int)} {os : Array Obj} (hb : b < w.heap.size) (h : Sort.HoldsK (EK.enc .t3) 3 w b o l.toArray) (hr : r.length = l.length) {i : Nat} {v : Value} (hi : (encAll .t3 r)[i]? = some v) :
    (Go.Proofs.sortWorldK (EK.enc .t3) 3 w b o n r.toArray os).cell? ⟨b, o + i, none⟩ = some v := by
  obtain ⟨h1, h2⟩ := flatK_get hi
  unfold Go.Proofs.sortWorldK
  rw [Sort.cell?_grow _ _ _ (by simpa [Sort.putRowK] using hb)]
  unfold Sort.putRowK
  rw [Sort.cell?_putRow id _ b o (Sort.flatK (EK.enc .t3) 3 l.toArray) _ (Sort.holdsK_ahead (EK.enc .t3) 3 w n b o _ h) (by simp [hr]) i (by simpa using h1), h2]
  rfl
theorem put_heap {w : World} {b o n : Nat} {r : List (Int × Int × Int)} {os : Array Obj} {k : Nat} (hk : k < w.heap.size) :
    (Go.Proofs.sortWorldK (EK.enc .t3) 3 w b o n r.toArray os).heap[k]? = if k = b then (w.heap[k]?).map (Sort.onCells (Sort.putCells id o (Sort.flatK (EK.enc .t3) 3 r.toArray))) else w.heap[k]? := by
  unfold Go.Proofs.sortWorldK
  rw [Sort.heap_grow_old _ _ (by simpa [Sort.putRowK] using hk)]
  show (Sort.mapBlock (Sort.ahead w n) b _).heap[k]? = _
  show (w.heap.modify b _)[k]? = _
  rw [Array.getElem?_modify]
  by_cases e : b = k
  · subst e; simp
  · rw [if_neg e, if_neg (fun h => e h.symm)]

/-! ### 4. The callee -/
def sortFn (g0 : Nat) (cf : (Int × Int × Int) → (Int × Int × Int) → Int) : PFn :=
  mkMut (.one (.row .t3 true)) [.one (.lit (.fn g0 []))] [] (fun (l : List (Int × Int × Int)) _ => if l.length ≤ 4398046511104 then some (sortT cf l) else none) (fun _ => ()) (fun r => r)
theorem lit_loc (g0 : Nat) (look look' : Nat → Option AO) (vs : List SV) (xs : denL [.one (.lit (.fn g0 []))]) (es' : List Ent) (h : extL look [.one (.lit (.fn g0 []))] vs [] = some (xs, es')) : extL look' [.one (.lit (.fn g0 []))] vs [] = some (xs, es') := by
  cases vs with
  | nil => exact h
  | cons v vs =>
    cases vs with
    | nil => cases v <;> exact h
    | cons v2 vs => cases v <;> exact h
theorem lit_fn {look : Nat → Option AO} {g0 : Nat} {vs : List SV} {xs : denL [.one (.lit (.fn g0 []))]} {es' : List Ent} (h : extL look [.one (.lit (.fn g0 []))] vs [] = some (xs, es')) : vs = [.fn g0 []] := by
  cases vs with
  | nil => simp [extL] at h
  | cons v vs =>
    have hv : v = .fn g0 [] := by
      simp only [extL] at h
      split at h
      · rename_i x es1 hx
        cases v <;> simp only [extK, extB, litEq] at hx <;> try (simp at hx; done)
        rename_i f caps
        cases caps with
        | nil =>
          simp only [litEq] at hx
          cases hb : Nat.beq g0 f with
          | false => rw [hb] at hx; cases hx
          | true => rw [Nat.eq_of_beq_eq_true hb]
        | cons c cs => simp [litEq] at hx
      · cases h
    cases vs with
    | nil => rw [hv]
    | cons v2 vs =>
      simp only [extL] at h
      split at h <;> simp at h

theorem sortFn_ok {P : Program} {ρ : Go.Shelf.Ren} (L : Go.Proofs.SlLaysF0.n6 P ρ) (aE : ∀ w, (isAgg (ρ.t 24)).run P w = .ok true w) (zE : ∀ w, (Go.sizeOf (ρ.t 24)).run P w = .ok 3 w)
    {fn : Func} {code : Code} (hf : P.funcs[ρ.f 6]? = some fn) (hb : fn.body = some code) (hname : (fn.name == "runtime.NumGoroutine") = false)
    {g0 : Nat} {C : PFn} (hC : C.Ok P g0) (hg : ∃ fn c, P.funcs[g0]? = some fn ∧ fn.body = some c ∧ (fn.name == "runtime.NumGoroutine") = false) {cf : (Int × Int × Int) → (Int × Int × Int) → Int}
    (hcf : ∀ x y : Int × Int × Int, C.run [EK.toSV .t3 x, EK.toSV .t3 y] (fun _ => none) (fun _ => false) 0 some = some ⟨.int .i64 (cf x y), [], []⟩)
    (hO : Sort.SWO (Go.Proofs.ltOf cf)) (hT : ∀ x y, (Go.Proofs.ltOf cf) x y = false → (Go.Proofs.ltOf cf) y x = false → x = y) : (sortFn g0 cf).Ok P (ρ.f 6) where
  nat := mkMut_nat
  loc := mkMut_loc (lit_loc g0)
  calls := by
    intro w0 W0 objs φ seen w args vals d e h H hv hG
    obtain ⟨a0, rest, x, es, xs, es', r, wr, rfl, h1, h2, h3, h4, h5, rfl⟩ := mkMut_run h
    obtain ⟨V0, Vs, rfl, hv0, hvs⟩ := hv
    have hrest := lit_fn h2
    subst hrest
    obtain ⟨V1, Vs1, rfl, ⟨us, hV1, hus⟩, hnil⟩ := hvs
    have hus' : us = [] := hus
    have hnil' : Vs1 = [] := hnil
    subst hus' hnil' hV1
    have hlen : List.length x ≤ 4398046511104 := by
      refine Decidable.byContradiction fun hc => ?_
      rw [if_neg hc] at h4
      cases h4
    rw [if_pos hlen] at h4
    simp only [Option.some.injEq] at h4
    subst h4
    have hargs : ([V0, Value.func (.func g0) #[] [].toArray] : List Value).toArray = #[V0, .func (.func g0) #[] #[]] := rfl
    refine ⟨fn, code, hf, hb, hname, ?_⟩
    rw [hargs]
    have hx : extB objs (.row .t3 true) a0 [] = some (x, es) := by simpa only [extK] using h1
    have h5' : updB (.row .t3 true) a0 (sortT cf x) = some wr := by simpa only [updK] using h5
    have still : ∀ (A : Option Addr) (cap : Nat), V0 = .slice A 0 cap → (∀ p ∈ wr, MUp (G objs φ seen w) w p.1 p.2) → (∀ m ∈ es, ∀ hh win, m.src = some (hh, win) → hh ∈ wr.map (·.1)) →
        (∀ z ∈ es, z.own = true → ∀ b o, entPlace (G objs φ seen w) z = some (b, o) → ∃ h win a0 o', z.src = some (h, win) ∧ objs h = some a0 ∧ φ h = some (b, o') ∧ a0.ro = false) →
        Calls P (ρ.f 6) #[V0, .func (.func g0) #[] #[]] w fun
          | .returned v, w' => ∃ φ', (⟨valOf (bldL 0 [] () []).1, wr, entHs es⟩ : Eff).val.rep (Af objs seen ⟨valOf (bldL 0 [] () []).1, wr, entHs es⟩ φ' w') v ∧ Heap w0 W0 (Af objs seen ⟨valOf (bldL 0 [] () []).1, wr, entHs es⟩ φ' w') w' ∧ (G objs φ seen w).le (Af objs seen ⟨valOf (bldL 0 [] () []).1, wr, entHs es⟩ φ' w')
          | _, _ => False := by
      intro A cap hV k1 k2 k3
      rw [hV]
      refine Calls.mono (Go.Proofs.AnyF.slices_SortFunc_none L A cap _ w) ?_
      rintro e w' ⟨rfl, rfl⟩
      refine ⟨φ, ⟨[], rfl, rfl⟩, ?_⟩
      exact turned_ok H k3 rfl ⟨rfl, .of (Nat.le_refl _)⟩ rfl (Nat.le_refl _) (fun _ _ _ => rfl) (fun b cur T fz _ hw => ⟨cur, hw, rfl⟩) k1 k2 _ _
    rcases ext_row (Γ := G objs φ seen w) hx hv0 with ⟨rfl, rfl, hV⟩ | ⟨hh, win, ro, l0, rfl, rfl, ho, rfl, hown, hok, A, cap, hV, hc, hA⟩
    · simp only [updB, Option.some.injEq] at h5'
      subst h5'
      have hes : es = [⟨none, true⟩] := by
        simp only [extB, List.nil_append, Option.some.injEq, Prod.mk.injEq, true_and] at hx
        exact hx.symm
      refine still none 0 hV (fun p hp => by cases hp) ?_ ?_
      · intro m hm hh win hs
        rw [hes, List.mem_singleton] at hm
        subst hm
        cases hs
      · intro z hz _ b o hp
        rw [hes, List.mem_singleton] at hz
        subst hz
        simp [entPlace] at hp
    · have hro := hown rfl
      subst hro
      cases win <;> simp only [updB] at h5' <;> try (simp at h5'; done)
      simp only [Option.some.injEq] at h5'
      subst h5'
      have hw1 : Win.all.view l0 = l0 := rfl
      rw [hw1] at hV hc
      have hsl : (sortT cf l0).length = l0.length := by unfold sortT; exact List.length_mergeSort _
      have hsrc : ∀ m ∈ ([] ++ [⟨some (hh, .all), true⟩] : List Ent), ∀ h2 win, m.src = some (h2, win) → h2 ∈ ([(hh, some ⟨false, .row .t3 (sortT cf (Win.all.view l0))⟩)] : List (Nat × Option AO)).map (·.1) := by
        intro m hm h2 win hs
        simp only [List.nil_append, List.mem_singleton] at hm
        subst hm
        simp only [Option.some.injEq, Prod.mk.injEq] at hs
        simp [hs.1]
      have htk : ∀ z ∈ ([] ++ [⟨some (hh, .all), true⟩] : List Ent), z.own = true → ∀ b o, entPlace (G objs φ seen w) z = some (b, o) → ∃ h win a0 o', z.src = some (h, win) ∧ objs h = some a0 ∧ φ h = some (b, o') ∧ a0.ro = false := by
        intro z hz _ b o hp
        simp only [List.nil_append, List.mem_singleton] at hz
        subst hz
        unfold entPlace at hp
        simp only at hp
        split at hp
        · cases hp
        · rename_i b' o' hφ
          have ho' : objs hh = some ⟨false, .row .t3 l0⟩ := ho
          rw [ho'] at hp
          simp only [Option.some.injEq, Prod.mk.injEq] at hp
          obtain ⟨rfl, _⟩ := hp
          exact ⟨hh, .all, _, o', rfl, ho, hφ, rfl⟩
      rcases Nat.eq_zero_or_pos l0.length with h0 | h0
      · rw [h0] at hV
        refine still A cap hV ?_ hsrc htk
        intro p hp
        rw [List.mem_singleton] at hp
        subst hp
        refine ⟨.t3, l0, sortT cf l0, rfl, ho, hsl, ?_⟩
        intro b o _ i v hi
        have : sortT cf l0 = [] := List.length_eq_zero_iff.1 (by rw [hsl]; exact h0)
        rw [this] at hi
        simp [encAll] at hi
      · obtain ⟨b, o, hφ, rfl⟩ := hA.resolve_left (by omega)
        have hoff : o + Win.all.off * EK.sz .t3 = o := by simp [Win.off]
        rw [hoff] at hV
        rcases H.obj hh _ ho with ⟨hn, _⟩ | ⟨b3, o3, q6, hcell, hcur⟩
        · have hφ' : φ hh = some (b, o) := hφ
          have hn' : φ hh = none := hn
          rw [hn'] at hφ'
          cases hφ'
        · have hφ : φ hh = some (b, o) := hφ
          have q6 : φ hh = some (b3, o3) := q6
          rw [hφ] at q6
          simp only [Option.some.injEq, Prod.mk.injEq] at q6
          obtain ⟨rfl, rfl⟩ := q6
          obtain ⟨cur, T, hcu, hle⟩ := hcur rfl
          have hblk : b < w.heap.size := (Array.getElem?_eq_some_iff.1 hcu).1
          have hH := holds_row hcell hcu
          have hcap : l0.length < 4611686018427387904 := by
            have : l0.length ≤ 4398046511104 := hlen
            omega
          have hGs : ∀ (m : Nat) (os : Array Obj) (dk : Array (Int × Int × Int)), GlOk P (Go.Proofs.sortWorldK (EK.enc .t3) 3 w b o m dk os) (fun _ _ => False) := by
            intro m os dk w' hs hk
            have hsz : (Go.Proofs.sortWorldK (EK.enc .t3) 3 w b o m dk os).heap.size = w.heap.size + os.size := by simp [Go.Proofs.sortWorldK, Sort.putRowK]
            refine hG w' (by have := H.size; omega) fun k hkl hW => ?_
            have hkw : k < w.heap.size := Nat.lt_of_lt_of_le hkl H.size
            have hkb : k ≠ b := by
              intro e
              subst e
              rcases H.own hh _ k o ho rfl hφ with h | h
              · omega
              · exact hW h
            have h1 := put_heap (n := m) (o := o) (b := b) (r := dk.toList) (os := os) hkw
            rw [if_neg hkb] at h1
            rw [hk k (by rw [hsz]; omega) (fun h => h), ← H.keep k hkl hW]
            simpa using h1
          have hcon := Go.Proofs.AnyQ.slices_SortFunc_total L 3 aE zE (EK.enc .t3) (fun x => enc_length .t3 x) (fun x v hv => by
            simp only [EK.enc, List.mem_cons, List.mem_singleton, List.not_mem_nil, or_false] at hv
            rcases hv with rfl | rfl | rfl <;> rfl) cf hO g0 #[] b o cap l0.toArray w (fun args w => fn_run hg args w) (cmp_lays hC hcf b o _ w hGs) hH hblk (by simpa using hcap) hT
          rw [hV]
          have hsz : l0.toArray.size = l0.length := by simp
          rw [hsz] at hcon
          refine Calls.mono hcon ?_
          rintro e w' ⟨rfl, n, os, rfl⟩
          have hr : (l0.toArray.toList.mergeSort fun x y => !(Go.Proofs.ltOf cf) y x).toArray = (sortT cf l0).toArray := rfl
          rw [hr]
          refine ⟨φ, ⟨[], rfl, rfl⟩, ?_⟩
          refine turned_ok (w' := Go.Proofs.sortWorldK (EK.enc .t3) 3 w b o n (sortT cf l0).toArray os) H htk rfl ⟨rfl, .of (Nat.le_add_right _ _)⟩ rfl ?_ ?_ ?_ ?_ hsrc _ _
          · simp [Go.Proofs.sortWorldK, Sort.putRowK]
          · intro k hk hnt
            rw [put_heap hk, if_neg]
            intro e
            subst e
            refine hnt ⟨⟨some (hh, .all), true⟩, o, by simp, rfl, ?_⟩
            unfold entPlace
            simp only
            rw [show φ hh = some (k, o) from hφ]
            simp only
            have ho' : objs hh = some ⟨false, .row .t3 l0⟩ := ho
            rw [ho']
            simp only [Win.off, Nat.zero_mul, Nat.add_zero]
          · intro k c T' fz' hk hw
            rw [put_heap hk]
            by_cases e : k = b
            · rw [if_pos e, hw]
              exact ⟨_, rfl, by simp [Sort.putCells]⟩
            · rw [if_neg e]
              exact ⟨c, hw, rfl⟩
          · intro p hp
            rw [List.mem_singleton] at hp
            subst hp
            refine ⟨.t3, l0, sortT cf l0, rfl, ho, hsl, ?_⟩
            intro b' o' hφ' i v hi
            have hφ' : φ hh = some (b', o') := hφ'
            rw [hφ] at hφ'
            simp only [Option.some.injEq, Prod.mk.injEq] at hφ'
            obtain ⟨rfl, rfl⟩ := hφ'
            exact put_cell hblk hH hsl hi
end Go.Fx
end

noncomputable section
set_option linter.unusedVariables false
set_option linter.unusedSimpArgs false
set_option autoImplicit false
namespace Go.Fx
open Go

theorem ints_get {l : List Int} {i : Nat} {v : Value} (h : (encAll (.int .i64) l)[i]? = some v) : i < l.length ∧ Value.int .i64 (l.toArray[i]!) = v := by
  have e : ∀ m : List Int, encAll (.int .i64) m = m.map (Value.int .i64) := by
    intro m
    induction m with
    | nil => rfl
    | cons x m ih =>
      have : encAll (.int .i64) (x :: m) = [Value.int .i64 x] ++ encAll (.int .i64) m := by
        rw [show x :: m = [x] ++ m from rfl, encAll_append]
        rfl
      rw [this, ih]
      rfl
  rw [e l, List.getElem?_map] at h
  cases hl : l[i]? with
  | none => rw [hl] at h; cases h
  | some x =>
    rw [hl] at h
    have hlt := (List.getElem?_eq_some_iff.1 hl).1
    refine ⟨hlt, ?_⟩
    have hx : l.toArray[i]! = x := by
      rw [getElem!_pos _ _ (by simpa using hlt)]
      have := (List.getElem?_eq_some_iff.1 hl).2
      simpa using this
    rw [hx]
    exact Option.some.inj h
theorem holds_ints' {w : World} {b o : Nat} {l : List Int} (hcell : ∀ i v, (encAll (.int .i64) l)[i]? = some v → w.cell? ⟨b, o + i, none⟩ = some v) {cur : Array Value} {T : TypeId} (hcur : w.heap[b]? = some (.cells cur T (0, 0))) :
    Sort.Holds (Value.int .i64) w b o l.toArray := by
  intro j hj
  have hlt : j < (encAll (.int .i64) l).length := by
    rw [encAll_length]
    simpa [EK.sz] using hj
  have hv := List.getElem?_eq_getElem hlt
  refine ⟨?_, ?_⟩
  · rw [hcell j _ hv, ← (ints_get hv).2]
  · unfold World.frozen?
    rw [hcur]
    simp
theorem put_cell1 {w : World} {b o n : Nat} {l r : List Int} {os : Array Obj} (hb : b < w.heap.size) (h : Sort.Holds (Value.int .i64) w b o l.toArray) (hr : r.length = l.length) {i : Nat} {v : Value} (hi : (encAll (.int .i64) r)[i]? = some v) :
    (Sort.grow (Sort.putRow (Value.int .i64) (Sort.ahead w n) b o r.toArray) os).cell? ⟨b, o + i, none⟩ = some v := by
  obtain ⟨h1, h2⟩ := ints_get hi
  rw [Sort.cell?_grow _ _ _ (by simpa using hb)]
  rw [Sort.cell?_putRow (Value.int .i64) (Sort.ahead w n) b o l.toArray _ h (by simp [hr]) i (by simpa using h1), h2]
theorem put_heap1 {w : World} {b o n : Nat} {r : List Int} {os : Array Obj} {k : Nat} (hk : k < w.heap.size) :
    (Sort.grow (Sort.putRow (Value.int .i64) (Sort.ahead w n) b o r.toArray) os).heap[k]? = if k = b then (w.heap[k]?).map (Sort.onCells (Sort.putCells (Value.int .i64) o r.toArray)) else w.heap[k]? := by
  rw [Sort.heap_grow_old _ _ (by simpa using hk)]
  show (w.heap.modify b _)[k]? = _
  rw [Array.getElem?_modify]
  by_cases e : b = k
  · subst e; simp
  · rw [if_neg e, if_neg (fun h => e h.symm)]

def sortIntFn : PFn := mkMut (.one (.row (.int .i64) true)) [] [] (fun (l : List Int) _ => if l.length ≤ 4398046511104 then some (sortI l) else none) (fun _ => ()) (fun r => r)

theorem sortIntFn_ok {P : Program} {ρ : Go.Shelf.Ren} (L : Go.Proofs.Lays.n189 P ρ)
    {fn : Func} {code : Code} (hf : P.funcs[ρ.f 189]? = some fn) (hb : fn.body = some code) (hname : (fn.name == "runtime.NumGoroutine") = false) : sortIntFn.Ok P (ρ.f 189) where
  nat := mkMut_nat
  loc := mkMut_loc (fun look look' vs xs es' h => by cases vs with | nil => exact h | cons v vs => simp [extL] at h)
  calls := by
    intro w0 W0 objs φ seen w args vals d e h H hv hG
    obtain ⟨a0, rest, x, es, xs, es', r, wr, rfl, h1, h2, h3, h4, h5, rfl⟩ := mkMut_run h
    obtain ⟨V0, Vs, rfl, hv0, hvs⟩ := hv
    have hrest : rest = [] := by
      cases rest with
      | nil => rfl
      | cons v vs => simp [extL] at h2
    subst hrest
    have hnil' : Vs = [] := hvs
    subst hnil'
    have hlen : List.length x ≤ 4398046511104 := by
      refine Decidable.byContradiction fun hc => ?_
      rw [if_neg hc] at h4
      cases h4
    rw [if_pos hlen] at h4
    simp only [Option.some.injEq] at h4
    subst h4
    have hargs : ([V0] : List Value).toArray = #[V0] := rfl
    refine ⟨fn, code, hf, hb, hname, ?_⟩
    rw [hargs]
    have hx : extB objs (.row (.int .i64) true) a0 [] = some (x, es) := by simpa only [extK] using h1
    have h5' : updB (.row (.int .i64) true) a0 (sortI x) = some wr := by simpa only [updK] using h5
    have still : ∀ (A : Option Addr) (cap : Nat), V0 = .slice A 0 cap → (∀ p ∈ wr, MUp (G objs φ seen w) w p.1 p.2) → (∀ m ∈ es, ∀ hh win, m.src = some (hh, win) → hh ∈ wr.map (·.1)) →
        (∀ z ∈ es, z.own = true → ∀ b o, entPlace (G objs φ seen w) z = some (b, o) → ∃ h win a0 o', z.src = some (h, win) ∧ objs h = some a0 ∧ φ h = some (b, o') ∧ a0.ro = false) →
        Calls P (ρ.f 189) #[V0] w fun
          | .returned v, w' => ∃ φ', (⟨valOf (bldL 0 [] () []).1, wr, entHs es⟩ : Eff).val.rep (Af objs seen ⟨valOf (bldL 0 [] () []).1, wr, entHs es⟩ φ' w') v ∧ Heap w0 W0 (Af objs seen ⟨valOf (bldL 0 [] () []).1, wr, entHs es⟩ φ' w') w' ∧ (G objs φ seen w).le (Af objs seen ⟨valOf (bldL 0 [] () []).1, wr, entHs es⟩ φ' w')
          | _, _ => False := by
      intro A cap hV k1 k2 k3
      rw [hV]
      refine Calls.mono (Go.Proofs.Any.slices_Sort_int_none L A cap w) ?_
      rintro e w' ⟨rfl, rfl⟩
      refine ⟨φ, ⟨[], rfl, rfl⟩, ?_⟩
      exact turned_ok H k3 rfl ⟨rfl, .of (Nat.le_refl _)⟩ rfl (Nat.le_refl _) (fun _ _ _ => rfl) (fun b cur T fz _ hw => ⟨cur, hw, rfl⟩) k1 k2 _ _
    rcases ext_row (Γ := G objs φ seen w) hx hv0 with ⟨rfl, rfl, hV⟩ | ⟨hh, win, ro, l0, rfl, rfl, ho, rfl, hown, hok, A, cap, hV, hc, hA⟩
    · simp only [updB, Option.some.injEq] at h5'
      subst h5'
      have hes : es = [⟨none, true⟩] := by
        simp only [extB, List.nil_append, Option.some.injEq, Prod.mk.injEq, true_and] at hx
        exact hx.symm
      refine still none 0 hV (fun p hp => by cases hp) ?_ ?_
      · intro m hm hh win hs
        rw [hes, List.mem_singleton] at hm
        subst hm
        cases hs
      · intro z hz _ b o hp
        rw [hes, List.mem_singleton] at hz
        subst hz
        simp [entPlace] at hp
    · have hro := hown rfl
      subst hro
      cases win <;> simp only [updB] at h5' <;> try (simp at h5'; done)
      simp only [Option.some.injEq] at h5'
      subst h5'
      have hw1 : Win.all.view l0 = l0 := rfl
      rw [hw1] at hV hc
      have hsl : (sortI l0).length = l0.length := by unfold sortI; exact List.length_mergeSort _
      have hsrc : ∀ m ∈ ([] ++ [⟨some (hh, .all), true⟩] : List Ent), ∀ h2 win, m.src = some (h2, win) → h2 ∈ ([(hh, some ⟨false, .row (.int .i64) (sortI (Win.all.view l0))⟩)] : List (Nat × Option AO)).map (·.1) := by
        intro m hm h2 win hs
        simp only [List.nil_append, List.mem_singleton] at hm
        subst hm
        simp only [Option.some.injEq, Prod.mk.injEq] at hs
        simp [hs.1]
      have htk : ∀ z ∈ ([] ++ [⟨some (hh, .all), true⟩] : List Ent), z.own = true → ∀ b o, entPlace (G objs φ seen w) z = some (b, o) → ∃ h win a0 o', z.src = some (h, win) ∧ objs h = some a0 ∧ φ h = some (b, o') ∧ a0.ro = false := by
        intro z hz _ b o hp
        simp only [List.nil_append, List.mem_singleton] at hz
        subst hz
        unfold entPlace at hp
        simp only at hp
        split at hp
        · cases hp
        · rename_i b' o' hφ
          have ho' : objs hh = some ⟨false, .row (.int .i64) l0⟩ := ho
          rw [ho'] at hp
          simp only [Option.some.injEq, Prod.mk.injEq] at hp
          obtain ⟨rfl, _⟩ := hp
          exact ⟨hh, .all, _, o', rfl, ho, hφ, rfl⟩
      rcases Nat.eq_zero_or_pos l0.length with h0 | h0
      · rw [h0] at hV
        refine still A cap hV ?_ hsrc htk
        intro p hp
        rw [List.mem_singleton] at hp
        subst hp
        refine ⟨(.int .i64), l0, sortI l0, rfl, ho, hsl, ?_⟩
        intro b o _ i v hi
        have : sortI l0 = [] := List.length_eq_zero_iff.1 (by rw [hsl]; exact h0)
        rw [this] at hi
        simp [encAll] at hi
      · obtain ⟨b, o, hφ, rfl⟩ := hA.resolve_left (by omega)
        have hoff : o + Win.all.off * EK.sz (.int .i64) = o := by simp [Win.off]
        rw [hoff] at hV
        rcases H.obj hh _ ho with ⟨hn, _⟩ | ⟨b3, o3, q6, hcell, hcur⟩
        · have hφ' : φ hh = some (b, o) := hφ
          have hn' : φ hh = none := hn
          rw [hn'] at hφ'
          cases hφ'
        · have hφ : φ hh = some (b, o) := hφ
          have q6 : φ hh = some (b3, o3) := q6
          rw [hφ] at q6
          simp only [Option.some.injEq, Prod.mk.injEq] at q6
          obtain ⟨rfl, rfl⟩ := q6
          obtain ⟨cur, T, hcu, hle⟩ := hcur rfl
          have hblk : b < w.heap.size := (Array.getElem?_eq_some_iff.1 hcu).1
          have hH := holds_ints' hcell hcu
          have hcap : l0.length < 4611686018427387904 := by
            have : l0.length ≤ 4398046511104 := hlen
            omega
          have hcon := Go.Proofs.Any.slices_Sort_int L b o cap l0 w hH hblk hcap
          rw [hV]
          refine Calls.mono hcon ?_
          rintro e w' ⟨rfl, n, os, rfl⟩
          have hr : (l0.mergeSort fun x y => decide (x ≤ y)).toArray = (sortI l0).toArray := rfl
          rw [hr]
          refine ⟨φ, ⟨[], rfl, rfl⟩, ?_⟩
          refine turned_ok (w' := Sort.grow (Sort.putRow (Value.int .i64) (Sort.ahead w n) b o (sortI l0).toArray) os) H htk rfl ⟨rfl, .of (Nat.le_add_right _ _)⟩ rfl ?_ ?_ ?_ ?_ hsrc _ _
          · simp
          · intro k hk hnt
            rw [put_heap1 hk, if_neg]
            intro e
            subst e
            refine hnt ⟨⟨some (hh, .all), true⟩, o, by simp, rfl, ?_⟩
            unfold entPlace
            simp only
            rw [show φ hh = some (k, o) from hφ]
            simp only
            have ho' : objs hh = some ⟨false, .row (.int .i64) l0⟩ := ho
            rw [ho']
            simp only [Win.off, Nat.zero_mul, Nat.add_zero]
          · intro k c T' fz' hk hw
            rw [put_heap1 hk]
            by_cases e : k = b
            · rw [if_pos e, hw]
              exact ⟨_, rfl, by simp [Sort.putCells]⟩
            · rw [if_neg e]
              exact ⟨c, hw, rfl⟩
          · intro p hp
            rw [List.mem_singleton] at hp
            subst hp
            refine ⟨(.int .i64), l0, sortI l0, rfl, ho, hsl, ?_⟩
            intro b' o' hφ' i v hi
            have hφ' : φ hh = some (b', o') := hφ'
            rw [hφ] at hφ'
            simp only [Option.some.injEq, Prod.mk.injEq] at hφ'
            obtain ⟨rfl, rfl⟩ := hφ'
            exact put_cell1 hblk hH hsl hi
end Go.Fx
end

noncomputable section
set_option linter.unusedVariables false
set_option linter.unusedSimpArgs false
set_option autoImplicit false
namespace Go.Fx
open Go

theorem cmpZ_cases (x y : Int) : (x < y ∧ cmpZ x y = -1) ∨ (x = y ∧ cmpZ x y = 0) ∨ (y < x ∧ cmpZ x y = 1) := by
  unfold cmpZ
  by_cases h1 : x < y
  · exact .inl ⟨h1, by rw [if_pos h1]⟩
  · by_cases h2 : x > y
    · exact .inr (.inr ⟨h2, by rw [if_neg h1, if_pos h2]⟩)
    · exact .inr (.inl ⟨by omega, by rw [if_neg h1, if_neg h2]⟩)
theorem ltD (p q : Int × Int × Int) : Go.Proofs.ltOf cfD p q = decide (p.1 < q.1 ∨ (p.1 = q.1 ∧ (p.2.1 < q.2.1 ∨ (p.2.1 = q.2.1 ∧ p.2.2 < q.2.2)))) := by
  unfold Go.Proofs.ltOf cfD
  rw [decide_eq_decide]
  rcases cmpZ_cases p.1 q.1 with ⟨h1, e1⟩ | ⟨h1, e1⟩ | ⟨h1, e1⟩
  · rw [e1, if_pos (by decide)]; omega
  · rw [e1, if_neg (by decide)]
    rcases cmpZ_cases p.2.1 q.2.1 with ⟨h2, e2⟩ | ⟨h2, e2⟩ | ⟨h2, e2⟩
    · rw [e2, if_pos (by decide)]; omega
    · rw [e2, if_neg (by decide)]
      rcases cmpZ_cases p.2.2 q.2.2 with ⟨h3, e3⟩ | ⟨h3, e3⟩ | ⟨h3, e3⟩ <;> rw [e3] <;> omega
    · rw [e2, if_pos (by decide)]; omega
  · rw [e1, if_pos (by decide)]; omega
theorem swoD : Sort.SWO (Go.Proofs.ltOf cfD) where
  irrefl x := by rw [ltD]; simp
  trans x y z h1 h2 := by
    rw [ltD, decide_eq_true_eq] at *
    omega
  ntrans x y z h1 h2 := by
    rw [ltD, decide_eq_false_iff_not] at *
    omega
theorem triD (x y : Int × Int × Int) (h1 : Go.Proofs.ltOf cfD x y = false) (h2 : Go.Proofs.ltOf cfD y x = false) : x = y := by
  rw [ltD, decide_eq_false_iff_not] at *
  obtain ⟨a, b, c⟩ := x
  obtain ⟨a', b', c'⟩ := y
  simp only [Prod.mk.injEq] at *
  omega
end Go.Fx
end
