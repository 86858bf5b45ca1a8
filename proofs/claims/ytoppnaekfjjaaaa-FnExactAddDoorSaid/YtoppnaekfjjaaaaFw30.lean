/- The reflective executor, part 30: Go's slices.Sort at rows of numbers, as a callee; the library's own contract is the kit's. -/
import Derived.Test.YtoppnaekfjjaaaaFw29
import Derived.Shelf.Sort.Plain
import Derived.Shelf.Slices.In.SortNone
set_option linter.unusedVariables false
set_option linter.unusedSimpArgs false
set_option autoImplicit false
namespace Go.Fx
open Go

theorem ints_get {l : List Int} {i : Nat} {v : Value} (h : (encAll (.int .i64) l)[i]? = some v) : i < l.length ∧ Value.int .i64 (l.toArray[i]!) = v := by
  have e : ∀ m : List Int, encAll (.int .i64) m = m.map (Value.int .i64) := by
    intro m
    induction m with
    | nil => rfl
    | cons x m ih =>
      have : encAll (.int .i64) (x :: m) = [Value.int .i64 x] ++ encAll (.int .i64) m := by
        rw [show x :: m = [x] ++ m from rfl, encAll_append]
        rfl
      rw [this, ih]
      rfl
  rw [e l, List.getElem?_map] at h
  cases hl : l[i]? with
  | none => rw [hl] at h; cases h
  | some x =>
    rw [hl] at h
    have hlt := (List.getElem?_eq_some_iff.1 hl).1
    refine ⟨hlt, ?_⟩
    have hx : l.toArray[i]! = x := by
      rw [getElem!_pos _ _ (by simpa using hlt)]
      have := (List.getElem?_eq_some_iff.1 hl).2
      simpa using this
    rw [hx]
    exact Option.some.inj h
theorem holds_ints' {w : World} {b o : Nat} {l : List Int} (hcell : ∀ i v, (encAll (.int .i64) l)[i]? = some v → w.cell? ⟨b, o + i, none⟩ = some v) {cur : Array Value} {T : TypeId} (hcur : w.heap[b]? = some (.cells cur T (0, 0))) :
    Sort.Holds (Value.int .i64) w b o l.toArray := by
  intro j hj
  have hlt : j < (encAll (.int .i64) l).length := by
    rw [encAll_length]
    simpa [EK.sz] using hj
  have hv := List.getElem?_eq_getElem hlt
  refine ⟨?_, ?_⟩
  · rw [hcell j _ hv, ← (ints_get hv).2]
  · unfold World.frozen?
    rw [hcur]
    simp
theorem put_cell1 {w : World} {b o n : Nat} {l r : List Int} {os : Array Obj} (hb : b < w.heap.size) (h : Sort.Holds (Value.int .i64) w b o l.toArray) (hr : r.length = l.length) {i : Nat} {v : Value} (hi : (encAll (.int .i64) r)[i]? = some v) :
    (Sort.grow (Sort.putRow (Value.int .i64) (Sort.ahead w n) b o r.toArray) os).cell? ⟨b, o + i, none⟩ = some v := by
  obtain ⟨h1, h2⟩ := ints_get hi
  rw [Sort.cell?_grow _ _ _ (by simpa using hb)]
  rw [Sort.cell?_putRow (Value.int .i64) (Sort.ahead w n) b o l.toArray _ h (by simp [hr]) i (by simpa using h1), h2]
theorem put_heap1 {w : World} {b o n : Nat} {r : List Int} {os : Array Obj} {k : Nat} (hk : k < w.heap.size) :
    (Sort.grow (Sort.putRow (Value.int .i64) (Sort.ahead w n) b o r.toArray) os).heap[k]? = if k = b then (w.heap[k]?).map (Sort.onCells (Sort.putCells (Value.int .i64) o r.toArray)) else w.heap[k]? := by
  rw [Sort.heap_grow_old _ _ (by simpa using hk)]
  show (w.heap.modify b _)[k]? = _
  rw [Array.getElem?_modify]
  by_cases e : b = k
  · subst e; simp
  · rw [if_neg e, if_neg (fun h => e h.symm)]

def sortIntFn : PFn := mkMut (.one (.row (.int .i64) true)) [] [] (fun (l : List Int) _ => if l.length ≤ 4398046511104 then some (sortI l) else none) (fun _ => ()) (fun r => r)

theorem sortIntFn_ok {P : Program} {ρ : Go.Shelf.Ren} (L : Go.Proofs.Lays.n189 P ρ)
    {fn : Func} {code : Code} (hf : P.funcs[ρ.f 189]? = some fn) (hb : fn.body = some code) (hname : (fn.name == "runtime.NumGoroutine") = false) : sortIntFn.Ok P (ρ.f 189) where
  nat := mkMut_nat
  loc := mkMut_loc (fun look look' vs xs es' h => by cases vs with | nil => exact h | cons v vs => simp [extL] at h)
  calls := by
    intro w0 W0 objs φ seen w args vals d e h H hv
    obtain ⟨a0, rest, x, es, xs, es', r, wr, rfl, h1, h2, h3, h4, h5, rfl⟩ := mkMut_run h
    obtain ⟨V0, Vs, rfl, hv0, hvs⟩ := hv
    have hrest : rest = [] := by
      cases rest with
      | nil => rfl
      | cons v vs => simp [extL] at h2
    subst hrest
    have hnil' : Vs = [] := hvs
    subst hnil'
    have hlen : List.length x ≤ 4398046511104 := by
      refine Decidable.byContradiction fun hc => ?_
      rw [if_neg hc] at h4
      cases h4
    rw [if_pos hlen] at h4
    simp only [Option.some.injEq] at h4
    subst h4
    have hargs : ([V0] : List Value).toArray = #[V0] := rfl
    refine ⟨fn, code, hf, hb, hname, ?_⟩
    rw [hargs]
    have hx : extB objs (.row (.int .i64) true) a0 [] = some (x, es) := by simpa only [extK] using h1
    have h5' : updB (.row (.int .i64) true) a0 (sortI x) = some wr := by simpa only [updK] using h5
    have still : ∀ (A : Option Addr) (cap : Nat), V0 = .slice A 0 cap → (∀ p ∈ wr, MUp (G objs φ seen w) w p.1 p.2) → (∀ m ∈ es, ∀ hh win, m.src = some (hh, win) → hh ∈ wr.map (·.1)) →
        (∀ z ∈ es, z.own = true → ∀ b o, entPlace (G objs φ seen w) z = some (b, o) → ∃ h win a0 o', z.src = some (h, win) ∧ objs h = some a0 ∧ φ h = some (b, o') ∧ a0.ro = false) →
        Calls P (ρ.f 189) #[V0] w fun
          | .returned v, w' => ∃ φ', (⟨valOf (bldL 0 [] () []).1, wr, entHs es⟩ : Eff).val.rep (Af objs seen ⟨valOf (bldL 0 [] () []).1, wr, entHs es⟩ φ' w') v ∧ Heap w0 W0 (Af objs seen ⟨valOf (bldL 0 [] () []).1, wr, entHs es⟩ φ' w') w' ∧ (G objs φ seen w).le (Af objs seen ⟨valOf (bldL 0 [] () []).1, wr, entHs es⟩ φ' w')
          | _, _ => False := by
      intro A cap hV k1 k2 k3
      rw [hV]
      refine Calls.mono (Go.Proofs.Any.slices_Sort_int_none L A cap w) ?_
      rintro e w' ⟨rfl, rfl⟩
      refine ⟨φ, ⟨[], rfl, rfl⟩, ?_⟩
      exact turned_ok H k3 rfl ⟨rfl, Nat.le_refl _⟩ rfl (Nat.le_refl _) (fun _ _ _ => rfl) (fun b cur T _ hw => ⟨cur, hw, rfl⟩) k1 k2 _ _
    rcases ext_row (Γ := G objs φ seen w) hx hv0 with ⟨rfl, rfl, hV⟩ | ⟨hh, win, ro, l0, rfl, rfl, ho, rfl, hown, hok, A, cap, hV, hc, hA⟩
    · simp only [updB, Option.some.injEq] at h5'
      subst h5'
      have hes : es = [⟨none, true⟩] := by
        simp only [extB, List.nil_append, Option.some.injEq, Prod.mk.injEq, true_and] at hx
        exact hx.symm
      refine still none 0 hV (fun p hp => by cases hp) ?_ ?_
      · intro m hm hh win hs
        rw [hes, List.mem_singleton] at hm
        subst hm
        cases hs
      · intro z hz _ b o hp
        rw [hes, List.mem_singleton] at hz
        subst hz
        simp [entPlace] at hp
    · have hro := hown rfl
      subst hro
      cases win <;> simp only [updB] at h5' <;> try (simp at h5'; done)
      simp only [Option.some.injEq] at h5'
      subst h5'
      have hw1 : Win.all.view l0 = l0 := rfl
      rw [hw1] at hV hc
      have hsl : (sortI l0).length = l0.length := by unfold sortI; exact List.length_mergeSort _
      have hsrc : ∀ m ∈ ([] ++ [⟨some (hh, .all), true⟩] : List Ent), ∀ h2 win, m.src = some (h2, win) → h2 ∈ ([(hh, some ⟨false, .row (.int .i64) (sortI (Win.all.view l0))⟩)] : List (Nat × Option AO)).map (·.1) := by
        intro m hm h2 win hs
        simp only [List.nil_append, List.mem_singleton] at hm
        subst hm
        simp only [Option.some.injEq, Prod.mk.injEq] at hs
        simp [hs.1]
      have htk : ∀ z ∈ ([] ++ [⟨some (hh, .all), true⟩] : List Ent), z.own = true → ∀ b o, entPlace (G objs φ seen w) z = some (b, o) → ∃ h win a0 o', z.src = some (h, win) ∧ objs h = some a0 ∧ φ h = some (b, o') ∧ a0.ro = false := by
        intro z hz _ b o hp
        simp only [List.nil_append, List.mem_singleton] at hz
        subst hz
        unfold entPlace at hp
        simp only at hp
        split at hp
        · cases hp
        · rename_i b' o' hφ
          have ho' : objs hh = some ⟨false, .row (.int .i64) l0⟩ := ho
          rw [ho'] at hp
          simp only [Option.some.injEq, Prod.mk.injEq] at hp
          obtain ⟨rfl, _⟩ := hp
          exact ⟨hh, .all, _, o', rfl, ho, hφ, rfl⟩
      rcases Nat.eq_zero_or_pos l0.length with h0 | h0
      · rw [h0] at hV
        refine still A cap hV ?_ hsrc htk
        intro p hp
        rw [List.mem_singleton] at hp
        subst hp
        refine ⟨(.int .i64), l0, sortI l0, rfl, ho, hsl, ?_⟩
        intro b o _ i v hi
        have : sortI l0 = [] := List.length_eq_zero_iff.1 (by rw [hsl]; exact h0)
        rw [this] at hi
        simp [encAll] at hi
      · obtain ⟨b, o, hφ, rfl⟩ := hA.resolve_left (by omega)
        have hoff : o + Win.all.off * EK.sz (.int .i64) = o := by simp [Win.off]
        rw [hoff] at hV
        rcases H.obj hh _ ho with ⟨hn, _⟩ | ⟨b3, o3, q6, hcell, hcur⟩
        · have hφ' : φ hh = some (b, o) := hφ
          have hn' : φ hh = none := hn
          rw [hn'] at hφ'
          cases hφ'
        · have hφ : φ hh = some (b, o) := hφ
          have q6 : φ hh = some (b3, o3) := q6
          rw [hφ] at q6
          simp only [Option.some.injEq, Prod.mk.injEq] at q6
          obtain ⟨rfl, rfl⟩ := q6
          obtain ⟨cur, T, hcu, hle⟩ := hcur rfl
          have hblk : b < w.heap.size := (Array.getElem?_eq_some_iff.1 hcu).1
          have hH := holds_ints' hcell hcu
          have hcap : l0.length < 4611686018427387904 := by
            have : l0.length ≤ 4398046511104 := hlen
            omega
          have hcon := Go.Proofs.Any.slices_Sort_int L b o cap l0 w hH hblk hcap
          rw [hV]
          refine Calls.mono hcon ?_
          rintro e w' ⟨rfl, n, os, rfl⟩
          have hr : (l0.mergeSort fun x y => decide (x ≤ y)).toArray = (sortI l0).toArray := rfl
          rw [hr]
          refine ⟨φ, ⟨[], rfl, rfl⟩, ?_⟩
          refine turned_ok (w' := Sort.grow (Sort.putRow (Value.int .i64) (Sort.ahead w n) b o (sortI l0).toArray) os) H htk rfl ⟨rfl, Nat.le_add_right _ _⟩ rfl ?_ ?_ ?_ ?_ hsrc _ _
          · simp
          · intro k hk hnt
            rw [put_heap1 hk, if_neg]
            intro e
            subst e
            refine hnt ⟨⟨some (hh, .all), true⟩, o, by simp, rfl, ?_⟩
            unfold entPlace
            simp only
            rw [show φ hh = some (k, o) from hφ]
            simp only
            have ho' : objs hh = some ⟨false, .row (.int .i64) l0⟩ := ho
            rw [ho']
            simp only [Win.off, Nat.zero_mul, Nat.add_zero]
          · intro k c T' hk hw
            rw [put_heap1 hk]
            by_cases e : k = b
            · rw [if_pos e, hw]
              exact ⟨_, rfl, by simp [Sort.putCells]⟩
            · rw [if_neg e]
              exact ⟨c, hw, rfl⟩
          · intro p hp
            rw [List.mem_singleton] at hp
            subst hp
            refine ⟨(.int .i64), l0, sortI l0, rfl, ho, hsl, ?_⟩
            intro b' o' hφ' i v hi
            have hφ' : φ hh = some (b', o') := hφ'
            rw [hφ] at hφ'
            simp only [Option.some.injEq, Prod.mk.injEq] at hφ'
            obtain ⟨rfl, rfl⟩ := hφ'
            exact put_cell1 hblk hH hsl hi
end Go.Fx
