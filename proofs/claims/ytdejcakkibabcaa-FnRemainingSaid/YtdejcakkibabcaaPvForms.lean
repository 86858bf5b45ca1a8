/- Plain laws: doors and keys that are put and taken away again; joined mazes keep the walks of the first one. -/
import Derived.Test.YtdejcakkibabcaaPvWay
import Derived.Test.YtdejcakkibabcaaPvMono
import Derived.Test.YtdejcakkibabcaaPvAdd
import Derived.Test.YtdejcakkibabcaaPvDrop
import Derived.Test.YtdejcakkibabcaaPvPut
import Derived.Test.YtdejcakkibabcaaPvWithout
set_option linter.unusedVariables false
set_option linter.unusedSimpArgs false
set_option autoImplicit false
namespace Go.Pv
open Go Go.Fx Go.Pf

/-- A door more can be had. -/
structure AddQ (N : Int) (ds : List Door) (ks : List Int) (a b c : Int) : Prop where
  vm : VM N ds ks
  ra : inB a 0 (N - 1) = true
  rb : inB b 0 (N - 1) = true
  ne : a ≠ b
  rc : setB c = true
  new : nrm (a, b, c) ∉ ds
  len : ds.length < 30
open Classical in
/-- What a maze with one more door is. -/
noncomputable def addR (N : Int) (ds : List Door) (ks : List Int) (a b c : Int) : RM :=
  if AddQ N ds ks a b c then (N, tidyL (ds ++ [nrm (a, b, c)]), ks, true) else (0, [], [], false)
theorem addR_pos {N : Int} {ds : List Door} {ks : List Int} {a b c : Int} (h : AddQ N ds ks a b c) : addR N ds ks a b c = (N, tidyL (ds ++ [nrm (a, b, c)]), ks, true) := by
  unfold addR; rw [if_pos h]
theorem addR_neg {N : Int} {ds : List Door} {ks : List Int} {a b c : Int} (h : ¬ AddQ N ds ks a b c) : addR N ds ks a b c = (0, [], [], false) := by
  unfold addR; rw [if_neg h]
/-- The doors with one more. -/
theorem add_mem {N : Int} {ds : List Door} {ks : List Int} {a b c : Int} (h : AddQ N ds ks a b c) : ∀ x, x ∈ tidyL (ds ++ [nrm (a, b, c)]) ↔ x ∈ ds ∨ x = nrm (a, b, c) := by
  intro x
  rw [tidyL_mem]
  have hn1 : ∀ d, d ∈ ds → nrm d = d := fun d hd => nrm_id (by have := h.vm.door d hd; omega)
  have hn2 : nrm (nrm (a, b, c)) = nrm (a, b, c) := nrm_id (by
    unfold nrm
    simp only
    have := h.ne
    by_cases hba : b < a
    · rw [if_pos hba, if_neg (by omega)]; omega
    · rw [if_neg hba, if_pos (by omega)]; omega)
  constructor
  · rintro ⟨d, hd1, hd2⟩
    rcases List.mem_append.1 hd1 with hd1 | hd1
    · rw [hn1 d hd1] at hd2
      rw [← hd2]
      exact .inl hd1
    · rw [List.mem_singleton] at hd1
      rw [hd1, hn2] at hd2
      exact .inr hd2.symm
  · rintro (hx | hx)
    · exact ⟨x, by simp [hx], hn1 x hx⟩
    · exact ⟨nrm (a, b, c), by simp, by rw [hn2, hx]⟩
theorem nrm_door {N : Int} {ds : List Door} {ks : List Int} {a b c : Int} (h : AddQ N ds ks a b c) : 0 ≤ (nrm (a, b, c)).1 ∧ (nrm (a, b, c)).1 < (nrm (a, b, c)).2.1 ∧ (nrm (a, b, c)).2.1 < N ∧ 0 ≤ (nrm (a, b, c)).2.2 ∧ (nrm (a, b, c)).2.2 ≤ 63 := by
  have ha := h.ra
  have hb := h.rb
  have hc := h.rc
  have hne := h.ne
  simp only [inB, setB, Bool.and_eq_true, decide_eq_true_eq] at ha hb hc
  unfold nrm
  simp only
  by_cases hba : b < a
  · rw [if_pos hba, if_neg (by omega)]; omega
  · rw [if_neg hba, if_pos (by omega)]; omega
theorem pw_len : ∀ {l m : List Door}, LexS l → (∀ x ∈ l, x ∈ m) → l.length ≤ m.length
  | [], m, _, _ => by simp
  | d :: l, m, h, hs => by
    have hd := hs d (List.mem_cons_self ..)
    have hp := List.pairwise_cons.1 h
    have ih := pw_len (l := l) (m := m.erase d) hp.2 fun x hx => by
      have hx2 := hs x (List.mem_cons_of_mem _ hx)
      have hne : x ≠ d := by
        intro e
        subst e
        have := hp.1 x hx
        rw [lex3_iff] at this
        omega
      exact (List.mem_erase_of_ne hne).2 hx2
    have := List.length_erase_of_mem hd
    have hpos := List.length_pos_of_mem hd
    simp only [List.length_cons]
    omega
theorem add_len {N : Int} {ds : List Door} {ks : List Int} {a b c : Int} (h : AddQ N ds ks a b c) : (tidyL (ds ++ [nrm (a, b, c)])).length = ds.length + 1 := by
  have h1 := tidyL_len (ds ++ [nrm (a, b, c)])
  have hS : LexS ds := lexS_of h.vm.sorted
  have hr := tidyL_lex (ds ++ [nrm (a, b, c)])
  have hm := add_mem h
  have : ds.length ≤ ((tidyL (ds ++ [nrm (a, b, c)])).erase (nrm (a, b, c))).length := pw_len hS fun x hx => by
    have hne : x ≠ nrm (a, b, c) := fun e => h.new (e ▸ hx)
    exact (List.mem_erase_of_ne hne).2 ((hm x).2 (.inl hx))
  have hin : nrm (a, b, c) ∈ tidyL (ds ++ [nrm (a, b, c)]) := (hm _).2 (.inr rfl)
  rw [List.length_erase_of_mem hin] at this
  have hpos := List.length_pos_of_mem hin
  simp only [List.length_append, List.length_cons, List.length_nil] at h1
  omega
theorem add_vm {N : Int} {ds : List Door} {ks : List Int} {a b c : Int} (h : AddQ N ds ks a b c) : VM N (tidyL (ds ++ [nrm (a, b, c)])) ks :=
  vm_of h.vm (tidyL_lex _) (by rw [add_len h]; have := h.len; omega) fun d hd => by
    rcases (add_mem h d).1 hd with hd | hd
    · exact h.vm.door d hd
    · rw [hd]; exact nrm_door h
/-- A sorted list without the entry at a place. -/
theorem drop_mem {l : List Door} (hS : LexS l) {k : Nat} (hk : k < l.length) : LexS (l.take k ++ l.drop (k + 1)) ∧ ∀ x, x ∈ l.take k ++ l.drop (k + 1) ↔ x ∈ l ∧ x ≠ l.getD k dz := by
  have hsub : (l.take k ++ l.drop (k + 1)).Sublist l := by
    have h1 : (l.take k ++ l.drop (k + 1)).Sublist (l.take k ++ l.drop k) := List.Sublist.append_left (by
      rw [List.drop_eq_getElem_cons hk]
      exact List.sublist_cons_self _ _) _
    rwa [List.take_append_drop] at h1
  refine ⟨hS.sublist hsub, fun x => ?_⟩
  have ek : l.getD k dz = l[k] := by rw [List.getD_eq_getElem?_getD, List.getElem?_eq_getElem hk]; rfl
  have hirr : ∀ d : Door, ¬ lex3 d d = true := fun d h => by rw [lex3_iff] at h; omega
  constructor
  · intro hx
    refine ⟨hsub.subset hx, fun e => ?_⟩
    rcases List.mem_append.1 hx with hx | hx
    · obtain ⟨i, hi, he⟩ := List.getElem_of_mem hx
      have hi2 : i < k := by rw [List.length_take] at hi; omega
      have := lexS_get hS hi2 hk
      rw [← e] at this
      have he2 : l.getD i dz = x := by
        rw [List.getD_eq_getElem?_getD, List.getElem?_eq_getElem (by omega)]
        rw [List.getElem_take] at he
        exact he
      rw [he2] at this
      exact hirr _ this
    · obtain ⟨i, hi, he⟩ := List.getElem_of_mem hx
      have hi2 : k + 1 + i < l.length := by rw [List.length_drop] at hi; omega
      have := lexS_get hS (show k < k + 1 + i by omega) hi2
      rw [← e] at this
      have he2 : l.getD (k + 1 + i) dz = x := by
        rw [List.getD_eq_getElem?_getD, List.getElem?_eq_getElem hi2]
        rw [List.getElem_drop] at he
        exact he
      rw [he2] at this
      exact hirr _ this
  · rintro ⟨hx, hne⟩
    rw [← List.take_append_drop k l, List.drop_eq_getElem_cons hk] at hx
    rcases List.mem_append.1 hx with hx | hx
    · exact List.mem_append.2 (.inl hx)
    · rcases List.mem_cons.1 hx with hx | hx
      · exact absurd (by rw [ek]; exact hx) hne
      · exact List.mem_append.2 (.inr hx)
open Classical in
/-- What a maze without one of its doors is. -/
noncomputable def dropR (N : Int) (ds : List Door) (ks : List Int) (x : Int) : RM :=
  if VM N ds ks ∧ 0 ≤ x ∧ x < (ds.length : Int) then (N, ds.take x.toNat ++ ds.drop (x.toNat + 1), ks, true) else (0, [], [], false)
/-- A door that was put can be taken away again. -/
theorem add_drop {N : Int} {ds : List Door} {ks : List Int} {a b c : Int} (h : AddQ N ds ks a b c) : ∃ k : Nat, k < (tidyL (ds ++ [nrm (a, b, c)])).length ∧ dropR N (tidyL (ds ++ [nrm (a, b, c)])) ks (k : Int) = (N, ds, ks, true) := by
  have hm := add_mem h
  obtain ⟨k, hk, he⟩ := List.getElem_of_mem ((hm (nrm (a, b, c))).2 (.inr rfl))
  refine ⟨k, hk, ?_⟩
  unfold dropR
  rw [if_pos ⟨add_vm h, by omega, by omega⟩, Int.toNat_natCast]
  obtain ⟨d1, d2⟩ := drop_mem (tidyL_lex _) hk
  have ek : (tidyL (ds ++ [nrm (a, b, c)])).getD k dz = nrm (a, b, c) := by rw [List.getD_eq_getElem?_getD, List.getElem?_eq_getElem hk]; exact he
  have e : (tidyL (ds ++ [nrm (a, b, c)])).take k ++ (tidyL (ds ++ [nrm (a, b, c)])).drop (k + 1) = ds := by
    refine lex_ext d1 (lexS_of h.vm.sorted) fun x => ?_
    rw [d2, ek, hm]
    constructor
    · rintro ⟨hx | hx, hne⟩
      · exact hx
      · exact absurd hx hne
    · intro hx
      exact ⟨.inl hx, fun e => h.new (e ▸ hx)⟩
  rw [e]
/-- A door that was taken away can be put again. -/
theorem drop_add {N : Int} {ds : List Door} {ks : List Int} (h : VM N ds ks) {k : Nat} (hk : k < ds.length) : addR N (ds.take k ++ ds.drop (k + 1)) ks (ds.getD k dz).2.1 (ds.getD k dz).1 (ds.getD k dz).2.2 = (N, ds, ks, true) := by
  have hS : LexS ds := lexS_of h.sorted
  obtain ⟨d1, d2⟩ := drop_mem hS hk
  have hmem : ds.getD k dz ∈ ds := getD_mem hk
  have hr := h.door _ hmem
  have hdl := h.dl
  have hln : nrm ((ds.getD k dz).2.1, (ds.getD k dz).1, (ds.getD k dz).2.2) = ds.getD k dz := by
    unfold nrm
    simp only
    rw [if_pos (by omega), if_neg (by omega)]
  have hlen : (ds.take k ++ ds.drop (k + 1)).length < 30 := by
    simp only [List.length_append, List.length_take, List.length_drop]
    omega
  have q : AddQ N (ds.take k ++ ds.drop (k + 1)) ks (ds.getD k dz).2.1 (ds.getD k dz).1 (ds.getD k dz).2.2 := {
    vm := vm_of h d1 (by omega) fun d hd => h.door d ((d2 d).1 hd).1
    ra := by simp only [inB, Bool.and_eq_true, decide_eq_true_eq]; omega
    rb := by simp only [inB, Bool.and_eq_true, decide_eq_true_eq]; omega
    ne := by omega
    rc := by simp only [setB, Bool.and_eq_true, decide_eq_true_eq]; omega
    new := by rw [hln]; exact fun z => ((d2 _).1 z).2 rfl
    len := hlen }
  rw [addR_pos q]
  have hm := add_mem q
  have e : tidyL (ds.take k ++ ds.drop (k + 1) ++ [nrm ((ds.getD k dz).2.1, (ds.getD k dz).1, (ds.getD k dz).2.2)]) = ds := by
    refine lex_ext (tidyL_lex _) hS fun x => ?_
    rw [hm, d2, hln]
    constructor
    · rintro (hx | hx)
      · exact hx.1
      · rw [hx]; exact hmem
    · intro hx
      by_cases e : x = ds.getD k dz
      · exact .inr e
      · exact .inl ⟨hx, e⟩
  rw [e]
open Classical in
/-- What a maze with other keys at a node is. -/
noncomputable def putR (N : Int) (ds : List Door) (ks : List Int) (x s : Int) : RM :=
  if VM N ds ks ∧ inB x 0 (N - 1) = true ∧ setB s = true then (N, ds, ks.set x.toNat s, true) else (0, [], [], false)
theorem put_vm {N : Int} {ds : List Door} {ks : List Int} (h : VM N ds ks) {x : Nat} {s : Int} (hs : setB s = true) : VM N ds (ks.set x s) :=
  ⟨h.n1, h.n2, h.dl, by rw [List.length_set]; exact h.kl, h.door, h.sorted, fun k hk => by
    rcases List.mem_or_eq_of_mem_set hk with hk | hk
    · exact h.keys k hk
    · simp only [setB, Bool.and_eq_true, decide_eq_true_eq] at hs
      omega⟩
theorem put_back {N : Int} {ds : List Door} {ks : List Int} (h : VM N ds ks) {x s : Int} (hx : inB x 0 (N - 1) = true) (hs : setB s = true) : putR N ds (ks.set x.toNat s) x (ks.getD x.toNat 0) = (N, ds, ks, true) := by
  have hkl := h.kl
  have hx' := hx
  simp only [inB, Bool.and_eq_true, decide_eq_true_eq] at hx'
  have hlt : x.toNat < ks.length := by omega
  have hk := h.keys _ (getD_mem (d := (0 : Int)) hlt)
  unfold putR
  rw [if_pos ⟨put_vm h hs, hx, by simp only [setB, Bool.and_eq_true, decide_eq_true_eq]; omega⟩]
  have e : (ks.set x.toNat s).set x.toNat (ks.getD x.toNat 0) = ks := by
    rw [List.set_set, List.getD_eq_getElem?_getD, List.getElem?_eq_getElem hlt]
    exact List.set_getElem_self hlt
  rw [e]

section
variable {n : Nat} {N M : Int} {ds es : List Door} {ks js : List Int}
/-- A maze that has all of another one's walks: its nodes come first. -/
structure More (N M : Int) (ds es : List Door) (ks js : List Int) : Prop where
  le : VM N ds ks
  ge : VM M es js
  n : N ≤ M
  doors : ∀ d ∈ ds, d ∈ es
  keys : ∀ x : Nat, (x : Int) < N → Sub (ks.getD x 0).toNat (js.getD x 0).toNat
theorem More.refl (h : VM N ds ks) : More N N ds ds ks ks := ⟨h, h, Int.le_refl _, fun _ hd => hd, fun _ _ => .refl _⟩
theorem openB_more (L : More N M ds es ks js) {s t : Nat} (hs : s < 2 ^ 6) (ht : t < 2 ^ 6) (hst : Sub s t) {x y : Int} (h : openB ds x y (s : Int) = true) : openB es x y (t : Int) = true := by
  unfold openB at h ⊢
  rw [List.any_eq_true] at h ⊢
  obtain ⟨d, hd, h2⟩ := h
  rw [Bool.and_eq_true] at h2
  have hr := L.le.door d hd
  refine ⟨d, L.doors d hd, ?_⟩
  rw [Bool.and_eq_true]
  exact ⟨h2.1, hasB_sub hs ht hr.2.2.2.1 hr.2.2.2.2 hst h2.2⟩
end
end Go.Pv
