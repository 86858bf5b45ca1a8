/- Plain laws: a door more. -/
import Derived.Test.YtfgncboicamdjaaPvChg
set_option linter.unusedVariables false
set_option linter.unusedSimpArgs false
set_option autoImplicit false
namespace Go.Pv
open Go Go.Fx Go.Pf

theorem index_l0 {n : Nat} {K : Unit → Option Int} {l : List Door} {d : Door} (hl : l.length ≤ 1048576) : ∀ (f i : Nat), l.length - i < f → i ≤ l.length →
    ∃ m : Int, 0 ≤ m ∧ slices_Index_3_int_3_int.l0 n K f l d.1 d.2.1 d.2.2 l.length i = if d ∈ l.drop i then some m else K ()
  | 0, i, hf, _ => by omega
  | f + 1, i, hf, hi => by
    rw [slices_Index_3_int_3_int.l0]
    by_cases cc : (i : Int) < (l.length : Int)
    · have c2 : i < l.length := by omega
      have k1 : decide ((i : Int) < (l.length : Int)) = true := by simpa using cc
      have k2 : 0 ≤ (i : Int) ∧ (i : Int) < (l.length : Int) := ⟨by omega, cc⟩
      have wi : IntKind.wrap .i64 ((i : Int) + 1) = ((i + 1 : Nat) : Int) := by rw [w64s (by omega) (by omega)]; omega
      have hdr := getD_drop (d := dz) c2
      rw [if_pos k1, if_pos k2, Int.toNat_natCast, wi, eqD, hdr]
      by_cases e : d = l.getD i dz
      · refine ⟨i, by omega, ?_⟩
        rw [if_pos (by rw [decide_eq_true e]), if_pos (by rw [← e]; simp)]
      · obtain ⟨m, h1, h2⟩ := index_l0 (n := n) (K := K) (d := d) hl f (i + 1) (by omega) (by omega)
        refine ⟨m, h1, ?_⟩
        rw [if_neg (by rw [decide_eq_false e]; simp), h2]
        by_cases hin : d ∈ l.drop (i + 1)
        · rw [if_pos hin, if_pos (List.mem_cons_of_mem _ hin)]
        · rw [if_neg hin, if_neg (fun h => by
            rcases List.mem_cons.1 h with h | h
            · exact e h
            · exact hin h)]
    · have k1 : ¬ decide ((i : Int) < (l.length : Int)) = true := by simpa using cc
      have : l.drop i = [] := List.drop_eq_nil_of_le (by omega)
      refine ⟨0, by omega, ?_⟩
      rw [if_neg k1, this, if_neg (by simp)]
open Classical in
theorem contains_eq {n : Nat} {l : List Door} (hl : l.length ≤ 1048576) (hn : l.length < n) (d : Door) : slices_Contains_3_int_3_int.F n l d.1 d.2.1 d.2.2 = some (decide (d ∈ l)) := by
  unfold slices_Contains_3_int_3_int.F slices_Index_3_int_3_int.F
  obtain ⟨m, h1, h2⟩ := index_l0 (n := n) (K := fun _ => some (-1)) (d := d) hl n 0 (by omega) (by omega)
  simp only [Int.natCast_zero, List.drop_zero] at h2
  rw [h2]
  by_cases h : d ∈ l
  · rw [if_pos h, Option.bind_some, decide_eq_true h, decide_eq_true (by omega)]
  · rw [if_neg h, Option.bind_some, decide_eq_false h, decide_eq_false (by omega)]
theorem vm_of {N : Int} {ds r : List Door} {ks : List Int} (h : VM N ds ks) (hr : LexS r) (hl : r.length ≤ 30) (hd : ∀ d ∈ r, 0 ≤ d.1 ∧ d.1 < d.2.1 ∧ d.2.1 < N ∧ 0 ≤ d.2.2 ∧ d.2.2 ≤ 63) : VM N r ks :=
  ⟨h.n1, h.n2, hl, h.kl, hd, lexS_at hr, h.keys⟩
open Classical in
theorem AddDoor_same {n : Nat} {N : Int} {ds : List Door} {ks : List Int} (hn : 1048578 ≤ n) (a b c : Int) : ∃ q : RM, (q.2.1.length ≤ 1048576 ∧ q.2.2.1.length ≤ 1048576) ∧ spec_AddDoor.F n N ds ks a b c = some q ∧ impl_AddDoor.F n N ds ks a b c = some q := by
  unfold spec_AddDoor.F impl_AddDoor.F
  rw [isNode_eq (by omega) (by simp; omega) (by simp)]
  simp only [l2Node_eq (n := n) (by omega : 40 ≤ n), Option.bind_some, List.all_cons, List.all_nil, Bool.and_true, l2Set_eq, isSet_eq]
  by_cases h : VM N ds ks
  · have hv : decide (VM N ds ks) = true := by simp [h]
    rw [hv, Bool.true_and, Bool.true_and, Bool.true_and]
    cases ha : inB a 0 (N - 1) with
    | false => exact ⟨(0, [], [], false), by simp, rfl, rfl⟩
    | true =>
      cases hb : inB b 0 (N - 1) with
      | false => exact ⟨(0, [], [], false), by simp, rfl, rfl⟩
      | true =>
        simp only [Bool.and_self, Bool.not_true, Bool.false_eq_true, if_false]
        by_cases hab : a = b
        · simp only [hab, decide_true, if_true]
          exact ⟨(0, [], [], false), by simp, rfl, rfl⟩
        · simp only [decide_eq_false hab, Bool.false_eq_true, if_false]
          cases hc : setB c with
          | false => exact ⟨(0, [], [], false), by simp, rfl, rfl⟩
          | true =>
            simp only [Bool.not_true, Bool.false_eq_true, if_false]
            have hd := h.dl
            have h1 := h.n1
            have h2 := h.n2
            have hkl := h.kl
            simp only [inB, setB, Bool.and_eq_true, decide_eq_true_eq] at ha hb hc
            have e0 : spec_l2Own.F n N ds ks = some (N, ds, ks) := by
              unfold spec_l2Own.F spec_l1Own.F
              rw [if_pos (by simp; omega), if_pos (by simp; omega)]
              rfl
            have hS : LexS ds := lexS_of h.sorted
            obtain ⟨r, r1, r2, r3, r4, r5⟩ := put_eq (n := n) (l := ds) (by omega) (by omega) hS a b c
            have hcn := contains_eq (n := n) (l := ds) (by omega) (by omega) (nrm (a, b, c))
            have hcn' : slices_Contains_3_int_3_int.F n ds (if b < a then b else a) (if b > a then b else a) c = some (decide (nrm (a, b, c) ∈ ds)) := hcn
            rw [e0, Option.bind_some, r1, Option.bind_some, hcn', Option.bind_some]
            by_cases hin : nrm (a, b, c) ∈ ds
            · rw [r4 hin, decide_eq_true hin, if_pos (by simp), if_pos rfl]
              exact ⟨(0, [], [], false), by simp, rfl, rfl⟩
            · have hlen := r5 hin
              rw [decide_eq_false hin, if_neg (by rw [decide_eq_true_eq]; omega), if_neg (by simp)]
              unfold spec_l2Kept.F
              have hdoor : ∀ d ∈ r, 0 ≤ d.1 ∧ d.1 < d.2.1 ∧ d.2.1 < N ∧ 0 ≤ d.2.2 ∧ d.2.2 ≤ 63 := by
                intro d hd
                rcases (r3 d).1 hd with hd | hd
                · exact h.door d hd
                · subst hd
                  unfold nrm
                  simp only
                  by_cases hba : b < a
                  · rw [if_pos hba, if_neg (by omega)]; omega
                  · rw [if_neg hba, if_pos (by omega)]; omega
              rw [l2Maze_val (by omega), Option.bind_some]
              by_cases h30 : ds.length = 30
              · have hnv : ¬ VM N r ks := fun hv => by have := hv.dl; omega
                have hf : decide (VM (N, ds, ks).1 r (N, ds, ks).2.2) = false := by simp [hnv]
                rw [hf, if_pos (show (!false) = true from rfl), Option.bind_some, if_pos (show decide ((ds.length : Int) = 30) = true by rw [decide_eq_true_eq]; omega)]
                exact ⟨(0, [], [], false), by simp, rfl, rfl⟩
              · have hvr : VM N r ks := vm_of h r2 (by omega) hdoor
                have ht : decide (VM (N, ds, ks).1 r (N, ds, ks).2.2) = true := by simp [hvr]
                rw [ht, if_neg (show ¬ (!true) = true by simp), Option.bind_some, if_neg (show ¬ decide ((ds.length : Int) = 30) = true by rw [decide_eq_true_eq]; omega), ownE (by omega) (by omega), Option.bind_some]
                rw [if_pos (by simp; omega), tidy_eq (by simp; omega) (by simp; omega), Option.bind_some]
                have e : r = tidyL (ds ++ [nrm (a, b, c)]) := by
                  refine lex_ext r2 (tidyL_lex _) fun x => ?_
                  rw [r3 x, tidyL_mem]
                  have hn1 : ∀ d, d ∈ ds → nrm d = d := fun d hd => nrm_id (by have := h.door d hd; omega)
                  have hn2 : nrm (nrm (a, b, c)) = nrm (a, b, c) := nrm_id (by
                    unfold nrm
                    simp only
                    by_cases hba : b < a
                    · rw [if_pos hba, if_neg (by omega)]; omega
                    · rw [if_neg hba, if_pos (by omega)]; omega)
                  constructor
                  · rintro (hx | hx)
                    · exact ⟨x, by simp [hx], hn1 x hx⟩
                    · exact ⟨nrm (a, b, c), by simp, by rw [hn2, hx]⟩
                  · rintro ⟨d, hd1, hd2⟩
                    rcases List.mem_append.1 hd1 with hd1 | hd1
                    · rw [hn1 d hd1] at hd2
                      rw [← hd2]
                      exact .inl hd1
                    · rw [List.mem_singleton] at hd1
                      rw [hd1, hn2] at hd2
                      exact .inr hd2.symm
                have e' : dd (sortT cfD ((ds ++ [nrm (a, b, c)]).map nrm)) = r := e.symm
                refine ⟨(N, r, ks, true), ⟨by simp only; omega, by simp only; omega⟩, rfl, ?_⟩
                have e2 : ((if b < a then b else a, if b > a then b else a, c) : Door) = nrm (a, b, c) := rfl
                simp only [e2, e']
  · have hv : decide (VM N ds ks) = false := by simp [h]
    rw [hv]
    exact ⟨(0, [], [], false), by simp, rfl, rfl⟩
end Go.Pv
