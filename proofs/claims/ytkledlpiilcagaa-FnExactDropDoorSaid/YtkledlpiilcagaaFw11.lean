/- The reflective executor, part 11: slice literals, make, append. -/
import Derived.Test.YtkledlpiilcagaaFw10
set_option linter.unusedVariables false
set_option linter.unusedSimpArgs false
set_option autoImplicit false
namespace Go.Fx
open Go
section
variable {P : Program} {w0 : World} {W0 : Nat → Prop} {objs : Nat → Option AO} {φ : Nat → Option (Nat × Nat)} {seen : Nat → Bool} {w : World} {ty : Ty}

theorem fillRow {Γ : Ctx} {e : EK} : ∀ {parts : List (Nat × SV)} {vparts : List (Nat × Value)} {i : Nat} {l : List e.den} {vcells : Array Value},
    rowParts e i parts = some l → parts.length = vparts.length → (∀ (k : Nat) (p : Nat × SV) (q : Nat × Value), parts[k]? = some p → vparts[k]? = some q → p.1 = q.1 ∧ p.2.rep Γ q.2) →
    (i + parts.length) * e.sz ≤ vcells.size →
    l.length = parts.length ∧ ∃ vout, Instr.fill (fun i => some (i * e.sz, e.sz)) vcells vparts = some vout ∧ vout.toList = vcells.toList.take (i * e.sz) ++ encAll e l ++ vcells.toList.drop (i * e.sz + (encAll e l).length)
  | [], [], i, l, vcells, h, _, _, _ => by
    simp only [rowParts, Option.some.injEq] at h
    subst h
    exact ⟨rfl, vcells, rfl, by simp [encAll]⟩
  | [], _ :: _, _, _, _, _, hl, _, _ => by simp at hl
  | _ :: _, [], _, _, _, _, hl, _, _ => by simp at hl
  | (j, c) :: parts, (j', v) :: vparts, i, l, vcells, h, hl, hp, hfit => by
    obtain ⟨rfl, hrc⟩ := hp 0 _ _ rfl rfl
    simp only [rowParts] at h
    split at h
    · rename_i hij
      have hij := Nat.eq_of_beq_eq_true hij
      subst hij
      split at h
      · rename_i x xs hx hxs
        simp only [Option.some.injEq] at h
        subst h
        simp only [List.length_cons] at hfit
        obtain ⟨hcs, hone⟩ := ofSV_enc hx hrc
        simp only at hcs
        have hsz : v.cells.size = e.sz := by rw [← Array.length_toList, hcs, enc_length]
        have hmul : (i + (parts.length + 1)) * e.sz = i * e.sz + e.sz + parts.length * e.sz := by rw [Nat.add_mul, Nat.succ_mul]; omega
        rw [hmul] at hfit
        have ne : ¬ ((decide (v.cells.size ≠ e.sz) || decide (i * e.sz + v.cells.size > vcells.size)) = true) := by simp; omega
        have hset := foldl_set' v.cells (i * e.sz) vcells (by omega)
        rw [hcs] at hset
        obtain ⟨hll, vout, hf, hv⟩ := fillRow (Γ := Γ) (vcells := v.cells.zipIdx.foldl (fun cs (x : Value × Nat) => cs.setIfInBounds (i * e.sz + x.2) x.1) vcells) hxs (by simpa using hl)
          (fun k p q h1 h2 => hp (k + 1) p q (by simpa using h1) (by simpa using h2)) (by
            rw [← Array.length_toList, hset]
            simp [enc_length, hsz, Nat.add_mul]
            omega)
        refine ⟨by simp [hll], vout, ?_, ?_⟩
        · simp only [Instr.fill, ne]
          exact hf
        · rw [hv, hset, hsz]
          have e1 : encAll e (x :: xs) = e.enc x ++ encAll e xs := by simp [encAll]
          rw [e1]
          have l1 : (i + 1) * e.sz = i * e.sz + e.sz := by rw [Nat.succ_mul]
          rw [l1]
          have l2 : (vcells.toList.take (i * e.sz) ++ e.enc x).length = i * e.sz + e.sz := by
            simp [enc_length]; omega
          rw [List.take_append_of_le_length (by omega), List.take_of_length_le (by omega)]
          rw [List.drop_append, List.drop_of_length_le (by omega), l2]
          rw [List.nil_append, List.drop_drop]
          simp only [List.append_assoc, List.length_append, enc_length]
          congr 3
          congr 1
          omega
      · simp at h
    · simp at h

theorem buildSlice_does (hT : TyOk P ty) (H : Heap w0 W0 (G objs φ seen w) w) {slots : Nat → SV} {a : Act} (hev : ∀ x, (ev slots x).rep (G objs φ seen w) (a.eval x)) {t u len d : Nat} {parts : Array (Nat × Operand)} {e : EK} {l : List e.den}
    (hk : (ty t).kind = .slice u) (hek : (ty u).ek = some e) (hs : seen (nm d 0) = false) (hlen : len = parts.size) (h100 : len ≤ 100) (hr : rowParts e 0 (parts.toList.map fun p => (p.1, ev slots p.2)) = some l) :
    Does P w0 W0 objs φ seen w ⟨.sl (nm d 0) .all, [(nm d 0, some ⟨false, .row e l⟩)], []⟩ (do pure (.value (← Instr.buildSlice t len (parts.map fun (i, x) => (i, a.eval x)))) : Sem Next) := by
  obtain ⟨hl, hp⟩ := map_parts hev parts
  have hu := ty_ek hT hek
  have hsz := ek_size hu hek
  obtain ⟨dd, i, z, _, hi, _, hisz, _, hz, _⟩ := hu.ok
  have hmap : (parts.map fun (x : Nat × Operand) => (x.1, a.eval x.2)).toList = parts.toList.map fun p => (p.1, a.eval p.2) := by simp
  have hsz3 : e.sz ≤ 3 := by cases e <;> simp [EK.sz]
  have hmul : len * e.sz ≤ 100 * 3 := Nat.mul_le_mul h100 hsz3
  have fillz : ∀ (zz : Array Value), ∃ vout, Instr.fill (fun i => some (i * e.sz, e.sz)) ((Array.range (len * e.sz)).map (zz[· % zz.size]!)) (parts.toList.map fun p => (p.1, a.eval p.2)) = some vout ∧ vout.toList = encAll e l ∧ l.length = len := by
    intro zz
    obtain ⟨h1, vout, h2, h3⟩ := fillRow (vcells := (Array.range (len * e.sz)).map (zz[· % zz.size]!)) hr hl hp (by simp [hlen])
    have h1' : l.length = len := by rw [h1]; simp [hlen]
    refine ⟨vout, h2, ?_, h1'⟩
    rw [h3, encAll_length, h1']
    simp
  obtain ⟨vout, hf, hv, hll⟩ := fillz (if len * e.sz = 0 then #[] else z.cells)
  have hvs : vout.size = len * e.sz := by rw [← Array.length_toList, hv, encAll_length, hll]
  refine row_does H (cap := len) (n := len) (T := u) (cur := vout) hs hll.symm (Nat.le_refl _) (by unfold maxLen; omega) (by omega) (fun i v hv' => by rw [← Array.getElem?_toList, hv]; exact hv') ?_
  have hbig : ¬ len * e.sz > 2 ^ 24 := by omega
  simp only [Instr.buildSlice, Sem.run_bind, run_underlying (ty_slice hT hk), Result.andThen_ok, sizeOf_ty (ty_ek hT hek), hsz]
  rw [Sem.run_ite, if_neg hbig]
  have e0 : ∀ f : Nat → Value, (Array.range 0).map f = #[] := fun f => by simp
  by_cases h0 : len * e.sz = 0
  · simp only [h0, if_true, e0] at hf
    simp only [h0, if_true, Sem.run_bind, Sem.run_pure, Result.andThen_ok, e0, hmap, hf, newRow, run_newObj]
    rfl
  · simp only [h0, if_false] at hf
    simp [h0, hmap, hf, newRow, zeroValue, typeInfo, hi, hz]

theorem zeroOk_cv1 : ∀ {vs us : List Value}, (∀ v ∈ vs, (∃ k n, v = .int k n) ∨ (∃ b, v = .bool b) ∨ (∃ s, v = .string s)) → zeroOk (vs.map cv1) us = true → us = vs
  | [], [], _, _ => rfl
  | [], u :: us, _, h => by simp [zeroOk] at h
  | v :: vs, [], _, h => by simp [zeroOk] at h
  | v :: vs, u :: us, hv, h => by
    simp only [List.map_cons, zeroOk, Bool.and_eq_true] at h
    obtain ⟨h1, h2⟩ := h
    rw [zeroOk_cv1 (fun x hx => hv x (by simp [hx])) h2]
    have : u = v := by
      rcases hv v (by simp) with ⟨k, n, rfl⟩ | ⟨b, rfl⟩ | ⟨s, rfl⟩
      all_goals
        simp only [cv1, conc] at h1
        exact sameV_eq h1
    rw [this]
theorem enc_lits (e : EK) (x : e.den) : ∀ v ∈ e.enc x, (∃ k n, v = .int k n) ∨ (∃ b, v = .bool b) ∨ (∃ s, v = .string s) := by
  cases e <;> simp [EK.enc]

theorem replicate_get {e : EK} {n : Nat} {x : e.den} {k : Nat} {v : Value} (h : (encAll e (List.replicate n x))[k]? = some v) : k < n * e.sz ∧ (e.enc x)[k % e.sz]? = some v := by
  have hk : k < n * e.sz := by
    have := (List.getElem?_eq_some_iff.1 h).1
    rw [encAll_length] at this
    simpa using this
  refine ⟨hk, ?_⟩
  have hp := sz_pos e
  have hd : k / e.sz < n := by
    rw [Nat.div_lt_iff_lt_mul hp]; exact hk
  have hm := Nat.mod_lt k hp
  have := encAll_get e (List.replicate n x) (k / e.sz) (k % e.sz) (by simpa using hd) hm
  rw [show k / e.sz * e.sz + k % e.sz = k by rw [Nat.mul_comm]; exact Nat.div_add_mod k e.sz] at this
  rw [h] at this
  have hx : (List.replicate n x).getD (k / e.sz) e.dflt = x := by simp [List.getD, hd]
  rw [hx] at this
  exact this.symm

theorem makeSlice_does (hT : TyOk P ty) (H : Heap w0 W0 (G objs φ seen w) w) {t u d : Nat} {e : EK} {k1 k2 : IntKind} {n m : Int} (hk : (ty t).kind = .slice u) (hek : (ty u).ek = some e) (hs : seen (nm d 0) = false)
    (hb : 0 ≤ n ∧ n ≤ m ∧ m ≤ 4398046511104) :
    Does P w0 W0 objs φ seen w ⟨.sl (nm d 0) .all, [(nm d 0, some ⟨false, .row e (List.replicate n.toNat e.dflt)⟩)], []⟩ (do pure (.value (← Instr.makeSlice t (.int k1 n) (.int k2 m))) : Sem Next) := by
  have hu := ty_ek hT hek
  have hsz := ek_size hu hek
  obtain ⟨dd, i, z, _, hi, _, hisz, _, hz, _, _, h9⟩ := hu.ok
  obtain ⟨_, _, hbytes, hzero⟩ := h9 e hek
  have hzc := zeroOk_cv1 (enc_lits e _) hzero
  have hi32 : (i.bytes : Int) ≤ 32 := by omega
  have hmul : (i.bytes : Int) * m ≤ 32 * 4398046511104 := Int.mul_le_mul hi32 hb.2.2 (by omega) (by omega)
  have hrun := run_make (P := P) w t u i z (ty_slice hT hk) hi hz k1 k2 n m hb.1 hb.2.1 (by omega) (by omega)
  have hzs : z.cells.size = e.sz := by rw [← Array.length_toList, hzc, enc_length]
  refine row_does H (cap := m.toNat) (n := n.toNat) (T := u) (cur := madeCells z.cells (m.toNat * i.size)) hs (by simp) (by omega) (by unfold maxLen; omega) (by rw [size_madeCells, hisz, hsz]; omega) ?_ (by rw [Sem.run_bind, hrun]; rfl)
  intro k v hv
  obtain ⟨h1, h2⟩ := replicate_get hv
  have hle : n.toNat * e.sz ≤ m.toNat * e.sz := Nat.mul_le_mul_right _ (by omega)
  have hp := sz_pos e
  have hmod := Nat.mod_lt k hp
  rw [hisz, hsz]
  have hkk : k < m.toNat * e.sz := by omega
  simp only [madeCells, Array.getElem?_map]
  rw [Array.getElem?_eq_getElem (by simpa using hkk)]
  simp only [Array.getElem_range, Option.map_some]
  rw [hzs, getElem!_pos z.cells (k % e.sz) (by rw [hzs]; exact hmod)]
  rw [← hzc, Array.getElem?_toList, Array.getElem?_eq_getElem (by rw [hzs]; exact hmod)] at h2
  exact h2

end
end Go.Fx
