/- The reflective executor, part 6: loads, addresses, slices of slices. -/
import Derived.Test.YtkledlpiilcagaaFw5
set_option linter.unusedVariables false
set_option linter.unusedSimpArgs false
set_option autoImplicit false
namespace Go.Fx
open Go
section
variable {P : Program} {w0 : World} {W0 : Nat → Prop} {objs : Nat → Option AO} {φ : Nat → Option (Nat × Nat)} {seen : Nat → Bool} {w : World} {ty : Ty}

theorem ty_known {ty : Ty} (hT : TyOk P ty) {t : Nat} (hk : (ty t).known = true) : TyAt P t (ty t) := by
  rcases hT t with h | h
  · simp [TI.known, h.1] at hk
  · exact h
theorem ty_ek {ty : Ty} (hT : TyOk P ty) {t : Nat} {e : EK} (hk : (ty t).ek = some e) : TyAt P t (ty t) := by
  rcases hT t with h | h
  · rw [h.2] at hk; cases hk
  · exact h
theorem ek_size {t : Nat} {e : EK} (h : TyAt P t (ty t)) (hk : (ty t).ek = some e) : (ty t).size = e.sz := by
  obtain ⟨_, _, _, _, _, _, _, _, _, _, _, h9⟩ := h.ok
  exact (h9 e hk).1
theorem known_of {t : Nat} {k : TK} (hk : (ty t).kind = k) (hne : k ≠ .other) : (ty t).known = true := by
  unfold TI.known
  rw [hk]
  cases k <;> simp at hne ⊢
theorem isAgg_ty {t : Nat} (h : TyAt P t (ty t)) : (isAgg t).run P w = .ok (ty t).isAgg w := by
  obtain ⟨d, i, z, h1, _, h3, _⟩ := h.ok
  rw [isAgg_run h1]
  unfold TI.isAgg
  cases hk : (ty t).kind <;> rw [hk] at h3 <;> cases d <;> simp [kindOk] at h3 <;> rfl
theorem sizeOf_ty {t : Nat} (h : TyAt P t (ty t)) : (sizeOf t).run P w = .ok (ty t).size w := by
  obtain ⟨d, i, z, _, h2, _, h4, _⟩ := h.ok
  rw [run_sizeOf w h2, cellsOf_eq h2, h4]

theorem repL_drop {Γ : Ctx} {cs : List SV} {vs : List Value} (h : SV.repL Γ cs vs) (i : Nat) : SV.repL Γ (cs.drop i) (vs.drop i) := by
  have hl := repL_length h
  refine repL_of_get (by simp [hl]) fun j c v hc hv => ?_
  rw [List.getElem?_drop] at hc hv
  obtain ⟨v', h1, h2⟩ := repL_get h _ _ hc
  rw [h1] at hv
  cases hv
  exact h2
theorem repL_take {Γ : Ctx} {cs : List SV} {vs : List Value} (h : SV.repL Γ cs vs) (i : Nat) : SV.repL Γ (cs.take i) (vs.take i) := by
  have hl := repL_length h
  refine repL_of_get (by simp [hl]) fun j c v hc hv => ?_
  rw [List.getElem?_take] at hc hv
  split at hc
  · rename_i hj
    rw [if_pos hj] at hv
    obtain ⟨v', h1, h2⟩ := repL_get h _ _ hc
    rw [h1] at hv
    cases hv
    exact h2
  · simp at hc

theorem toSV_rep {Γ : Ctx} {e : EK} (h : 2 ≤ e.sz) (x : e.den) : (e.toSV x).rep Γ (.agg (e.enc x).toArray) := by
  cases e <;> simp [EK.sz] at h
  · exact ⟨_, rfl, ⟨_, _, rfl, rfl, ⟨_, _, rfl, rfl, rfl⟩⟩⟩
  · exact ⟨_, rfl, ⟨_, _, rfl, rfl, ⟨_, _, rfl, rfl, ⟨_, _, rfl, rfl, rfl⟩⟩⟩⟩
theorem get_rep {Γ : Ctx} {e : EK} {x : e.den} {j : Nat} {c : SV} (h : e.get x j = some c) : j < e.sz ∧ ∃ v, (e.enc x)[j]? = some v ∧ c.rep Γ v := by
  cases e <;> rcases j with _ | _ | _ | j <;> simp [EK.get] at h <;> subst h <;> simp [EK.sz, EK.enc, SV.rep]

theorem ofSV_enc {Γ : Ctx} {e : EK} {c : SV} {x : e.den} {v : Value} (h : e.ofSV c = some x) (r : c.rep Γ v) : v.cells.toList = e.enc x ∧ (∀ u ∈ e.enc x, u.oneCell' = true) := by
  unfold EK.ofSV at h
  split at h
  · split at h
    · rename_i hk
      subst hk
      simp only [Option.some.injEq] at h
      subst h
      simp only [SV.rep] at r
      subst r
      simp [Value.cells, EK.enc, Value.oneCell']
    · simp at h
  · simp only [Option.some.injEq] at h
    subst h
    simp only [SV.rep] at r
    subst r
    simp [Value.cells, EK.enc, Value.oneCell']
  · simp only [Option.some.injEq] at h
    subst h
    simp only [SV.rep] at r
    subst r
    simp [Value.cells, EK.enc, Value.oneCell']
  · simp only [Option.some.injEq] at h
    subst h
    simp only [SV.rep, SV.repL] at r
    obtain ⟨vs, rfl, _, _, rfl, rfl, _, _, rfl, rfl, rfl⟩ := r
    simp [Value.cells, EK.enc, Value.oneCell']
  · simp only [Option.some.injEq] at h
    subst h
    simp only [SV.rep, SV.repL] at r
    obtain ⟨vs, rfl, _, _, rfl, rfl, _, _, rfl, rfl, _, _, rfl, rfl, rfl⟩ := r
    simp [Value.cells, EK.enc, Value.oneCell']
  · simp at h

theorem put_enc {Γ : Ctx} {e : EK} {x x' : e.den} {j : Nat} {c : SV} {v : Value} (h : e.put x j c = some x') (r : c.rep Γ v) : j < e.sz ∧ e.enc x' = (e.enc x).set j v ∧ v.oneCell' = true ∧ v.cells = #[v] := by
  unfold EK.put at h
  split at h
  · split at h
    · rename_i hk
      subst hk
      simp only [Option.some.injEq] at h
      subst h
      simp only [SV.rep] at r
      subst r
      simp [EK.enc, EK.sz, Value.oneCell', Value.cells]
    · simp at h
  all_goals first
    | (simp at h; done)
    | (simp only [Option.some.injEq] at h
       subst h
       simp only [SV.rep] at r
       subst r
       simp [EK.enc, EK.sz, Value.oneCell', Value.cells])

/-- What a reading of the object's memory says of its cells. -/
theorem row_cell (H : Heap w0 W0 (G objs φ seen w) w) {h b o i j : Nat} {ro : Bool} {e : EK} {l : List e.den} (ho : objs h = some ⟨ro, .row e l⟩) (hp : φ h = some (b, o)) (hi : i < l.length) (hj : j < e.sz) :
    w.cell? ⟨b, o + i * e.sz + j, none⟩ = (e.enc (l.getD i e.dflt))[j]? := by
  rcases H.obj h _ ho with ⟨hn, _⟩ | ⟨b', o', hp', hc, _⟩
  · simp [hp] at hn
  · simp only [hp, Option.some.injEq, Prod.mk.injEq] at hp'
    obtain ⟨rfl, rfl⟩ := hp'
    have hg := encAll_get e l i j hi hj
    cases hv : (e.enc (l.getD i e.dflt))[j]? with
    | none => rw [List.getElem?_eq_none_iff, enc_length] at hv; omega
    | some v =>
      rw [hv] at hg
      have := hc _ v hg
      rw [← Nat.add_assoc] at this
      exact this

theorem load_ok (hT : TyOk P ty) (H : Heap w0 W0 (G objs φ seen w) w) {t : Nat} {x : SV} {a : Value} {e : Eff} (h : loadK ty t x objs some = some e) (r : x.rep (G objs φ seen w) a) :
    ∃ v, (Instr.loadAt t a).run P w = .ok v w ∧ e.wr = [] ∧ e.val.rep (G objs φ seen w) v := by
  unfold loadK at h
  split at h
  · simp at h
  rename_i hkn
  have hty := ty_known hT hkn
  split at h
  · rename_i hh i
    cases ho : objs hh with
    | none => simp [ho] at h
    | some a0 =>
      obtain ⟨ro, o0⟩ := a0
      cases o0 with
      | cells cs =>
        obtain ⟨_, _, hp⟩ := r
        simp only [Ctx.ptrOk, ho] at hp
        obtain ⟨b, o, hφ, rfl⟩ := hp
        obtain ⟨b', o', hφ', vs, hr, h1, hc, _⟩ := H.obj hh _ ho
        have hφ2 : φ hh = some (b', o') := hφ'
        rw [hφ] at hφ2
        simp only [Option.some.injEq, Prod.mk.injEq] at hφ2
        obtain ⟨rfl, rfl⟩ := hφ2
        simp only [ho] at h
        split at h
        · rename_i hag
          split at h
          · rename_i hle
            simp only [Option.some.injEq] at h
            subst h
            have hle := Nat.le_of_ble_eq_true hle
            have hl := repL_length hr
            have hrun := run_loadCells_list (P := P) w ⟨b, o + i, none⟩ ((vs.drop i).take (ty t).size) (fun j v hv => by
              rw [add_spot, Nat.add_assoc]
              rw [List.getElem?_take] at hv
              split at hv
              · rw [List.getElem?_drop] at hv; exact hc _ v hv
              · simp at hv)
            have hlen : ((vs.drop i).take (ty t).size).length = (ty t).size := by simp; omega
            rw [hlen] at hrun
            refine ⟨.agg ((vs.drop i).take (ty t).size).toArray, ?_, rfl, ⟨_, rfl, repL_take (repL_drop hr i) _⟩⟩
            simp only [Instr.loadAt, Instr.sureAddr, loadVar, Sem.run_bind, Sem.run_pure, Result.andThen_ok, isAgg_ty hty, hag, if_true, sizeOf_ty hty, hrun]
          · simp at h
        · rename_i hag
          split at h
          · rename_i v hv
            simp only [Option.some.injEq] at h
            subst h
            obtain ⟨u, hu, hur⟩ := repL_get hr i v hv
            refine ⟨u, ?_, rfl, hur⟩
            simp only [Instr.loadAt, Instr.sureAddr, loadVar, Sem.run_bind, Sem.run_pure, Result.andThen_ok, isAgg_ty hty, hag, Bool.false_eq_true, if_false, run_load, hc i u hu]
          · simp at h
      | row e l => simp [ho] at h
      | arr n l => simp [ho] at h
  · rename_i hh i j
    cases ho : objs hh with
    | none => simp [ho] at h
    | some a0 =>
      obtain ⟨ro, o0⟩ := a0
      cases o0 with
      | cells cs => simp [ho] at h
      | row k l =>
        obtain ⟨_, _, hp⟩ := r
        simp only [Ctx.pelOk, ho] at hp
        obtain ⟨hi, b, o, hφ, rfl⟩ := hp
        simp only [ho] at h
        split at h
        · rename_i hag
          split at h
          · rename_i hb
            simp only [Bool.and_eq_true] at hb
            obtain ⟨⟨hb1, hb2⟩, hb3⟩ := hb
            have hb1 := Nat.eq_of_beq_eq_true hb1
            have hb2 := Nat.eq_of_beq_eq_true hb2
            have hb3 := Nat.le_of_ble_eq_true hb3
            subst hb1
            simp only [Option.some.injEq] at h
            subst h
            have hrun := run_loadCells_list (P := P) w ⟨b, o + i * k.sz + 0, none⟩ (k.enc (l.getD i k.dflt)) (fun j v hv => by
              have hj : j < k.sz := by
                rcases Nat.lt_or_ge j k.sz with h | h
                · exact h
                · rw [List.getElem?_eq_none (by rw [enc_length]; exact h)] at hv; cases hv
              rw [add_spot, Nat.add_zero, row_cell H ho hφ hi hj]; exact hv)
            rw [enc_length] at hrun
            refine ⟨_, ?_, rfl, toSV_rep hb3 _⟩
            simp only [Instr.loadAt, Instr.sureAddr, loadVar, Sem.run_bind, Sem.run_pure, Result.andThen_ok, isAgg_ty hty, hag, if_true, sizeOf_ty hty, hb2, hrun]
          · simp at h
        · rename_i hag
          split at h
          · rename_i v hv
            simp only [Option.some.injEq] at h
            subst h
            obtain ⟨hj, u, hu, hur⟩ := get_rep (Γ := G objs φ seen w) hv
            refine ⟨u, ?_, rfl, hur⟩
            simp only [Instr.loadAt, Instr.sureAddr, loadVar, Sem.run_bind, Sem.run_pure, Result.andThen_ok, isAgg_ty hty, hag, Bool.false_eq_true, if_false, run_load, row_cell H ho hφ hi hj, hu]
          · simp at h
      | arr n l =>
        obtain ⟨_, _, hp⟩ := r
        simp only [Ctx.pelOk, ho] at hp
        obtain ⟨hi, b, o, hφ, rfl⟩ := hp
        obtain ⟨hn, b', o', hφ', hc, _⟩ := H.obj hh _ ho
        have hφ2 : φ hh = some (b', o') := hφ'
        rw [hφ] at hφ2
        simp only [Option.some.injEq, Prod.mk.injEq] at hφ2
        obtain ⟨rfl, rfl⟩ := hφ2
        simp only [ho] at h
        split at h
        · rename_i hag
          split at h
          · rename_i hsz
            have hsz := Nat.eq_of_beq_eq_true hsz
            split at h
            · simp only [Option.some.injEq] at h
              subst h
              have hrun := run_loadCells_list (P := P) w ⟨b, o + 0 + 0, none⟩ (l.map (Value.int .i64)) (fun j v hv => by
                rw [add_spot]
                simp only [List.getElem?_map, Option.map_eq_some_iff] at hv
                obtain ⟨x, hx, rfl⟩ := hv
                have := hc j x hx
                simpa using this)
              rw [List.length_map, hn, ← hsz] at hrun
              refine ⟨_, ?_, rfl, ⟨hn, rfl⟩⟩
              simp only [Instr.loadAt, Instr.sureAddr, loadVar, Sem.run_bind, Sem.run_pure, Result.andThen_ok, isAgg_ty hty, hag, if_true, sizeOf_ty hty, hrun]
            · simp at h
          · split at h
            · split at h
              · rename_i hle
                simp only [Option.some.injEq] at h
                subst h
                have hlen : ((l.drop i).take (ty t).size).length = (ty t).size := by simp; omega
                have hrun := run_loadCells_list (P := P) w ⟨b, o + i + 0, none⟩ (((l.drop i).take (ty t).size).map (Value.int .i64)) (fun j v hv => by
                  rw [add_spot]
                  simp only [List.getElem?_map, Option.map_eq_some_iff] at hv
                  obtain ⟨x, hx, rfl⟩ := hv
                  rw [List.getElem?_take] at hx
                  split at hx
                  · rw [List.getElem?_drop] at hx
                    have := hc (i + j) x hx
                    rw [show o + i + 0 + j = o + (i + j) by omega]
                    exact this
                  · cases hx)
                rw [List.length_map, hlen] at hrun
                refine ⟨_, ?_, rfl, ⟨hlen, rfl⟩⟩
                simp only [Instr.loadAt, Instr.sureAddr, loadVar, Sem.run_bind, Sem.run_pure, Result.andThen_ok, isAgg_ty hty, hag, if_true, sizeOf_ty hty, hrun]
              · simp at h
            · simp at h
        · rename_i hag
          split at h
          · rename_i hj
            have hj := Nat.eq_of_beq_eq_true hj
            subst hj
            simp only [Option.some.injEq] at h
            subst h
            have hx : l[i]? = some (l.getD i 0) := by
              rw [List.getD_eq_getElem?_getD]
              rw [List.getElem?_eq_getElem (by omega)]
              simp
            refine ⟨_, ?_, rfl, rfl⟩
            simp only [Instr.loadAt, Instr.sureAddr, loadVar, Sem.run_bind, Sem.run_pure, Result.andThen_ok, isAgg_ty hty, hag, Bool.false_eq_true, if_false, run_load, Nat.add_zero, hc i _ hx]
          · simp at h
  · simp at h

end
end Go.Fx
