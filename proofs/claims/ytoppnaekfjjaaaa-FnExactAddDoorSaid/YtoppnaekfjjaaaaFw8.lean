/- The reflective executor, part 8: addresses and slices. -/
import Derived.Test.YtoppnaekfjjaaaaFw7
set_option linter.unusedVariables false
set_option linter.unusedSimpArgs false
set_option autoImplicit false
namespace Go.Fx
open Go
section
variable {P : Program} {w0 : World} {W0 : Nat → Prop} {objs : Nat → Option AO} {φ : Nat → Option (Nat × Nat)} {seen : Nat → Bool} {w : World} {ty : Ty}

theorem fieldOff_ok (hT : TyOk P ty) {t f u o : Nat} (h : fieldOff ty t f = some (u, o)) :
    ∃ fs fd, P.underlying t = some (.struct fs) ∧ fs[f]? = some fd ∧ fd.type = u ∧ fd.offset = o ∧ TyAt P u (ty u) ∧ 1 ≤ (ty u).size := by
  unfold fieldOff at h
  split at h
  · rename_i fs hk
    split at h
    · rename_i u' o' hf
      have h' : (ty u').known = true ∧ 1 ≤ (ty u').size ∧ (u', o') = (u, o) := by
        split at h
        · simp at h
        · rename_i hb hne
          simp only [Option.some.injEq] at h
          refine ⟨?_, Nat.le_of_ble_eq_true hb, h⟩
          unfold TI.known
          split
          · rename_i hk'; exact absurd hk' hne
          · rfl
        · simp at h
      obtain ⟨hk', h1, he⟩ := h'
      cases he
      obtain ⟨fa, hfa, hm⟩ := ty_struct hT hk
      have : (fa.toList.map fun f => (f.type, f.offset))[f]? = some (u, o) := by rw [hm]; exact hf
      simp only [List.getElem?_map, Option.map_eq_some_iff] at this
      obtain ⟨fd, hfd, he⟩ := this
      cases he
      exact ⟨fa, fd, hfa, by simpa using hfd, rfl, rfl, ty_known hT hk', h1⟩
    · simp at h
  · simp at h

theorem fieldPlace_ok {t f u o : Nat} {fs : Array Field} {fd : Field} (hfs : P.underlying t = some (.struct fs)) (hf : fs[f]? = some fd) (hu : fd.type = u) (ho : fd.offset = o) (hty : TyAt P u (ty u)) (h1 : 1 ≤ (ty u).size) (b k : Nat) :
    (Instr.fieldAt t (.pointer (some ⟨b, k, none⟩)) f).run P w = .ok (.pointer (some ⟨b, k + o, none⟩)) w := by
  subst hu ho
  have : (ty fd.type).size ≠ 0 := by omega
  simp only [Instr.fieldAt, Sem.run_bind, run_underlying hfs, Result.andThen_ok, hf, Instr.sureAddr, Sem.run_pure, fieldPlace, sizeOf_ty hty, this, if_false, add_spot]

theorem fieldAddr_ok (hT : TyOk P ty) {t f : Nat} {u o : Nat} {a : Value} (h : fieldOff ty t f = some (u, o)) {c c' : SV} (r : c.rep (G objs φ seen w) a)
    (hc : (∃ x i, c = .ptr x i ∧ c' = .ptr x (i + o)) ∨ (∃ x i j, c = .pel x i j ∧ c' = .pel x i (j + o))) (hlive : (∃ x i, c = .ptr x i ∧ ∃ ro cs, objs x = some ⟨ro, .cells cs⟩) ∨ (∃ x i j, c = .pel x i j ∧ ∃ ro e l, objs x = some ⟨ro, .row e l⟩)) :
    ∃ v, (Instr.fieldAt t a f).run P w = .ok v w ∧ c'.rep (G objs φ seen w) v := by
  obtain ⟨fs, fd, hfs, hfd, h1, h2, hty, h3⟩ := fieldOff_ok hT h
  rcases hc with ⟨x, i, rfl, rfl⟩ | ⟨x, i, j, rfl, rfl⟩
  · rcases hlive with ⟨x', i', he, ro, cs, ho⟩ | ⟨x', i', j', he, _⟩
    · cases he
      obtain ⟨hs, _, hp⟩ := r
      simp only [Ctx.ptrOk, ho] at hp
      obtain ⟨b, k, hφ, rfl⟩ := hp
      refine ⟨_, fieldPlace_ok hfs hfd h1 h2 hty h3 b (k + i), hs, ⟨_, rfl⟩, ?_⟩
      simp only [Ctx.ptrOk, ho]
      exact ⟨b, k, hφ, by rw [Nat.add_assoc]⟩
    · cases he
  · rcases hlive with ⟨x', i', he, _⟩ | ⟨x', i', j', he, ro, e, l, ho⟩
    · cases he
    · cases he
      obtain ⟨hs, _, hp⟩ := r
      simp only [Ctx.pelOk, ho] at hp
      obtain ⟨hi, b, k, hφ, rfl⟩ := hp
      refine ⟨_, fieldPlace_ok hfs hfd h1 h2 hty h3 b _, hs, ⟨_, rfl⟩, ?_⟩
      simp only [Ctx.pelOk, ho]
      exact ⟨hi, b, k, hφ, by rw [Nat.add_assoc]⟩

theorem part_ok {u o : Nat} {Γ : Ctx} (hty : TyAt P u (ty u)) {cs : List SV} {vs : List Value} (hr : SV.repL Γ cs vs) {c : SV}
    (h : (if (ty u).isAgg = true then (if o + (ty u).size ≤ cs.length then some (SV.agg ((cs.drop o).take (ty u).size)) else none) else cs[o]?) = some c) :
    ∃ v, (part u vs.toArray o).run P w = .ok v w ∧ c.rep Γ v := by
  simp only [part, Sem.run_bind, isAgg_ty hty, Result.andThen_ok]
  split at h
  · rename_i hag
    split at h
    · rename_i hle
      simp only [Option.some.injEq] at h
      subst h
      refine ⟨_, by simp only [hag, if_true, Sem.run_bind, sizeOf_ty hty, Result.andThen_ok, Sem.run_pure]; rfl, ?_⟩
      refine ⟨(vs.drop o).take (ty u).size, ?_, repL_take (repL_drop hr o) _⟩
      congr 1
      apply Array.ext'
      simp [List.take_drop]
    · simp at h
  · rename_i hag
    obtain ⟨v, hv, hvr⟩ := repL_get hr o c h
    refine ⟨v, ?_, hvr⟩
    have hag' : (ty u).isAgg = false := by simpa using hag
    simp only [hag', Bool.false_eq_true, if_false, List.getElem?_toArray, hv, Sem.run_pure]

theorem asIntOf_int (k : IntKind) (n : Int) : (asIntOf (.int k n)).run P w = .ok (k, n) w := rfl

theorem win_idx (w : Win) (i n : Nat) (h : i < w.len n) : w.idx i = w.off + i := by
  cases w <;> simp [Win.idx, Win.off]

theorem indexAddr_ok (hT : TyOk P ty) (H : Heap w0 W0 (G objs φ seen w) w) {t : Nat} {x ix : SV} {a ai : Value} {e : Eff} (h : indexAddrK ty t x ix objs some = some e) (r : x.rep (G objs φ seen w) a) (ri : ix.rep (G objs φ seen w) ai) :
    ∃ v, (Instr.indexAt t a ai).run P w = .ok v w ∧ e.wr = [] ∧ e.val.rep (G objs φ seen w) v := by
  unfold indexAddrK at h
  split at h
  · rename_i ki i
    simp only [SV.rep] at ri
    subst ri
    split at h
    · rename_i u hh win hk
      split at h
      · rename_i ro k l k' ho hek
        split at h
        · rename_i hkk
          subst hkk
          split at h
          · rename_i hb
            simp only [Option.some.injEq] at h
            subst h
            obtain ⟨hs, _, hp⟩ := r
            simp only [Ctx.slOk, ho] at hp
            obtain ⟨hok, A, cap, rfl, hlc, hcm, hcap⟩ := hp
            rw [view_length] at hb
            have hlt : i.toNat < win.len l.length := by omega
            have hle := len_le win l.length hok
            obtain ⟨b, o, hφ, rfl, _⟩ := hcap.resolve_left (by omega)
            have hu := ty_ek hT hek
            have hsz := ek_size hu hek
            refine ⟨.pointer (some ⟨b, o + (win.idx i.toNat) * k.sz + 0, none⟩), ?_, rfl, hs, ⟨_, rfl⟩, ?_⟩
            · have hlen : 0 ≤ i ∧ i < ((win.len l.length : Nat) : Int) := hb
              simp only [Instr.indexAt, Sem.run_bind, asIntOf_int, Result.andThen_ok, run_underlying (ty_slice hT hk), Sem.run_pure, Bool.and_false, hlen, and_self, if_true, sizeOf_ty hu, hsz, add_spot]
              rw [win_idx win _ _ hlt, Nat.add_mul]
              simp [Nat.add_assoc]
            · simp only [Ctx.pelOk, ho]
              rw [win_idx win _ _ hlt]
              exact ⟨by omega, b, o, hφ, rfl⟩
          · simp at h
        · simp at h
      · simp at h
    · rename_i n u hh i0 hk
      split at h
      · rename_i ro cs hkn ho
        split at h
        · rename_i hb
          simp only [Option.some.injEq] at h
          subst h
          obtain ⟨hs, _, hp⟩ := r
          simp only [Ctx.ptrOk, ho] at hp
          obtain ⟨b, o, hφ, rfl⟩ := hp
          obtain ⟨h0, h1, h2⟩ := hb
          have hn : ¬ n ≤ 1 := by omega
          refine ⟨.pointer (some ⟨b, o + (i0 + i.toNat * (ty u).size), none⟩), ?_, rfl, hs, ⟨_, rfl⟩, ?_⟩
          · simp only [Instr.indexAt, Sem.run_bind, asIntOf_int, Result.andThen_ok, run_underlying (ty_arr hT hk), Sem.run_pure, Instr.sureAddr, hn, decide_false, Bool.false_and, h0, h1, and_self, if_true, sizeOf_ty (ty_known hT hkn), add_spot, Nat.add_assoc]
          · simp only [Ctx.ptrOk, ho]
            exact ⟨b, o, hφ, rfl⟩
        · simp at h
      · simp at h
    · rename_i n u hh i0 j hk
      split at h
      · rename_i ro k l hkn ho
        split at h
        · rename_i hc
          simp only [Bool.and_eq_true] at hc
          obtain ⟨hc1, hc2⟩ := hc
          have hc1 := Nat.eq_of_beq_eq_true hc1
          have hc2 := Nat.le_of_ble_eq_true hc2
          split at h
          · rename_i hb
            simp only [Option.some.injEq] at h
            subst h
            obtain ⟨hs, _, hp⟩ := r
            simp only [Ctx.pelOk, ho] at hp
            obtain ⟨hi, b, o, hφ, rfl⟩ := hp
            have hn : ¬ n ≤ 1 := by omega
            refine ⟨.pointer (some ⟨b, o + i0 * k.sz + (j + i.toNat), none⟩), ?_, rfl, hs, ⟨_, rfl⟩, ?_⟩
            · simp only [Instr.indexAt, Sem.run_bind, asIntOf_int, Result.andThen_ok, run_underlying (ty_arr hT hk), Sem.run_pure, Instr.sureAddr, hn, decide_false, Bool.false_and, hb.1, hb.2, and_self, if_true, sizeOf_ty (ty_known hT hkn), hc1, Nat.mul_one, add_spot, Nat.add_assoc]
            · simp only [Ctx.pelOk, ho]
              exact ⟨hi, b, o, hφ, rfl⟩
          · simp at h
        · simp at h
      · rename_i ro m l hkn ho
        split at h
        · rename_i hc
          simp only [Bool.and_eq_true] at hc
          obtain ⟨hc1, hc2⟩ := hc
          have hc1 := Nat.eq_of_beq_eq_true hc1
          have hc2 := Nat.le_of_ble_eq_true hc2
          subst hc1
          split at h
          · rename_i hb
            simp only [Option.some.injEq] at h
            subst h
            obtain ⟨hs, _, hp⟩ := r
            simp only [Ctx.pelOk, ho] at hp
            obtain ⟨hi, b, o, hφ, rfl⟩ := hp
            have hn : ¬ n ≤ 1 := by omega
            obtain ⟨h0, h1, h2⟩ := hb
            refine ⟨.pointer (some ⟨b, o + (i0 + i.toNat * (ty u).size) + 0, none⟩), ?_, rfl, hs, ⟨_, rfl⟩, ?_⟩
            · simp only [Instr.indexAt, Sem.run_bind, asIntOf_int, Result.andThen_ok, run_underlying (ty_arr hT hk), Sem.run_pure, Instr.sureAddr, hn, decide_false, Bool.false_and, h0, h1, and_self, if_true, sizeOf_ty (ty_known hT hkn), add_spot, Nat.add_zero, Nat.add_assoc]
            · simp only [Ctx.pelOk, ho]
              exact ⟨h2, b, o, hφ, rfl⟩
          · simp at h
        · simp at h
      · simp at h
    · simp at h
  · simp at h

end
end Go.Fx
