/- The reflective executor, part 9: slices of slices, and what makes memory. -/
import Derived.Test.YtkledlpiilcagaaFw8
import Derived.Laws.MakeOwn
import Derived.Laws.Slices
import Derived.Laws.Small
set_option linter.unusedVariables false
set_option linter.unusedSimpArgs false
set_option autoImplicit false
namespace Go.Fx
open Go
section
variable {P : Program} {w0 : World} {W0 : Nat → Prop} {objs : Nat → Option AO} {φ : Nat → Option (Nat × Nat)} {seen : Nat → Bool} {w : World} {ty : Ty}

theorem elem_of {t e : TypeId} (h : P.underlying t = some (.slice e)) : P.elem t = e := by simp [Program.elem, h]

theorem slOk_re {Γ : Ctx} {h : Nat} {win win' : Win} {ro : Bool} {e : EK} {l : List e.den} {A : Option Addr} {n cap lo m : Nat} (ho : Γ.objs h = some ⟨ro, .row e l⟩)
    (hs : Γ.slOk h win (.slice A n cap)) (hm : lo + m ≤ n) (hok : win'.ok l.length) (hoff : win'.off = win.off + lo) (hlen : win'.len l.length = m) :
    Γ.slOk h win' (.slice (if cap = lo then A else A.map (·.add (lo * e.sz))) m (cap - lo)) := by
  simp only [Ctx.slOk, ho] at hs ⊢
  obtain ⟨_, A', cap', he, hlc, hcm, hc⟩ := hs
  cases he
  refine ⟨hok, _, cap - lo, by rw [hlen], by omega, by omega, ?_⟩
  by_cases hz : cap = lo
  · left; omega
  · right
    rw [if_neg hz]
    obtain ⟨b, o, hφ, rfl, hb⟩ := hc.resolve_left (by omega)
    refine ⟨b, o, hφ, ?_, fun hr => ?_⟩
    · simp only [Option.map_some, add_spot, hoff, Nat.add_mul, Nat.add_assoc]
    · have := hb hr
      have e1 : win'.off + (cap - lo) = win.off + cap := by omega
      rw [e1]; exact this

theorem from_ok (win : Win) (n lo : Nat) (hok : win.ok n) (h : lo ≤ win.len n) : (win.from lo).ok n ∧ (win.from lo).off = win.off + lo ∧ (win.from lo).len n = win.len n - lo := by
  cases win <;> simp [Win.from, Win.ok, Win.off, Win.len] at * <;> omega
theorem upTo_ok (win : Win) (n k : Nat) (hok : win.ok n) (h : k ≤ win.len n) : (win.upTo k).ok n ∧ (win.upTo k).off = win.off + 0 ∧ (win.upTo k).len n = k := by
  cases win <;> simp [Win.upTo, Win.ok, Win.off, Win.len] at * <;> omega
theorem fromTo_ok (win : Win) (n lo k : Nat) (hok : win.ok n) (h : lo + k ≤ win.len n) : (win.fromTo lo k).ok n ∧ (win.fromTo lo k).off = win.off + lo ∧ (win.fromTo lo k).len n = k := by
  cases win <;> simp [Win.fromTo, Win.ok, Win.off, Win.len] at * <;> omega

theorem sliceO_ok (hT : TyOk P ty) {t : Nat} {x : SV} {lo hi mx : Option SV} {a : Value} {vlo vhi vmx : Option Value} {e : Eff} (h : sliceO ty t x lo hi mx objs some = some e)
    (r : x.rep (G objs φ seen w) a) (rl : ∀ c, lo = some c → ∃ v, vlo = some v ∧ c.rep (G objs φ seen w) v) (rl0 : lo = none → vlo = none)
    (rh : ∀ c, hi = some c → ∃ v, vhi = some v ∧ c.rep (G objs φ seen w) v) (rh0 : hi = none → vhi = none) (rm0 : mx = none → vmx = none) :
    ∃ v, (Instr.sliceAt t a vlo vhi vmx).run P w = .ok v w ∧ e.wr = [] ∧ e.val.rep (G objs φ seen w) v := by
  unfold sliceO at h
  split at h
  · rename_i u hh win hk
    have hmx := rm0 rfl
    subst hmx
    split at h
    · rename_i ro k l k' ho hek
      split at h
      · rename_i hkk
        subst hkk
        have ht := ty_slice hT hk
        have he := elem_of ht
        have hu := ty_ek hT hek
        have hsz := ek_size hu hek
        have hte : P.underlying t = some (.slice (P.elem t)) := by rw [he]; exact ht
        obtain ⟨hs, ⟨A0, n0, c0, rfl⟩, hp⟩ := r
        have hp0 := hp
        simp only [Ctx.slOk, ho] at hp0
        obtain ⟨hok, A, cap, hv, hlc, hcm, _⟩ := hp0
        cases hv
        rw [run_sliceAt_slice w t _ _ _ _ hte]
        split at h
        · simp only [Option.some.injEq] at h
          subst h
          have h1 := rl0 rfl
          have h2 := rh0 rfl
          subst h1 h2
          refine ⟨_, by rw [run_slice_all w t _ _ _ hte, he, sizeOf_ty hu]; rfl, rfl, hs, ⟨_, _, _, rfl⟩, ?_⟩
          have := slOk_re (win' := win) (lo := 0) (m := win.len l.length) ho hp (by omega) hok (by simp) rfl
          rw [hsz]
          simpa [sliced] using this
        · rename_i q a
          split at h
          · rename_i hb
            simp only [Option.some.injEq] at h
            subst h
            obtain ⟨v1, rfl, h1⟩ := rl _ rfl
            simp only [SV.rep] at h1
            subst h1
            have h2 := rh0 rfl
            subst h2
            rw [view_length] at hb
            have hfo := from_ok win l.length a.toNat hok (by omega)
            refine ⟨_, by rw [run_slice_l w t _ _ _ hte _ a hb.1 hb.2, he, sizeOf_ty hu]; rfl, rfl, hs, ⟨_, _, _, rfl⟩, ?_⟩
            have := slOk_re (win' := win.from a.toNat) (lo := a.toNat) (m := win.len l.length - a.toNat) ho hp (by omega) hfo.1 hfo.2.1 hfo.2.2
            rw [hsz]
            exact this
          · simp at h
        · rename_i q b
          split at h
          · rename_i hb
            simp only [Option.some.injEq] at h
            subst h
            obtain ⟨v1, rfl, h1⟩ := rh _ rfl
            simp only [SV.rep] at h1
            subst h1
            have h2 := rl0 rfl
            subst h2
            rw [view_length] at hb
            have hfo := upTo_ok win l.length b.toNat hok (by omega)
            refine ⟨_, by rw [run_slice_h w t _ _ _ hte _ b hb.1 (by omega), he, sizeOf_ty hu]; rfl, rfl, hs, ⟨_, _, _, rfl⟩, ?_⟩
            have := slOk_re (win' := win.upTo b.toNat) (lo := 0) (m := b.toNat) ho hp (by omega) hfo.1 hfo.2.1 hfo.2.2
            rw [hsz]
            simpa [sliced] using this
          · simp at h
        · rename_i q a q2 b
          split at h
          · rename_i hb
            simp only [Option.some.injEq] at h
            subst h
            obtain ⟨v1, rfl, h1⟩ := rl _ rfl
            simp only [SV.rep] at h1
            subst h1
            obtain ⟨v2, rfl, h2⟩ := rh _ rfl
            simp only [SV.rep] at h2
            subst h2
            rw [view_length] at hb
            have hfo := fromTo_ok win l.length a.toNat (b.toNat - a.toNat) hok (by omega)
            refine ⟨_, by rw [run_slice_lh w t _ _ _ hte _ _ a b hb.1 hb.2.1 (by omega), he, sizeOf_ty hu]; rfl, rfl, hs, ⟨_, _, _, rfl⟩, ?_⟩
            have := slOk_re (win' := win.fromTo a.toNat (b.toNat - a.toNat)) (lo := a.toNat) (m := b.toNat - a.toNat) ho hp (by omega) hfo.1 hfo.2.1 hfo.2.2
            rw [hsz]
            exact this
          · simp at h
        · simp at h
      · simp at h
    · simp at h
  · rename_i s hk
    have hmx := rm0 rfl
    subst hmx
    have ht := ty_str hT hk
    simp only [SV.rep] at r
    subst r
    rw [run_sliceAt_string w t _ _ _ _ ht]
    split at h
    · rename_i q a
      split at h
      · rename_i hb
        simp only [Option.some.injEq] at h
        subst h
        obtain ⟨v1, rfl, h1⟩ := rl _ rfl
        simp only [SV.rep] at h1
        subst h1
        have h2 := rh0 rfl
        subst h2
        exact ⟨_, run_slice_string_l w t s ht _ a hb.1 hb.2, rfl, rfl⟩
      · simp at h
    · rename_i q b
      split at h
      · rename_i hb
        simp only [Option.some.injEq] at h
        subst h
        obtain ⟨v1, rfl, h1⟩ := rh _ rfl
        simp only [SV.rep] at h1
        subst h1
        have h2 := rl0 rfl
        subst h2
        exact ⟨_, run_slice_string_h w t s ht _ b hb.1 hb.2, rfl, rfl⟩
      · simp at h
    · rename_i q a q2 b
      split at h
      · rename_i hb
        simp only [Option.some.injEq] at h
        subst h
        obtain ⟨v1, rfl, h1⟩ := rl _ rfl
        simp only [SV.rep] at h1
        subst h1
        obtain ⟨v2, rfl, h2⟩ := rh _ rfl
        simp only [SV.rep] at h2
        subst h2
        refine ⟨_, ?_, rfl, rfl⟩
        have e1 : (b.toNat : Int) = b := Int.toNat_of_nonneg (by omega)
        simp [Instr.slice, run_underlying ht, Instr.sliceBounds, run_sliceBound, hb.1, hb.2.1, hb.2.2, (by omega : 0 ≤ b), e1]
      · simp at h
    · simp at h
  · simp at h

/-- A part that begins where there is still room: beyond the slice's end too. -/
theorem slOk_room {Γ : Ctx} {h : Nat} {win win' : Win} {ro : Bool} {e : EK} {l : List e.den} {A : Option Addr} {n cap lo m : Nat} (ho : Γ.objs h = some ⟨ro, .row e l⟩)
    (hs : Γ.slOk h win (.slice A n cap)) (hm : lo + m ≤ cap) (hok : win'.ok l.length) (hoff : win'.off = win.off + lo) (hlen : win'.len l.length = m) :
    Γ.slOk h win' (.slice (if cap = lo then A else A.map (·.add (lo * e.sz))) m (cap - lo)) := by
  simp only [Ctx.slOk, ho] at hs ⊢
  obtain ⟨_, A', cap', he, hlc, hcm, hc⟩ := hs
  cases he
  refine ⟨hok, _, cap - lo, by rw [hlen], by omega, by omega, ?_⟩
  by_cases hz : cap = lo
  · left; omega
  · right
    rw [if_neg hz]
    obtain ⟨b, o, hφ, rfl, hb⟩ := hc.resolve_left (by omega)
    refine ⟨b, o, hφ, ?_, fun hr => ?_⟩
    · simp only [Option.map_some, add_spot, hoff, Nat.add_mul, Nat.add_assoc]
    · have := hb hr
      have e1 : win'.off + (cap - lo) = win.off + cap := by omega
      rw [e1]; exact this

theorem sliceB_ok (hT : TyOk P ty) {t : Nat} {x : SV} {lo hi : Option SV} {a : Value} {vlo vhi : Option Value} {e : Eff} (h : sliceB ty t x lo hi objs some = some e)
    (r : x.rep (G objs φ seen w) a) (rl : ∀ c, lo = some c → ∃ v, vlo = some v ∧ c.rep (G objs φ seen w) v) (rh : ∀ c, hi = some c → ∃ v, vhi = some v ∧ c.rep (G objs φ seen w) v) :
    ∃ v, (Instr.sliceAt t a vlo vhi none).run P w = .ok v w ∧ e.wr = [] ∧ e.val.rep (G objs φ seen w) v := by
  unfold sliceB at h
  split at h
  · rename_i u hh kk q a1 q2 b1 hk
    split at h
    · rename_i ro k l k' ho hek
      split at h
      · rename_i hkk
        subst hkk
        split at h
        · rename_i hb
          simp only [Option.some.injEq] at h
          subst h
          have ht := ty_slice hT hk
          have he := elem_of ht
          have hu := ty_ek hT hek
          have hsz := ek_size hu hek
          have hte : P.underlying t = some (.slice (P.elem t)) := by rw [he]; exact ht
          obtain ⟨hs, ⟨A0, n0, c0, rfl⟩, hp⟩ := r
          have hp0 := hp
          simp only [Ctx.slOk, ho] at hp0
          obtain ⟨hok, A, cap, hv, hlc, hcm, _⟩ := hp0
          have hroom : l.length ≤ cap := by
            have := hlc.2
            simpa [Win.off] using this
          cases hv
          rw [run_sliceAt_slice w t _ _ _ _ hte]
          obtain ⟨v1, rfl, h1⟩ := rl _ rfl
          simp only [SV.rep] at h1
          subst h1
          obtain ⟨v2, rfl, h2⟩ := rh _ rfl
          simp only [SV.rep] at h2
          subst h2
          refine ⟨_, by rw [run_slice_lh w t _ _ _ hte _ _ a1 b1 hb.1 hb.2.1 (by omega), he, sizeOf_ty hu]; rfl, rfl, hs, ⟨_, _, _, rfl⟩, ?_⟩
          have := slOk_room (win' := .sub a1.toNat (b1.toNat - a1.toNat)) (lo := a1.toNat) (m := b1.toNat - a1.toNat) ho hp (by omega) (by simp only [Win.ok]; omega) (by simp [Win.off]) (by simp only [Win.len]; omega)
          rw [hsz]
          exact this
        · simp at h
      · simp at h
    · simp at h
  · simp at h

theorem sliceM_ok (hT : TyOk P ty) {t : Nat} {x : SV} {lo hi mx : Option SV} {a : Value} {vlo vhi vmx : Option Value} {e : Eff} (h : sliceM ty t x lo hi mx objs some = some e)
    (r : x.rep (G objs φ seen w) a) (rl : ∀ c, lo = some c → ∃ v, vlo = some v ∧ c.rep (G objs φ seen w) v) (rh : ∀ c, hi = some c → ∃ v, vhi = some v ∧ c.rep (G objs φ seen w) v)
    (rm : ∀ c, mx = some c → ∃ v, vmx = some v ∧ c.rep (G objs φ seen w) v) :
    ∃ v, (Instr.sliceAt t a vlo vhi vmx).run P w = .ok v w ∧ e.wr = [] ∧ e.val.rep (G objs φ seen w) v := by
  unfold sliceM at h
  split at h
  · rename_i u hh win q a1 q2 b1 q3 m1 hk
    split at h
    · rename_i ro k l k' ho hek
      split at h
      · rename_i hkk
        subst hkk
        split at h
        · rename_i hb
          simp only [Option.some.injEq] at h
          subst h
          have ht := ty_slice hT hk
          have he := elem_of ht
          have hu := ty_ek hT hek
          have hte : P.underlying t = some (.slice (P.elem t)) := by rw [he]; exact ht
          obtain ⟨hs, ⟨A0, n0, c0, rfl⟩, hp⟩ := r
          simp only [Ctx.slOk, ho] at hp
          obtain ⟨hok, A, cap, hv, hlc, hcm, _⟩ := hp
          cases hv
          rw [view_length] at hb
          rw [run_sliceAt_slice w t _ _ _ _ hte]
          obtain ⟨v1, rfl, h1⟩ := rl _ rfl
          simp only [SV.rep] at h1
          subst h1
          obtain ⟨v2, rfl, h2⟩ := rh _ rfl
          simp only [SV.rep] at h2
          subst h2
          obtain ⟨v3, rfl, h3⟩ := rm _ rfl
          simp only [SV.rep] at h3
          subst h3
          exact ⟨_, by rw [run_slice_lhm w t _ _ _ hte _ _ _ a1 b1 m1 hb.1 hb.2.1 hb.2.2.1 (by omega), he, sizeOf_ty hu]; rfl, rfl, trivial⟩
        · simp at h
      · simp at h
    · simp at h
  · simp at h

theorem slice_ok (hT : TyOk P ty) {t : Nat} {x : SV} {lo hi mx : Option SV} {a : Value} {vlo vhi vmx : Option Value} {e : Eff} (h : sliceK ty t x lo hi mx objs some = some e)
    (r : x.rep (G objs φ seen w) a) (rl : ∀ c, lo = some c → ∃ v, vlo = some v ∧ c.rep (G objs φ seen w) v) (rl0 : lo = none → vlo = none)
    (rh : ∀ c, hi = some c → ∃ v, vhi = some v ∧ c.rep (G objs φ seen w) v) (rh0 : hi = none → vhi = none) (rm : ∀ c, mx = some c → ∃ v, vmx = some v ∧ c.rep (G objs φ seen w) v) (rm0 : mx = none → vmx = none) :
    ∃ v, (Instr.sliceAt t a vlo vhi vmx).run P w = .ok v w ∧ e.wr = [] ∧ e.val.rep (G objs φ seen w) v := by
  unfold sliceK at h
  split at h
  · exact sliceM_ok hT h r rl rh rm
  · split at h
    · have := rm0 rfl
      subst this
      exact sliceB_ok hT h r rl rh
    · exact sliceO_ok hT h r rl rl0 rh rh0 rm0

/-! ### New memory -/
theorem alloc_does (hT : TyOk P ty) (H : Heap w0 W0 (G objs φ seen w) w) {t d : Nat} (hs : seen (nm d 0) = false) (hk : (ty t).known = true) (hbig : (ty t).big = false) :
    Does P w0 W0 objs φ seen w ⟨.ptr (nm d 0) 0, [(nm d 0, some ⟨false, .cells (ty t).zero⟩)], []⟩ (do pure (.value (← Instr.alloc t true (.tuple #[]))) : Sem Next) := by
  obtain ⟨dd, i, z, _, hi, _, hsz, _, hz, hz1, _⟩ := (ty_known hT hk).ok
  obtain ⟨hr, hone, hlen⟩ := zeroOk_rep (Γ := G objs φ seen w) (hz1 hbig)
  have hF := H.fresh (nm d 0) hs ⟨false, .cells (ty t).zero⟩ z.cells t (fun Γ' hle hp ho => ⟨_, _, hp, z.cells.toList, SV.repL_le hle _ _ hr, hone, fun k v hv => by
    rw [Nat.zero_add, World.cell?_alloc_new]; simpa using hv, fun _ => ⟨t, rfl, by rw [Array.toArray_toList]; exact alloc_get w _⟩⟩)
  refine ⟨_, .pointer (some ⟨w.heap.size, 0, none⟩), w.alloc (.cells z.cells t), upd φ (nm d 0) (some (w.heap.size, 0)), ?_, .inl rfl, ?_, hF.1, hF.2⟩
  · simp [Instr.alloc, zeroValue, typeInfo, hi, hz, newVar, newRow]
  · refine ⟨upd_same _ _ _, ⟨_, rfl⟩, ?_⟩
    simp only [Ctx.ptrOk, wrObjs, upd_same]
    exact ⟨_, _, rfl, rfl⟩

theorem zeroOk_zeros : ∀ {n : Nat} {vs : List Value}, zeroOk (List.replicate n (.int .i64 0)) vs = true → vs = List.replicate n (.int .i64 0)
  | 0, [], _ => rfl
  | 0, v :: vs, h => by simp [zeroOk] at h
  | n + 1, [], h => by simp [zeroOk, List.replicate_succ] at h
  | n + 1, v :: vs, h => by
    simp only [List.replicate_succ, zeroOk, Bool.and_eq_true, conc] at h
    rw [List.replicate_succ, ← zeroOk_zeros h.2, sameV_eq h.1]

theorem oRep_arr {Γ : Ctx} {w : World} {h b n : Nat} {l : List Int} {T : Nat} (hn : l.length = n) (hp : Γ.φ h = some (b, 0)) (hw : w.heap[b]? = some (.cells (l.map (Value.int .i64)).toArray T (0, 0))) : oRep Γ w h ⟨false, .arr n l⟩ := by
  refine ⟨hn, b, 0, hp, fun i x hx => ?_, fun _ => ⟨T, rfl, hw⟩⟩
  simp [World.cell?, hw, hx]

theorem allocBig_does (hT : TyOk P ty) (H : Heap w0 W0 (G objs φ seen w) w) {t d : Nat} (hs : seen (nm d 0) = false) (hk : (ty t).known = true) (hbig : (ty t).big = true) (hpos : 0 < (ty t).size) :
    Does P w0 W0 objs φ seen w ⟨.pel (nm d 0) 0 0, [(nm d 0, some ⟨false, .arr (ty t).size (List.replicate (ty t).size 0)⟩)], []⟩ (do pure (.value (← Instr.alloc t true (.tuple #[]))) : Sem Next) := by
  obtain ⟨dd, i, z, _, hi, _, hsz, _, hz, _, hz2, _⟩ := (ty_known hT hk).ok
  have hzz := zeroOk_zeros (hz2 hbig).1
  have hza : z.cells = ((List.replicate (ty t).size (0 : Int)).map (Value.int .i64)).toArray := by
    apply Array.ext'
    rw [hzz]
    simp
  have hF := H.fresh (nm d 0) hs ⟨false, .arr (ty t).size (List.replicate (ty t).size 0)⟩ z.cells t (fun Γ' hle hp ho => oRep_arr (by simp) hp (by rw [← hza]; exact alloc_get w _))
  refine ⟨_, .pointer (some ⟨w.heap.size, 0, none⟩), w.alloc (.cells z.cells t), upd φ (nm d 0) (some (w.heap.size, 0)), ?_, .inl rfl, ?_, hF.1, hF.2⟩
  · simp [Instr.alloc, zeroValue, typeInfo, hi, hz, newVar, newRow]
  · refine ⟨upd_same _ _ _, ⟨_, rfl⟩, ?_⟩
    simp only [Ctx.pelOk, wrObjs, upd_same]
    exact ⟨hpos, _, _, rfl, rfl⟩

theorem box_does (H : Heap w0 W0 (G objs φ seen w) w) {t d : Nat} {c : SV} {a : Value} (hs : seen (nm d 0) = false) (hc : (svCells c).all SV.cellable = true) (r : c.rep (G objs φ seen w) a) :
    Does P w0 W0 objs φ seen w ⟨.ptr (nm d 0) 0, [(nm d 0, some ⟨false, .cells (svCells c)⟩)], []⟩ (do pure (.value (← Instr.box t a)) : Sem Next) := by
  obtain ⟨hr, hone⟩ := svCells_rep hc r
  have hF := H.fresh (nm d 0) hs ⟨false, .cells (svCells c)⟩ a.cells t (fun Γ' hle hp ho => ⟨_, _, hp, a.cells.toList, SV.repL_le hle _ _ hr, hone, fun k v hv => by
    rw [Nat.zero_add, World.cell?_alloc_new]; simpa using hv, fun _ => ⟨t, rfl, by rw [Array.toArray_toList]; exact alloc_get w _⟩⟩)
  refine ⟨_, .pointer (some ⟨w.heap.size, 0, none⟩), w.alloc (.cells a.cells t), upd φ (nm d 0) (some (w.heap.size, 0)), ?_, .inl rfl, ?_, hF.1, hF.2⟩
  · simp [Instr.box, newVar, newRow]
  · refine ⟨upd_same _ _ _, ⟨_, rfl⟩, ?_⟩
    simp only [Ctx.ptrOk, wrObjs, upd_same]
    exact ⟨_, _, rfl, rfl⟩

theorem boxBig_does (H : Heap w0 W0 (G objs φ seen w) w) {t d n : Nat} {l : List Int} {a : Value} (hs : seen (nm d 0) = false) (hpos : 0 < n) (r : (SV.ints n l).rep (G objs φ seen w) a) :
    Does P w0 W0 objs φ seen w ⟨.pel (nm d 0) 0 0, [(nm d 0, some ⟨false, .arr n l⟩)], []⟩ (do pure (.value (← Instr.box t a)) : Sem Next) := by
  obtain ⟨hn, rfl⟩ := r
  have hF := H.fresh (nm d 0) hs ⟨false, .arr n l⟩ (l.map (Value.int .i64)).toArray t (fun Γ' hle hp ho => oRep_arr hn hp (alloc_get w _))
  refine ⟨_, .pointer (some ⟨w.heap.size, 0, none⟩), w.alloc (.cells (l.map (Value.int .i64)).toArray t), upd φ (nm d 0) (some (w.heap.size, 0)), ?_, .inl rfl, ?_, hF.1, hF.2⟩
  · simp [Instr.box, newVar, newRow, Value.cells]
  · refine ⟨upd_same _ _ _, ⟨_, rfl⟩, ?_⟩
    simp only [Ctx.pelOk, wrObjs, upd_same]
    exact ⟨hpos, _, _, rfl, rfl⟩

/-- A new row. -/
theorem row_new (H : Heap w0 W0 (G objs φ seen w) w) {m n cap : Nat} {T : Nat} {e : EK} {l : List e.den} {cur : Array Value} (hs : seen m = false)
    (hn : n = l.length) (hc1 : n ≤ cap) (hc2 : cap ≤ maxLen) (hc3 : cap * e.sz ≤ cur.size) (hcur : ∀ (i : Nat) (v : Value), (encAll e l)[i]? = some v → cur[i]? = some v) :
    (SV.sl m .all).rep (G (upd objs m (some ⟨false, .row e l⟩)) (upd φ m (some (w.heap.size, 0))) (upd seen m true) (w.alloc (.cells cur T))) (.slice (some ⟨w.heap.size, 0, none⟩) n cap) ∧
    Heap w0 W0 (G (upd objs m (some ⟨false, .row e l⟩)) (upd φ m (some (w.heap.size, 0))) (upd seen m true) (w.alloc (.cells cur T))) (w.alloc (.cells cur T)) ∧
    (G objs φ seen w).le (G (upd objs m (some ⟨false, .row e l⟩)) (upd φ m (some (w.heap.size, 0))) (upd seen m true) (w.alloc (.cells cur T))) := by
  subst hn
  have hmul : l.length * e.sz ≤ cap * e.sz := Nat.mul_le_mul_right _ hc1
  have hF := H.fresh m hs ⟨false, .row e l⟩ cur T (fun Γ' hle hp ho => .inr ⟨_, _, hp, fun i v hv => by
    rw [Nat.zero_add, World.cell?_alloc_new]; exact hcur i v hv, fun _ => ⟨cur, T, alloc_get w _, by omega⟩⟩)
  refine ⟨?_, hF.1, hF.2⟩
  refine ⟨upd_same _ _ _, ⟨_, _, _, rfl⟩, ?_⟩
  simp only [Ctx.slOk, upd_same]
  refine ⟨trivial, _, cap, rfl, ⟨hc1, by simpa [Win.off] using hc1⟩, hc2, .inr ⟨_, _, rfl, by simp [Win.off], fun _ => ?_⟩⟩
  have : bsOf (w.alloc (.cells cur T)) w.heap.size = cur.size := by unfold bsOf; rw [alloc_get]
  rw [this]
  simpa [Win.off] using hc3
theorem row_does (H : Heap w0 W0 (G objs φ seen w) w) {d n cap : Nat} {T : Nat} {e : EK} {l : List e.den} {cur : Array Value} {s : Sem Next} (hs : seen (nm d 0) = false)
    (hn : n = l.length) (hc1 : n ≤ cap) (hc2 : cap ≤ maxLen) (hc3 : cap * e.sz ≤ cur.size) (hcur : ∀ (i : Nat) (v : Value), (encAll e l)[i]? = some v → cur[i]? = some v)
    (hrun : s.run P w = .ok (.value (.slice (some ⟨w.heap.size, 0, none⟩) n cap)) (w.alloc (.cells cur T))) :
    Does P w0 W0 objs φ seen w ⟨.sl (nm d 0) .all, [(nm d 0, some ⟨false, .row e l⟩)], []⟩ s := by
  obtain ⟨h1, h2, h3⟩ := row_new H (T := T) hs hn hc1 hc2 hc3 hcur
  exact ⟨_, _, _, _, hrun, .inl rfl, h1, h2, h3⟩

end
end Go.Fx
