/- The reflective executor: slices, memory that is made, appends; every operation. -/
import Derived.Test.YtdejcakkibabcaaGwA
import Derived.Laws.MakeOwn
import Derived.Laws.Slices
import Derived.Laws.Small
import Derived.MapKept
import Derived.Laws.BytesString
import Derived.Lib.ConvBytes
noncomputable section
set_option linter.unusedVariables false
set_option linter.unusedSimpArgs false
set_option autoImplicit false
namespace Go.Fx
open Go
section
variable {P : Program} {w0 : World} {W0 : Nat → Option (Option EK) → Prop} {objs : Nat → Option AO} {φ : Nat → Option (Nat × Nat)} {seen : Nat → Bool} {w : World} {ty : Ty}

theorem elem_of {t e : TypeId} (h : P.underlying t = some (.slice e)) : P.elem t = e := by simp [Program.elem, h]

theorem slOk_re {Γ : Ctx} {h : Nat} {win win' : Win} {ro : Bool} {e : EK} {l : List e.den} {A : Option Addr} {n cap lo m : Nat} (ho : Γ.objs h = some ⟨ro, .row e l⟩)
    (hs : Γ.slOk h win (.slice A n cap)) (hm : lo + m ≤ n) (hok : win'.ok l.length) (hoff : win'.off = win.off + lo) (hlen : win'.len l.length = m) :
    Γ.slOk h win' (.slice (if cap = lo then A else A.map (·.add (lo * e.sz))) m (cap - lo)) := by
  simp only [Ctx.slOk, ho] at hs ⊢
  obtain ⟨_, A', cap', he, hlc, hcm, hc⟩ := hs
  cases he
  refine ⟨hok, _, cap - lo, by rw [hlen], by omega, by omega, ?_⟩
  by_cases hz : cap = lo
  · left; omega
  · right
    rw [if_neg hz]
    obtain ⟨b, o, hφ, rfl, hb⟩ := hc.resolve_left (by omega)
    refine ⟨b, o, hφ, ?_, fun hr => ?_⟩
    · simp only [Option.map_some, add_spot, hoff, Nat.add_mul, Nat.add_assoc]
    · have := hb hr
      have e1 : win'.off + (cap - lo) = win.off + cap := by omega
      rw [e1]; exact this

theorem from_ok (win : Win) (n lo : Nat) (hok : win.ok n) (h : lo ≤ win.len n) : (win.from lo).ok n ∧ (win.from lo).off = win.off + lo ∧ (win.from lo).len n = win.len n - lo := by
  cases win <;> simp [Win.from, Win.ok, Win.off, Win.len] at * <;> omega
theorem upTo_ok (win : Win) (n k : Nat) (hok : win.ok n) (h : k ≤ win.len n) : (win.upTo k).ok n ∧ (win.upTo k).off = win.off + 0 ∧ (win.upTo k).len n = k := by
  cases win <;> simp [Win.upTo, Win.ok, Win.off, Win.len] at * <;> omega
theorem fromTo_ok (win : Win) (n lo k : Nat) (hok : win.ok n) (h : lo + k ≤ win.len n) : (win.fromTo lo k).ok n ∧ (win.fromTo lo k).off = win.off + lo ∧ (win.fromTo lo k).len n = k := by
  cases win <;> simp [Win.fromTo, Win.ok, Win.off, Win.len] at * <;> omega

theorem sliceO_ok (hT : TyOk P ty) (H : Heap w0 W0 (G objs φ seen w) w) {t : Nat} {x : SV} {lo hi mx : Option SV} {a : Value} {vlo vhi vmx : Option Value} {e : Eff} (h : sliceO ty t x lo hi mx objs some = some e)
    (r : x.rep (G objs φ seen w) a) (rl : ∀ c, lo = some c → ∃ v, vlo = some v ∧ c.rep (G objs φ seen w) v) (rl0 : lo = none → vlo = none)
    (rh : ∀ c, hi = some c → ∃ v, vhi = some v ∧ c.rep (G objs φ seen w) v) (rh0 : hi = none → vhi = none) (rm0 : mx = none → vmx = none) :
    ∃ v, (Instr.sliceAt t a vlo vhi vmx).run P w = .ok v w ∧ e.wr = [] ∧ e.val.rep (G objs φ seen w) v := by
  unfold sliceO at h
  split at h
  · rename_i u hh win hk
    have hmx := rm0 rfl
    subst hmx
    split at h
    · rename_i ro k l k' ho hek
      split at h
      · rename_i hkk
        subst hkk
        have ht := ty_slice hT hk
        have he := elem_of ht
        have hu := ty_ek hT hek
        have hsz := ek_size hu hek
        have hte : P.underlying t = some (.slice (P.elem t)) := by rw [he]; exact ht
        obtain ⟨hs, ⟨A0, n0, c0, rfl⟩, hp⟩ := r
        have hp0 := hp
        simp only [Ctx.slOk, ho] at hp0
        obtain ⟨hok, A, cap, hv, hlc, hcm, _⟩ := hp0
        cases hv
        rw [run_sliceAt_slice w t _ _ _ _ hte]
        split at h
        · simp only [Option.some.injEq] at h
          subst h
          have h1 := rl0 rfl
          have h2 := rh0 rfl
          subst h1 h2
          refine ⟨_, by rw [run_slice_all w t _ _ _ hte, he, sizeOf_ty hu]; rfl, rfl, hs, ⟨_, _, _, rfl⟩, ?_⟩
          have := slOk_re (win' := win) (lo := 0) (m := win.len l.length) ho hp (by omega) hok (by simp) rfl
          rw [hsz]
          simpa [sliced] using this
        · rename_i q a
          split at h
          · rename_i hb
            simp only [Option.some.injEq] at h
            subst h
            obtain ⟨v1, rfl, h1⟩ := rl _ rfl
            simp only [SV.rep] at h1
            subst h1
            have h2 := rh0 rfl
            subst h2
            rw [view_length] at hb
            have hfo := from_ok win l.length a.toNat hok (by omega)
            refine ⟨_, by rw [run_slice_l w t _ _ _ hte _ a hb.1 hb.2, he, sizeOf_ty hu]; rfl, rfl, hs, ⟨_, _, _, rfl⟩, ?_⟩
            have := slOk_re (win' := win.from a.toNat) (lo := a.toNat) (m := win.len l.length - a.toNat) ho hp (by omega) hfo.1 hfo.2.1 hfo.2.2
            rw [hsz]
            exact this
          · simp at h
        · rename_i q b
          split at h
          · rename_i hb
            simp only [Option.some.injEq] at h
            subst h
            obtain ⟨v1, rfl, h1⟩ := rh _ rfl
            simp only [SV.rep] at h1
            subst h1
            have h2 := rl0 rfl
            subst h2
            rw [view_length] at hb
            have hfo := upTo_ok win l.length b.toNat hok (by omega)
            refine ⟨_, by rw [run_slice_h w t _ _ _ hte _ b hb.1 (by omega), he, sizeOf_ty hu]; rfl, rfl, hs, ⟨_, _, _, rfl⟩, ?_⟩
            have := slOk_re (win' := win.upTo b.toNat) (lo := 0) (m := b.toNat) ho hp (by omega) hfo.1 hfo.2.1 hfo.2.2
            rw [hsz]
            simpa [sliced] using this
          · simp at h
        · rename_i q a q2 b
          split at h
          · rename_i hb
            simp only [Option.some.injEq] at h
            subst h
            obtain ⟨v1, rfl, h1⟩ := rl _ rfl
            simp only [SV.rep] at h1
            subst h1
            obtain ⟨v2, rfl, h2⟩ := rh _ rfl
            simp only [SV.rep] at h2
            subst h2
            rw [view_length] at hb
            have hfo := fromTo_ok win l.length a.toNat (b.toNat - a.toNat) hok (by omega)
            refine ⟨_, by rw [run_slice_lh w t _ _ _ hte _ _ a b hb.1 hb.2.1 (by omega), he, sizeOf_ty hu]; rfl, rfl, hs, ⟨_, _, _, rfl⟩, ?_⟩
            have := slOk_re (win' := win.fromTo a.toNat (b.toNat - a.toNat)) (lo := a.toNat) (m := b.toNat - a.toNat) ho hp (by omega) hfo.1 hfo.2.1 hfo.2.2
            rw [hsz]
            exact this
          · simp at h
        · simp at h
      · simp at h
    · simp at h
  · rename_i s hk
    have hmx := rm0 rfl
    subst hmx
    have ht := ty_str hT hk
    simp only [SV.rep] at r
    subst r
    rw [run_sliceAt_string w t _ _ _ _ ht]
    split at h
    · rename_i q a
      split at h
      · rename_i hb
        simp only [Option.some.injEq] at h
        subst h
        obtain ⟨v1, rfl, h1⟩ := rl _ rfl
        simp only [SV.rep] at h1
        subst h1
        have h2 := rh0 rfl
        subst h2
        exact ⟨_, run_slice_string_l w t s ht _ a hb.1 hb.2, rfl, rfl⟩
      · simp at h
    · rename_i q b
      split at h
      · rename_i hb
        simp only [Option.some.injEq] at h
        subst h
        obtain ⟨v1, rfl, h1⟩ := rh _ rfl
        simp only [SV.rep] at h1
        subst h1
        have h2 := rl0 rfl
        subst h2
        exact ⟨_, run_slice_string_h w t s ht _ b hb.1 hb.2, rfl, rfl⟩
      · simp at h
    · rename_i q a q2 b
      split at h
      · rename_i hb
        simp only [Option.some.injEq] at h
        subst h
        obtain ⟨v1, rfl, h1⟩ := rl _ rfl
        simp only [SV.rep] at h1
        subst h1
        obtain ⟨v2, rfl, h2⟩ := rh _ rfl
        simp only [SV.rep] at h2
        subst h2
        refine ⟨_, ?_, rfl, rfl⟩
        have e1 : (b.toNat : Int) = b := Int.toNat_of_nonneg (by omega)
        simp [Instr.slice, run_underlying ht, Instr.sliceBounds, run_sliceBound, hb.1, hb.2.1, hb.2.2, (by omega : 0 ≤ b), e1]
      · simp at h
    · simp at h
  · rename_i u hk
    have hmx := rm0 rfl
    subst hmx
    split at h
    · rename_i q b hku
      split at h
      · rename_i hb
        simp only [Option.some.injEq] at h
        subst h
        subst hb
        have h1 := rl0 rfl
        subst h1
        obtain ⟨v2, rfl, h2⟩ := rh _ rfl
        simp only [SV.rep] at h2 r
        subst h2 r
        have ht := ty_slice hT hk
        have he := elem_of ht
        have hte : P.underlying t = some (.slice (P.elem t)) := by rw [he]; exact ht
        have hu : TyAt P u (ty u) := ty_known hT hku
        refine ⟨_, by rw [run_sliceAt_slice w t _ _ _ _ hte, run_slice_h w t _ _ _ hte _ 0 (by omega) (by omega), he, sizeOf_ty hu]; rfl, rfl, ?_⟩
        simp [sliced, SV.rep]
      · simp at h
    · simp at h
  · rename_i n u hh hk
    have hmx := rm0 rfl
    subst hmx
    split at h
    · rename_i ro l ho hc
      split at h
      · rename_i hl
        simp only [Option.some.injEq] at h
        subst h
        have h1 := rl0 rfl
        have h2 := rh0 rfl
        subst h1 h2
        simp only [Bool.and_eq_true] at hc
        have hu : TyAt P u (ty u) := ty_known hT hc.1.1
        have hsz := Nat.eq_of_beq_eq_true hc.1.2
        have hn := Nat.le_of_ble_eq_true hc.2
        have ht := ty_arr hT hk
        obtain ⟨hs, _, hp⟩ := r
        simp only [Ctx.pelOk, ho] at hp
        obtain ⟨hi, b, o, hφ, rfl⟩ := hp
        have hφ' : φ hh = some (b, o) := hφ
        have e0 : o + 0 * (EK.int .i64).sz + 0 = o := by simp [EK.sz]
        rw [e0]
        refine ⟨.slice (some ⟨b, o, none⟩) n n, ?_, rfl, hs, ⟨_, _, _, rfl⟩, ?_⟩
        · simp [Instr.sliceAt, run_underlying ht, Instr.sureAddr, Instr.sliceBounds, sizeOf_ty hu, add_spot]
        · simp only [Ctx.slOk, ho]
          refine ⟨trivial, some ⟨b, o, none⟩, n, by simp [Win.len, hl], by simp [Win.len, Win.off]; omega, by unfold maxLen; omega, .inr ⟨b, o, hφ, by simp [Win.off], fun hr => ?_⟩⟩
          rcases H.obj hh _ ho with ⟨hn', _⟩ | ⟨b', o', hp', hc', hw⟩
          · have : φ hh = none := hn'
            rw [hφ'] at this
            cases this
          · have hp2 : φ hh = some (b', o') := hp'
            rw [hφ'] at hp2
            cases hp2
            obtain ⟨cur, T, hcur, hfit⟩ := hw hr
            have : bsOf w b = cur.size := by unfold bsOf; rw [hcur]
            show o + (0 + n) * 1 ≤ bsOf w b
            rw [this]
            have hfit' : o + l.length * 1 ≤ cur.size := hfit
            omega
      · simp at h
    · simp at h
  · simp at h

/-- A part that begins where there is still room: beyond the slice's end too. -/
theorem slOk_room {Γ : Ctx} {h : Nat} {win win' : Win} {ro : Bool} {e : EK} {l : List e.den} {A : Option Addr} {n cap lo m : Nat} (ho : Γ.objs h = some ⟨ro, .row e l⟩)
    (hs : Γ.slOk h win (.slice A n cap)) (hm : lo + m ≤ cap) (hok : win'.ok l.length) (hoff : win'.off = win.off + lo) (hlen : win'.len l.length = m) :
    Γ.slOk h win' (.slice (if cap = lo then A else A.map (·.add (lo * e.sz))) m (cap - lo)) := by
  simp only [Ctx.slOk, ho] at hs ⊢
  obtain ⟨_, A', cap', he, hlc, hcm, hc⟩ := hs
  cases he
  refine ⟨hok, _, cap - lo, by rw [hlen], by omega, by omega, ?_⟩
  by_cases hz : cap = lo
  · left; omega
  · right
    rw [if_neg hz]
    obtain ⟨b, o, hφ, rfl, hb⟩ := hc.resolve_left (by omega)
    refine ⟨b, o, hφ, ?_, fun hr => ?_⟩
    · simp only [Option.map_some, add_spot, hoff, Nat.add_mul, Nat.add_assoc]
    · have := hb hr
      have e1 : win'.off + (cap - lo) = win.off + cap := by omega
      rw [e1]; exact this

theorem sliceB_ok (hT : TyOk P ty) {t : Nat} {x : SV} {lo hi : Option SV} {a : Value} {vlo vhi : Option Value} {e : Eff} (h : sliceB ty t x lo hi objs some = some e)
    (r : x.rep (G objs φ seen w) a) (rl : ∀ c, lo = some c → ∃ v, vlo = some v ∧ c.rep (G objs φ seen w) v) (rh : ∀ c, hi = some c → ∃ v, vhi = some v ∧ c.rep (G objs φ seen w) v) :
    ∃ v, (Instr.sliceAt t a vlo vhi none).run P w = .ok v w ∧ e.wr = [] ∧ e.val.rep (G objs φ seen w) v := by
  unfold sliceB at h
  split at h
  · rename_i u hh kk q a1 q2 b1 hk
    split at h
    · rename_i ro k l k' ho hek
      split at h
      · rename_i hkk
        subst hkk
        split at h
        · rename_i hb
          simp only [Option.some.injEq] at h
          subst h
          have ht := ty_slice hT hk
          have he := elem_of ht
          have hu := ty_ek hT hek
          have hsz := ek_size hu hek
          have hte : P.underlying t = some (.slice (P.elem t)) := by rw [he]; exact ht
          obtain ⟨hs, ⟨A0, n0, c0, rfl⟩, hp⟩ := r
          have hp0 := hp
          simp only [Ctx.slOk, ho] at hp0
          obtain ⟨hok, A, cap, hv, hlc, hcm, _⟩ := hp0
          have hroom : l.length ≤ cap := by
            have := hlc.2
            simpa [Win.off] using this
          cases hv
          rw [run_sliceAt_slice w t _ _ _ _ hte]
          obtain ⟨v1, rfl, h1⟩ := rl _ rfl
          simp only [SV.rep] at h1
          subst h1
          obtain ⟨v2, rfl, h2⟩ := rh _ rfl
          simp only [SV.rep] at h2
          subst h2
          refine ⟨_, by rw [run_slice_lh w t _ _ _ hte _ _ a1 b1 hb.1 hb.2.1 (by omega), he, sizeOf_ty hu]; rfl, rfl, hs, ⟨_, _, _, rfl⟩, ?_⟩
          have := slOk_room (win' := .sub a1.toNat (b1.toNat - a1.toNat)) (lo := a1.toNat) (m := b1.toNat - a1.toNat) ho hp (by omega) (by simp only [Win.ok]; omega) (by simp [Win.off]) (by simp only [Win.len]; omega)
          rw [hsz]
          exact this
        · simp at h
      · simp at h
    · simp at h
  · simp at h

theorem sliceM_ok (hT : TyOk P ty) {t : Nat} {x : SV} {lo hi mx : Option SV} {a : Value} {vlo vhi vmx : Option Value} {e : Eff} (h : sliceM ty t x lo hi mx objs some = some e)
    (r : x.rep (G objs φ seen w) a) (rl : ∀ c, lo = some c → ∃ v, vlo = some v ∧ c.rep (G objs φ seen w) v) (rh : ∀ c, hi = some c → ∃ v, vhi = some v ∧ c.rep (G objs φ seen w) v)
    (rm : ∀ c, mx = some c → ∃ v, vmx = some v ∧ c.rep (G objs φ seen w) v) :
    ∃ v, (Instr.sliceAt t a vlo vhi vmx).run P w = .ok v w ∧ e.wr = [] ∧ e.val.rep (G objs φ seen w) v := by
  unfold sliceM at h
  split at h
  · rename_i u hh win q a1 q2 b1 q3 m1 hk
    split at h
    · rename_i ro k l k' ho hek
      split at h
      · rename_i hkk
        subst hkk
        split at h
        · rename_i hb
          simp only [Option.some.injEq] at h
          subst h
          have ht := ty_slice hT hk
          have he := elem_of ht
          have hu := ty_ek hT hek
          have hte : P.underlying t = some (.slice (P.elem t)) := by rw [he]; exact ht
          obtain ⟨hs, ⟨A0, n0, c0, rfl⟩, hp⟩ := r
          simp only [Ctx.slOk, ho] at hp
          obtain ⟨hok, A, cap, hv, hlc, hcm, _⟩ := hp
          cases hv
          rw [view_length] at hb
          rw [run_sliceAt_slice w t _ _ _ _ hte]
          obtain ⟨v1, rfl, h1⟩ := rl _ rfl
          simp only [SV.rep] at h1
          subst h1
          obtain ⟨v2, rfl, h2⟩ := rh _ rfl
          simp only [SV.rep] at h2
          subst h2
          obtain ⟨v3, rfl, h3⟩ := rm _ rfl
          simp only [SV.rep] at h3
          subst h3
          exact ⟨_, by rw [run_slice_lhm w t _ _ _ hte _ _ _ a1 b1 m1 hb.1 hb.2.1 hb.2.2.1 (by omega), he, sizeOf_ty hu]; rfl, rfl, trivial⟩
        · simp at h
      · simp at h
    · simp at h
  · simp at h

theorem slice_ok (hT : TyOk P ty) (H : Heap w0 W0 (G objs φ seen w) w) {t : Nat} {x : SV} {lo hi mx : Option SV} {a : Value} {vlo vhi vmx : Option Value} {e : Eff} (h : sliceK ty t x lo hi mx objs some = some e)
    (r : x.rep (G objs φ seen w) a) (rl : ∀ c, lo = some c → ∃ v, vlo = some v ∧ c.rep (G objs φ seen w) v) (rl0 : lo = none → vlo = none)
    (rh : ∀ c, hi = some c → ∃ v, vhi = some v ∧ c.rep (G objs φ seen w) v) (rh0 : hi = none → vhi = none) (rm : ∀ c, mx = some c → ∃ v, vmx = some v ∧ c.rep (G objs φ seen w) v) (rm0 : mx = none → vmx = none) :
    ∃ v, (Instr.sliceAt t a vlo vhi vmx).run P w = .ok v w ∧ e.wr = [] ∧ e.val.rep (G objs φ seen w) v := by
  unfold sliceK at h
  split at h
  · exact sliceM_ok hT h r rl rh rm
  · split at h
    · have := rm0 rfl
      subst this
      exact sliceB_ok hT h r rl rh
    · exact sliceO_ok hT H h r rl rl0 rh rh0 rm0

/-! ### New memory -/
theorem alloc_does (hT : TyOk P ty) (H : Heap w0 W0 (G objs φ seen w) w) {t d : Nat} (hs : seen (nm d 0) = false) (hk : (ty t).known = true) (hbig : (ty t).big = false) :
    Does P w0 W0 objs φ seen w ⟨.ptr (nm d 0) 0, [(nm d 0, some ⟨false, .cells (ty t).zero⟩)], []⟩ (do pure (.value (← Instr.alloc t true (.tuple #[]))) : Sem Next) := by
  obtain ⟨dd, i, z, _, hi, _, hsz, _, hz, hz1, _⟩ := (ty_known hT hk).ok
  obtain ⟨hr, hone, hlen⟩ := zeroOk_rep (Γ := G objs φ seen w) (hz1 hbig)
  have hF := H.fresh (nm d 0) hs ⟨false, .cells (ty t).zero⟩ z.cells t (fun Γ' hle hp ho => ⟨_, _, hp, z.cells.toList, SV.repL_le hle _ _ hr, hone, fun k v hv => by
    rw [Nat.zero_add, World.cell?_alloc_new]; simpa using hv, fun _ => ⟨t, rfl, by rw [Array.toArray_toList]; exact alloc_get w _⟩⟩)
  refine ⟨_, .pointer (some ⟨w.heap.size, 0, none⟩), w.alloc (.cells z.cells t), upd φ (nm d 0) (some (w.heap.size, 0)), ?_, .inl rfl, ?_, hF.1, hF.2⟩
  · simp [Instr.alloc, zeroValue, typeInfo, hi, hz, newVar, newRow]
  · refine ⟨upd_same _ _ _, ⟨_, rfl⟩, ?_⟩
    simp only [Ctx.ptrOk, wrObjs, upd_same]
    exact ⟨_, _, rfl, rfl⟩

/-- A small array of numbers, known as a row from the start. -/
theorem allocFlat_does (hT : TyOk P ty) (H : Heap w0 W0 (G objs φ seen w) w) {t d : Nat} {n : Int} {l : List Int} (hs : seen (nm d 0) = false) (hk : (ty t).known = true) (hbig : (ty t).big = false) (hzi : intsOf (ty t).zero = some (n :: l)) :
    Does P w0 W0 objs φ seen w ⟨.pel (nm d 0) 0 0, [(nm d 0, some ⟨false, .row (.int .i64) (n :: l)⟩)], []⟩ (do pure (.value (← Instr.alloc t true (.tuple #[]))) : Sem Next) := by
  obtain ⟨dd, i, z, _, hi, _, hsz, _, hz, hz1, _⟩ := (ty_known hT hk).ok
  obtain ⟨hr, hone, hlen⟩ := zeroOk_rep (Γ := G objs φ seen w) (hz1 hbig)
  have hvs := intsOf_rep hzi hr
  have hzs : z.cells.size = l.length + 1 := by rw [← Array.length_toList, hvs]; simp
  have hF := H.fresh (nm d 0) hs ⟨false, .row (.int .i64) (n :: l)⟩ z.cells t (fun Γ' hle hp ho => .inr ⟨_, _, hp, fun k v hv => by
    rw [Nat.zero_add, World.cell?_alloc_new, ← Array.getElem?_toList, hvs, ← hv]
    exact congrArg (fun l => l[k]?) (encAll_ints .i64 (n :: l)).symm, fun _ => ⟨z.cells, t, alloc_get w _, by
      show 0 + (l.length + 1) * 1 ≤ _
      omega⟩⟩)
  refine ⟨_, .pointer (some ⟨w.heap.size, 0, none⟩), w.alloc (.cells z.cells t), upd φ (nm d 0) (some (w.heap.size, 0)), ?_, .inl rfl, ?_, hF.1, hF.2⟩
  · simp [Instr.alloc, zeroValue, typeInfo, hi, hz, newVar, newRow]
  · refine ⟨upd_same _ _ _, ⟨_, rfl⟩, ?_⟩
    simp only [Ctx.pelOk, wrObjs, upd_same]
    exact ⟨Nat.succ_pos _, _, _, rfl, by simp [EK.sz]⟩

theorem zeroOk_zeros : ∀ {n : Nat} {vs : List Value}, zeroOk (List.replicate n (.int .i64 0)) vs = true → vs = List.replicate n (.int .i64 0)
  | 0, [], _ => rfl
  | 0, v :: vs, h => by simp [zeroOk] at h
  | n + 1, [], h => by simp [zeroOk, List.replicate_succ] at h
  | n + 1, v :: vs, h => by
    simp only [List.replicate_succ, zeroOk, Bool.and_eq_true, conc] at h
    rw [List.replicate_succ, ← zeroOk_zeros h.2, sameV_eq h.1]

theorem oRep_arr {Γ : Ctx} {w : World} {h b n : Nat} {l : List Int} {T : Nat} (hn : l.length = n) (hp : Γ.φ h = some (b, 0)) (hw : w.heap[b]? = some (.cells (l.map (Value.int .i64)).toArray T (0, 0))) : oRep Γ w h ⟨false, .arr n l⟩ := by
  refine ⟨hn, b, 0, hp, fun i x hx => ?_, fun _ => ⟨T, rfl, hw⟩⟩
  simp [World.cell?, hw, hx]

theorem allocBig_does (hT : TyOk P ty) (H : Heap w0 W0 (G objs φ seen w) w) {t d : Nat} (hs : seen (nm d 0) = false) (hk : (ty t).known = true) (hbig : (ty t).big = true) (hpos : 0 < (ty t).size) :
    Does P w0 W0 objs φ seen w ⟨.pel (nm d 0) 0 0, [(nm d 0, some ⟨false, .arr (ty t).size (List.replicate (ty t).size 0)⟩)], []⟩ (do pure (.value (← Instr.alloc t true (.tuple #[]))) : Sem Next) := by
  obtain ⟨dd, i, z, _, hi, _, hsz, _, hz, _, hz2, _⟩ := (ty_known hT hk).ok
  have hzz := zeroOk_zeros (hz2 hbig).1
  have hza : z.cells = ((List.replicate (ty t).size (0 : Int)).map (Value.int .i64)).toArray := by
    apply Array.ext'
    rw [hzz]
    simp
  have hF := H.fresh (nm d 0) hs ⟨false, .arr (ty t).size (List.replicate (ty t).size 0)⟩ z.cells t (fun Γ' hle hp ho => oRep_arr (by simp) hp (by rw [← hza]; exact alloc_get w _))
  refine ⟨_, .pointer (some ⟨w.heap.size, 0, none⟩), w.alloc (.cells z.cells t), upd φ (nm d 0) (some (w.heap.size, 0)), ?_, .inl rfl, ?_, hF.1, hF.2⟩
  · simp [Instr.alloc, zeroValue, typeInfo, hi, hz, newVar, newRow]
  · refine ⟨upd_same _ _ _, ⟨_, rfl⟩, ?_⟩
    simp only [Ctx.pelOk, wrObjs, upd_same]
    exact ⟨hpos, _, _, rfl, rfl⟩

theorem box_does (H : Heap w0 W0 (G objs φ seen w) w) {t d : Nat} {c : SV} {a : Value} (hs : seen (nm d 0) = false) (hc : (svCells c).all SV.cellable = true) (r : c.rep (G objs φ seen w) a) :
    Does P w0 W0 objs φ seen w ⟨.ptr (nm d 0) 0, [(nm d 0, some ⟨false, .cells (svCells c)⟩)], []⟩ (do pure (.value (← Instr.box t a)) : Sem Next) := by
  obtain ⟨hr, hone⟩ := svCells_rep hc r
  have hF := H.fresh (nm d 0) hs ⟨false, .cells (svCells c)⟩ a.cells t (fun Γ' hle hp ho => ⟨_, _, hp, a.cells.toList, SV.repL_le hle _ _ hr, hone, fun k v hv => by
    rw [Nat.zero_add, World.cell?_alloc_new]; simpa using hv, fun _ => ⟨t, rfl, by rw [Array.toArray_toList]; exact alloc_get w _⟩⟩)
  refine ⟨_, .pointer (some ⟨w.heap.size, 0, none⟩), w.alloc (.cells a.cells t), upd φ (nm d 0) (some (w.heap.size, 0)), ?_, .inl rfl, ?_, hF.1, hF.2⟩
  · simp [Instr.box, newVar, newRow]
  · refine ⟨upd_same _ _ _, ⟨_, rfl⟩, ?_⟩
    simp only [Ctx.ptrOk, wrObjs, upd_same]
    exact ⟨_, _, rfl, rfl⟩

theorem boxBig_does (H : Heap w0 W0 (G objs φ seen w) w) {t d n : Nat} {l : List Int} {a : Value} (hs : seen (nm d 0) = false) (hpos : 0 < n) (r : (SV.ints n l).rep (G objs φ seen w) a) :
    Does P w0 W0 objs φ seen w ⟨.pel (nm d 0) 0 0, [(nm d 0, some ⟨false, .arr n l⟩)], []⟩ (do pure (.value (← Instr.box t a)) : Sem Next) := by
  obtain ⟨hn, rfl⟩ := r
  have hF := H.fresh (nm d 0) hs ⟨false, .arr n l⟩ (l.map (Value.int .i64)).toArray t (fun Γ' hle hp ho => oRep_arr hn hp (alloc_get w _))
  refine ⟨_, .pointer (some ⟨w.heap.size, 0, none⟩), w.alloc (.cells (l.map (Value.int .i64)).toArray t), upd φ (nm d 0) (some (w.heap.size, 0)), ?_, .inl rfl, ?_, hF.1, hF.2⟩
  · simp [Instr.box, newVar, newRow, Value.cells]
  · refine ⟨upd_same _ _ _, ⟨_, rfl⟩, ?_⟩
    simp only [Ctx.pelOk, wrObjs, upd_same]
    exact ⟨hpos, _, _, rfl, rfl⟩

/-- A new row. -/
theorem row_new (H : Heap w0 W0 (G objs φ seen w) w) {m n cap : Nat} {T : Nat} {e : EK} {l : List e.den} {cur : Array Value} (hs : seen m = false)
    (hn : n = l.length) (hc1 : n ≤ cap) (hc2 : cap ≤ maxLen) (hc3 : cap * e.sz ≤ cur.size) (hcur : ∀ (i : Nat) (v : Value), (encAll e l)[i]? = some v → cur[i]? = some v) :
    (SV.sl m .all).rep (G (upd objs m (some ⟨false, .row e l⟩)) (upd φ m (some (w.heap.size, 0))) (upd seen m true) (w.alloc (.cells cur T))) (.slice (some ⟨w.heap.size, 0, none⟩) n cap) ∧
    Heap w0 W0 (G (upd objs m (some ⟨false, .row e l⟩)) (upd φ m (some (w.heap.size, 0))) (upd seen m true) (w.alloc (.cells cur T))) (w.alloc (.cells cur T)) ∧
    (G objs φ seen w).le (G (upd objs m (some ⟨false, .row e l⟩)) (upd φ m (some (w.heap.size, 0))) (upd seen m true) (w.alloc (.cells cur T))) := by
  subst hn
  have hmul : l.length * e.sz ≤ cap * e.sz := Nat.mul_le_mul_right _ hc1
  have hF := H.fresh m hs ⟨false, .row e l⟩ cur T (fun Γ' hle hp ho => .inr ⟨_, _, hp, fun i v hv => by
    rw [Nat.zero_add, World.cell?_alloc_new]; exact hcur i v hv, fun _ => ⟨cur, T, alloc_get w _, by omega⟩⟩)
  refine ⟨?_, hF.1, hF.2⟩
  refine ⟨upd_same _ _ _, ⟨_, _, _, rfl⟩, ?_⟩
  simp only [Ctx.slOk, upd_same]
  refine ⟨trivial, _, cap, rfl, ⟨hc1, by simpa [Win.off] using hc1⟩, hc2, .inr ⟨_, _, rfl, by simp [Win.off], fun _ => ?_⟩⟩
  have : bsOf (w.alloc (.cells cur T)) w.heap.size = cur.size := by unfold bsOf; rw [alloc_get]
  rw [this]
  simpa [Win.off] using hc3
theorem row_does (H : Heap w0 W0 (G objs φ seen w) w) {d n cap : Nat} {T : Nat} {e : EK} {l : List e.den} {cur : Array Value} {s : Sem Next} (hs : seen (nm d 0) = false)
    (hn : n = l.length) (hc1 : n ≤ cap) (hc2 : cap ≤ maxLen) (hc3 : cap * e.sz ≤ cur.size) (hcur : ∀ (i : Nat) (v : Value), (encAll e l)[i]? = some v → cur[i]? = some v)
    (hrun : s.run P w = .ok (.value (.slice (some ⟨w.heap.size, 0, none⟩) n cap)) (w.alloc (.cells cur T))) :
    Does P w0 W0 objs φ seen w ⟨.sl (nm d 0) .all, [(nm d 0, some ⟨false, .row e l⟩)], []⟩ s := by
  obtain ⟨h1, h2, h3⟩ := row_new H (T := T) hs hn hc1 hc2 hc3 hcur
  exact ⟨_, _, _, _, hrun, .inl rfl, h1, h2, h3⟩

end
end Go.Fx
end

noncomputable section
set_option linter.unusedVariables false
set_option linter.unusedSimpArgs false
set_option autoImplicit false
namespace Go.Fx
open Go
section
variable {P : Program} {w0 : World} {W0 : Nat → Option (Option EK) → Prop} {objs : Nat → Option AO} {φ : Nat → Option (Nat × Nat)} {seen : Nat → Bool} {w : World} {ty : Ty}

/-! ### 1. Structs and arrays by parts -/
theorem foldl_set (us : List Value) : ∀ (k off : Nat) (cs : Array Value), off + k + us.length ≤ cs.size →
    ((us.zipIdx k).foldl (fun cs (x : Value × Nat) => cs.setIfInBounds (off + x.2) x.1) cs).toList = cs.toList.take (off + k) ++ us ++ cs.toList.drop (off + k + us.length) := by
  induction us with
  | nil => intro k off cs h; simp
  | cons u us ih =>
    intro k off cs h
    simp only [List.length_cons] at h
    rw [List.zipIdx_cons, List.foldl_cons, ih (k + 1) off _ (by simp; omega)]
    have hl : off + k < cs.toList.length := by simp; omega
    have e1 : (cs.setIfInBounds (off + k) u).toList = cs.toList.set (off + k) u := by simp
    rw [e1]
    have h1 : (cs.toList.set (off + k) u).take (off + (k + 1)) = cs.toList.take (off + k) ++ [u] := by
      rw [show off + (k + 1) = off + k + 1 by omega, List.take_succ_eq_append_getElem (by simpa using hl), List.take_set_of_le (Nat.le_refl _)]
      simp
    have h2 : (cs.toList.set (off + k) u).drop (off + (k + 1) + us.length) = cs.toList.drop (off + k + (u :: us).length) := by
      rw [List.drop_set_of_lt (by omega)]
      congr 1
      simp
      omega
    rw [h1, h2]
    simp

theorem foldl_set' (us : Array Value) (off : Nat) (cs : Array Value) (h : off + us.size ≤ cs.size) :
    (us.zipIdx.foldl (fun cs (x : Value × Nat) => cs.setIfInBounds (off + x.2) x.1) cs).toList = cs.toList.take off ++ us.toList ++ cs.toList.drop (off + us.size) := by
  have := foldl_set us.toList 0 off cs (by simpa using h)
  rw [← Array.foldl_toList]
  simpa using this

theorem buildParts_ok {Γ : Ctx} {place : Nat → Option (Nat × Nat)} : ∀ {parts : List (Nat × SV)} {vparts : List (Nat × Value)} {cells : List SV} {vcells : Array Value} {out : List SV},
    buildParts place cells parts = some out → parts.length = vparts.length → (∀ (i : Nat) (p : Nat × SV) (q : Nat × Value), parts[i]? = some p → vparts[i]? = some q → p.1 = q.1 ∧ p.2.rep Γ q.2) → SV.repL Γ cells vcells.toList →
    ∃ vout, Instr.fill place vcells vparts = some vout ∧ SV.repL Γ out vout.toList
  | [], [], cells, vcells, out, h, _, _, hr => by
    simp only [buildParts, Option.some.injEq] at h
    subst h
    exact ⟨vcells, rfl, hr⟩
  | [], _ :: _, _, _, _, _, hl, _, _ => by simp at hl
  | _ :: _, [], _, _, _, _, hl, _, _ => by simp at hl
  | (i, c) :: parts, (i', v) :: vparts, cells, vcells, out, h, hl, hp, hr => by
    obtain ⟨rfl, hrc⟩ := hp 0 _ _ rfl rfl
    simp only [buildParts] at h
    simp only [Instr.fill]
    cases hpl : place i with
    | none => simp [hpl] at h
    | some q =>
      obtain ⟨off, size⟩ := q
      simp only [hpl] at h ⊢
      split at h
      · rename_i hb
        simp only [Bool.and_eq_true] at hb
        obtain ⟨⟨hb1, hb2⟩, hb3⟩ := hb
        have hb1 := Nat.eq_of_beq_eq_true hb1
        have hb2 := Nat.le_of_ble_eq_true hb2
        obtain ⟨hrc', _⟩ := svCells_rep hb3 hrc
        have hlen := repL_length hrc'
        have hlen2 := repL_length hr
        simp only [Array.length_toList] at hlen hlen2
        have e : ¬ ((decide (v.cells.size ≠ size) || decide (off + v.cells.size > vcells.size)) = true) := by simp; omega
        rw [if_neg e]
        refine buildParts_ok h (by simpa using hl) (fun k p q h1 h2 => hp (k + 1) p q (by simpa using h1) (by simpa using h2)) ?_
        rw [foldl_set' _ _ _ (by omega), fillL_eq _ _ _ hb2]
        have := repL_splice hr hrc' off
        simpa using this
      · simp at h

theorem map_parts {Γ : Ctx} {slots : Nat → SV} {a : Act} (hev : ∀ x, (ev slots x).rep Γ (a.eval x)) (parts : Array (Nat × Operand)) :
    (parts.toList.map fun p => (p.1, ev slots p.2)).length = (parts.toList.map fun p => (p.1, a.eval p.2)).length ∧
    ∀ (i : Nat) (p : Nat × SV) (q : Nat × Value), (parts.toList.map fun p => (p.1, ev slots p.2))[i]? = some p → (parts.toList.map fun p => (p.1, a.eval p.2))[i]? = some q → p.1 = q.1 ∧ p.2.rep Γ q.2 := by
  refine ⟨by simp, fun i p q hp hq => ?_⟩
  simp only [List.getElem?_map, Option.map_eq_some_iff] at hp hq
  obtain ⟨x, hx, rfl⟩ := hp
  obtain ⟨y, hy, rfl⟩ := hq
  rw [hx] at hy
  cases hy
  exact ⟨rfl, hev _⟩

theorem mapM_sizes {fs : Array Field} (hk : ∀ f ∈ fs.toList, TyAt P f.type (ty f.type)) :
    (fs.mapM fun f => do pure (f.offset, ← sizeOf f.type) : Sem (Array (Nat × Nat))).run P w = .ok (fs.map fun f => (f.offset, (ty f.type).size)) w := by
  have key : ∀ (l : List Field), (∀ f ∈ l, TyAt P f.type (ty f.type)) → (l.mapM fun f => do pure (f.offset, ← sizeOf f.type) : Sem (List (Nat × Nat))).run P w = .ok (l.map fun f => (f.offset, (ty f.type).size)) w := by
    intro l
    induction l with
    | nil => intro _; simp
    | cons f l ih =>
      intro h
      rw [List.mapM_cons]
      simp only [Sem.run_bind, sizeOf_ty (h f (by simp)), Result.andThen_ok, Sem.run_pure, ih (fun x hx => h x (by simp [hx])), List.map_cons]
  have := key fs.toList hk
  rw [Array.mapM_eq_mapM_toList]
  simp only [Functor.map] 
  show (Sem.bind _ _).run P w = _
  rw [Sem.run_bind', this]
  simp
  apply Array.ext'
  simp

theorem build_ok (hT : TyOk P ty) {Γ : Ctx} {slots : Nat → SV} {a : Act} (hev : ∀ x, (ev slots x).rep Γ (a.eval x)) {t : Nat} {parts : Array (Nat × Operand)} {cs : List SV} (hbig : (ty t).big = false)
    (h : (∃ fs, (ty t).kind = .struct fs ∧ fs.all (fun p => (ty p.1).known) = true ∧ buildParts (fun i => match fs[i]? with | some (u, o) => some (o, (ty u).size) | none => none) (ty t).zero (parts.toList.map fun p => (p.1, ev slots p.2)) = some cs) ∨
      (∃ n u, (ty t).kind = .arr n u ∧ (ty u).known = true ∧ buildParts (fun i => some (i * (ty u).size, (ty u).size)) (ty t).zero (parts.toList.map fun p => (p.1, ev slots p.2)) = some cs)) :
    ∃ v, (Instr.build t (parts.map fun (i, x) => (i, a.eval x))).run P w = .ok v w ∧ (SV.agg cs).rep Γ v := by
  obtain ⟨hl, hp⟩ := map_parts hev parts
  have hmap : (parts.map fun (x : Nat × Operand) => (x.1, a.eval x.2)).toList = parts.toList.map fun p => (p.1, a.eval p.2) := by simp
  rcases h with ⟨fs, hk, hall, hb⟩ | ⟨n, u, hk, hku, hb⟩
  · obtain ⟨d, i, z, _, hi, _, _, _, hz, hz1, _⟩ := (ty_kind hT hk (by simp)).ok
    obtain ⟨hr, _, _⟩ := zeroOk_rep (Γ := Γ) (hz1 hbig)
    obtain ⟨fa, hfa, hm⟩ := ty_struct hT hk
    obtain ⟨vout, hf, hvr⟩ := buildParts_ok hb hl hp hr
    have hkn : ∀ f ∈ fa.toList, TyAt P f.type (ty f.type) := by
      intro f hf
      have : (f.type, f.offset) ∈ fs := by rw [← hm]; exact List.mem_map.2 ⟨f, hf, rfl⟩
      exact ty_known hT (by simpa using List.all_eq_true.1 hall _ this)
    have hpl : (fun i : Nat => (match fs[i]? with | some (u, o) => some (o, (ty u).size) | none => none : Option (Nat × Nat))) = fun i : Nat => (fa.map fun f => (f.offset, (ty f.type).size))[i]? := by
      funext i
      rw [← hm]
      simp only [List.getElem?_map, Array.getElem?_map, Array.getElem?_toList]
      cases fa[i]? <;> rfl
    rw [hpl] at hf
    refine ⟨.agg vout, ?_, ⟨vout.toList, by simp, hvr⟩⟩
    have hs := mapM_sizes (P := P) (w := w) hkn
    simp only [Instr.build, Sem.run_bind, zeroValue, typeInfo, run_program, Result.andThen_ok, hi, Sem.run_pure, hz, run_underlying hfa, hs, hmap, hf]
  · obtain ⟨d, i, z, _, hi, _, _, _, hz, hz1, _⟩ := (ty_kind hT hk (by simp)).ok
    obtain ⟨hr, _, _⟩ := zeroOk_rep (Γ := Γ) (hz1 hbig)
    obtain ⟨vout, hf, hvr⟩ := buildParts_ok hb hl hp hr
    refine ⟨.agg vout, ?_, ⟨vout.toList, by simp, hvr⟩⟩
    simp only [Instr.build, Sem.run_bind, zeroValue, typeInfo, run_program, Result.andThen_ok, hi, Sem.run_pure, hz, run_underlying (ty_arr hT hk), sizeOf_ty (ty_known hT hku), hmap, hf]

theorem buildBig_ok (hT : TyOk P ty) {Γ : Ctx} {t n u : Nat} (hbig : (ty t).big = true) (hk : (ty t).kind = .arr n u) (hku : (ty u).known = true) :
    ∃ v, (Instr.build t #[]).run P w = .ok v w ∧ (SV.ints (ty t).size (List.replicate (ty t).size 0)).rep Γ v := by
  obtain ⟨d, i, z, _, hi, _, _, _, hz, _, hz2, _⟩ := (ty_kind hT hk (by simp)).ok
  have hzz := zeroOk_zeros (hz2 hbig).1
  have hza : z.cells = ((List.replicate (ty t).size (0 : Int)).map (Value.int .i64)).toArray := by
    apply Array.ext'
    rw [hzz]
    simp
  refine ⟨.agg z.cells, ?_, ⟨by simp, by rw [hza]⟩⟩
  simp only [Instr.build, Sem.run_bind, zeroValue, typeInfo, run_program, Result.andThen_ok, hi, Sem.run_pure, hz, run_underlying (ty_arr hT hk), sizeOf_ty (ty_known hT hku)]
  simp [Instr.fill]

end
end Go.Fx
end

noncomputable section
set_option linter.unusedVariables false
set_option linter.unusedSimpArgs false
set_option autoImplicit false
namespace Go.Fx
open Go
section
variable {P : Program} {w0 : World} {W0 : Nat → Option (Option EK) → Prop} {objs : Nat → Option AO} {φ : Nat → Option (Nat × Nat)} {seen : Nat → Bool} {w : World} {ty : Ty}

theorem fillRow {Γ : Ctx} {e : EK} : ∀ {parts : List (Nat × SV)} {vparts : List (Nat × Value)} {i : Nat} {l : List e.den} {vcells : Array Value},
    rowParts e i parts = some l → parts.length = vparts.length → (∀ (k : Nat) (p : Nat × SV) (q : Nat × Value), parts[k]? = some p → vparts[k]? = some q → p.1 = q.1 ∧ p.2.rep Γ q.2) →
    (i + parts.length) * e.sz ≤ vcells.size →
    l.length = parts.length ∧ ∃ vout, Instr.fill (fun i => some (i * e.sz, e.sz)) vcells vparts = some vout ∧ vout.toList = vcells.toList.take (i * e.sz) ++ encAll e l ++ vcells.toList.drop (i * e.sz + (encAll e l).length)
  | [], [], i, l, vcells, h, _, _, _ => by
    simp only [rowParts, Option.some.injEq] at h
    subst h
    exact ⟨rfl, vcells, rfl, by simp [encAll]⟩
  | [], _ :: _, _, _, _, _, hl, _, _ => by simp at hl
  | _ :: _, [], _, _, _, _, hl, _, _ => by simp at hl
  | (j, c) :: parts, (j', v) :: vparts, i, l, vcells, h, hl, hp, hfit => by
    obtain ⟨rfl, hrc⟩ := hp 0 _ _ rfl rfl
    simp only [rowParts] at h
    split at h
    · rename_i hij
      have hij := Nat.eq_of_beq_eq_true hij
      subst hij
      split at h
      · rename_i x xs hx hxs
        simp only [Option.some.injEq] at h
        subst h
        simp only [List.length_cons] at hfit
        obtain ⟨hcs, hone⟩ := ofSV_enc hx hrc
        simp only at hcs
        have hsz : v.cells.size = e.sz := by rw [← Array.length_toList, hcs, enc_length]
        have hmul : (i + (parts.length + 1)) * e.sz = i * e.sz + e.sz + parts.length * e.sz := by rw [Nat.add_mul, Nat.succ_mul]; omega
        rw [hmul] at hfit
        have ne : ¬ ((decide (v.cells.size ≠ e.sz) || decide (i * e.sz + v.cells.size > vcells.size)) = true) := by simp; omega
        have hset := foldl_set' v.cells (i * e.sz) vcells (by omega)
        rw [hcs] at hset
        obtain ⟨hll, vout, hf, hv⟩ := fillRow (Γ := Γ) (vcells := v.cells.zipIdx.foldl (fun cs (x : Value × Nat) => cs.setIfInBounds (i * e.sz + x.2) x.1) vcells) hxs (by simpa using hl)
          (fun k p q h1 h2 => hp (k + 1) p q (by simpa using h1) (by simpa using h2)) (by
            rw [← Array.length_toList, hset]
            simp [enc_length, hsz, Nat.add_mul]
            omega)
        refine ⟨by simp [hll], vout, ?_, ?_⟩
        · simp only [Instr.fill, ne]
          exact hf
        · rw [hv, hset, hsz]
          have e1 : encAll e (x :: xs) = e.enc x ++ encAll e xs := by simp [encAll]
          rw [e1]
          have l1 : (i + 1) * e.sz = i * e.sz + e.sz := by rw [Nat.succ_mul]
          rw [l1]
          have l2 : (vcells.toList.take (i * e.sz) ++ e.enc x).length = i * e.sz + e.sz := by
            simp [enc_length]; omega
          rw [List.take_append_of_le_length (by omega), List.take_of_length_le (by omega)]
          rw [List.drop_append, List.drop_of_length_le (by omega), l2]
          rw [List.nil_append, List.drop_drop]
          simp only [List.append_assoc, List.length_append, enc_length]
          congr 3
          congr 1
          omega
      · simp at h
    · simp at h

theorem buildSlice_does (hT : TyOk P ty) (H : Heap w0 W0 (G objs φ seen w) w) {slots : Nat → SV} {a : Act} (hev : ∀ x, (ev slots x).rep (G objs φ seen w) (a.eval x)) {t u len d : Nat} {parts : Array (Nat × Operand)} {e : EK} {l : List e.den}
    (hk : (ty t).kind = .slice u) (hek : (ty u).ek = some e) (hs : seen (nm d 0) = false) (hlen : len = parts.size) (h100 : len ≤ 100) (hr : rowParts e 0 (parts.toList.map fun p => (p.1, ev slots p.2)) = some l) :
    Does P w0 W0 objs φ seen w ⟨.sl (nm d 0) .all, [(nm d 0, some ⟨false, .row e l⟩)], []⟩ (do pure (.value (← Instr.buildSlice t len (parts.map fun (i, x) => (i, a.eval x)))) : Sem Next) := by
  obtain ⟨hl, hp⟩ := map_parts hev parts
  have hu := ty_ek hT hek
  have hsz := ek_size hu hek
  obtain ⟨dd, i, z, _, hi, _, hisz, _, hz, _⟩ := hu.ok
  have hmap : (parts.map fun (x : Nat × Operand) => (x.1, a.eval x.2)).toList = parts.toList.map fun p => (p.1, a.eval p.2) := by simp
  have hsz3 : e.sz ≤ 3 := by cases e <;> simp [EK.sz]
  have hmul : len * e.sz ≤ 100 * 3 := Nat.mul_le_mul h100 hsz3
  have fillz : ∀ (zz : Array Value), ∃ vout, Instr.fill (fun i => some (i * e.sz, e.sz)) ((Array.range (len * e.sz)).map (zz[· % zz.size]!)) (parts.toList.map fun p => (p.1, a.eval p.2)) = some vout ∧ vout.toList = encAll e l ∧ l.length = len := by
    intro zz
    obtain ⟨h1, vout, h2, h3⟩ := fillRow (vcells := (Array.range (len * e.sz)).map (zz[· % zz.size]!)) hr hl hp (by simp [hlen])
    have h1' : l.length = len := by rw [h1]; simp [hlen]
    refine ⟨vout, h2, ?_, h1'⟩
    rw [h3, encAll_length, h1']
    simp
  obtain ⟨vout, hf, hv, hll⟩ := fillz (if len * e.sz = 0 then #[] else z.cells)
  have hvs : vout.size = len * e.sz := by rw [← Array.length_toList, hv, encAll_length, hll]
  refine row_does H (cap := len) (n := len) (T := u) (cur := vout) hs hll.symm (Nat.le_refl _) (by unfold maxLen; omega) (by omega) (fun i v hv' => by rw [← Array.getElem?_toList, hv]; exact hv') ?_
  have hbig : ¬ len * e.sz > 2 ^ 24 := by omega
  simp only [Instr.buildSlice, Sem.run_bind, run_underlying (ty_slice hT hk), Result.andThen_ok, sizeOf_ty (ty_ek hT hek), hsz]
  rw [Sem.run_ite, if_neg hbig]
  have e0 : ∀ f : Nat → Value, (Array.range 0).map f = #[] := fun f => by simp
  by_cases h0 : len * e.sz = 0
  · simp only [h0, if_true, e0] at hf
    simp only [h0, if_true, Sem.run_bind, Sem.run_pure, Result.andThen_ok, e0, hmap, hf, newRow, run_newObj]
    rfl
  · simp only [h0, if_false] at hf
    simp [h0, hmap, hf, newRow, zeroValue, typeInfo, hi, hz]

/-- A literal of slices. -/
theorem fillVec {Γ : Ctx} : ∀ {parts : List (Nat × SV)} {vparts : List (Nat × Value)} {i : Nat} {cs : List SV} {vcells : Array Value},
    vecParts i parts = some cs → parts.length = vparts.length → (∀ (k : Nat) (p : Nat × SV) (q : Nat × Value), parts[k]? = some p → vparts[k]? = some q → p.1 = q.1 ∧ p.2.rep Γ q.2) →
    i + parts.length ≤ vcells.size →
    cs.length = parts.length ∧ ∃ vout vs, Instr.fill (fun i => some (i * 1, 1)) vcells vparts = some vout ∧ vout.toList = vcells.toList.take i ++ vs ++ vcells.toList.drop (i + vs.length) ∧ vs.length = parts.length ∧ SV.repL Γ cs vs ∧ ∀ v ∈ vs, v.oneCell' = true
  | [], [], i, cs, vcells, h, _, _, _ => by
    simp only [vecParts, Option.some.injEq] at h
    subst h
    exact ⟨rfl, vcells, [], rfl, by simp, rfl, rfl, by simp⟩
  | [], _ :: _, _, _, _, _, hl, _, _ => by simp at hl
  | _ :: _, [], _, _, _, _, hl, _, _ => by simp at hl
  | (j, c) :: parts, (j', v) :: vparts, i, cs, vcells, h, hl, hp, hfit => by
    obtain ⟨rfl, hrc⟩ := hp 0 _ _ rfl rfl
    have key : ∃ xs, i = j ∧ vecParts (i + 1) parts = some xs ∧ cs = c :: xs ∧ v.oneCell' = true := by
      simp only [vecParts] at h
      split at h
      · rename_i hh w hij
        split at h
        · rename_i xs hxs
          simp only [Option.some.injEq] at h
          obtain ⟨_, ⟨A, n, cp, hv⟩, _⟩ := hrc
          exact ⟨xs, Nat.eq_of_beq_eq_true hij, hxs, h.symm, by simp only at hv; rw [hv]; rfl⟩
        · simp at h
      · rename_i hij
        split at h
        · rename_i xs hxs
          simp only [Option.some.injEq] at h
          simp only [SV.rep] at hrc
          exact ⟨xs, Nat.eq_of_beq_eq_true hij, hxs, h.symm, by rw [hrc]; rfl⟩
        · simp at h
      · simp at h
    obtain ⟨xs, rfl, hxs, rfl, hone⟩ := key
    simp only [List.length_cons] at hfit
    have hc : v.cells = #[v] := by cases v <;> simp [Value.oneCell'] at hone <;> rfl
    have ne : ¬ ((decide (v.cells.size ≠ 1) || decide (i * 1 + v.cells.size > vcells.size)) = true) := by rw [hc]; simp; omega
    have hset := foldl_set' v.cells (i * 1) vcells (by rw [hc]; simp; omega)
    obtain ⟨hll, vout, vs, hf, hv, hvl, hvr, hvo⟩ := fillVec (Γ := Γ) (vcells := v.cells.zipIdx.foldl (fun cs (x : Value × Nat) => cs.setIfInBounds (i * 1 + x.2) x.1) vcells) hxs (by simpa using hl)
      (fun k p q h1 h2 => hp (k + 1) p q (by simpa using h1) (by simpa using h2)) (by
        rw [← Array.length_toList, hset, hc]
        simp
        omega)
    refine ⟨by simp [hll], vout, v :: vs, ?_, ?_, by simp [hvl], ⟨_, _, rfl, hrc, hvr⟩, ?_⟩
    · simp only [Instr.fill, ne]
      exact hf
    · rw [hv, hset, hc]
      have l2 : (vcells.toList.take (i * 1) ++ #[v].toList).length = i + 1 := by simp; omega
      rw [List.take_append_of_le_length (by omega), List.take_of_length_le (by omega), List.drop_append, List.drop_of_length_le (by omega), l2, List.nil_append, List.drop_drop]
      simp only [Nat.mul_one, List.append_assoc, List.cons_append, List.nil_append, List.length_cons]
      congr 3
      simp
      congr 1
      omega
    · intro x hx
      rcases List.mem_cons.1 hx with rfl | hx
      · exact hone
      · exact hvo x hx

theorem buildVec_does (hT : TyOk P ty) (H : Heap w0 W0 (G objs φ seen w) w) {slots : Nat → SV} {a : Act} (hev : ∀ x, (ev slots x).rep (G objs φ seen w) (a.eval x)) {t u e0 len d : Nat} {parts : Array (Nat × Operand)} {cs : List SV}
    (hk : (ty t).kind = .slice u) (hku : (ty u).kind = .slice e0) (hsz : (ty u).size = 1) (hs : seen (nm d 0) = false) (hlen : len = parts.size) (h100 : len ≤ 100) (hr : vecParts 0 (parts.toList.map fun p => (p.1, ev slots p.2)) = some cs) :
    Does P w0 W0 objs φ seen w ⟨.sl (nm d 0) .all, [(nm d 0, some ⟨false, .cells cs⟩)], []⟩ (do pure (.value (← Instr.buildSlice t len (parts.map fun (i, x) => (i, a.eval x)))) : Sem Next) := by
  obtain ⟨hl, hp⟩ := map_parts hev parts
  have hu : TyAt P u (ty u) := ty_kind hT hku (by simp)
  obtain ⟨dd, i, z, _, hi, _, hisz, _, hz, _⟩ := hu.ok
  have hmap : (parts.map fun (x : Nat × Operand) => (x.1, a.eval x.2)).toList = parts.toList.map fun p => (p.1, a.eval p.2) := by simp
  have fillz : ∀ (zz : Array Value), ∃ vout, Instr.fill (fun i => some (i * 1, 1)) ((Array.range (len * 1)).map (zz[· % zz.size]!)) (parts.toList.map fun p => (p.1, a.eval p.2)) = some vout ∧
      SV.repL (G objs φ seen w) cs vout.toList ∧ (∀ v ∈ vout.toList, v.oneCell' = true) ∧ cs.length = len := by
    intro zz
    obtain ⟨h1, vout, vs, h2, h3, h4, h5, h6⟩ := fillVec (vcells := (Array.range (len * 1)).map (zz[· % zz.size]!)) hr hl hp (by simp [hlen])
    have h1' : cs.length = len := by rw [h1]; simp [hlen]
    have e : vout.toList = vs := by
      rw [h3]
      have : vs.length = len := by rw [h4]; simp [hlen]
      simp [this]
    exact ⟨vout, h2, by rw [e]; exact h5, by rw [e]; exact h6, h1'⟩
  obtain ⟨vout, hf, hv, hone, hll⟩ := fillz (if len * 1 = 0 then #[] else z.cells)
  have hF := H.fresh (nm d 0) hs ⟨false, .cells cs⟩ vout u (fun Γ' hle hp ho => ⟨_, _, hp, vout.toList, SV.repL_le hle _ _ hv, hone, fun k v hv => by
    rw [Nat.zero_add, World.cell?_alloc_new]; simpa using hv, fun _ => ⟨u, rfl, by rw [Array.toArray_toList]; exact alloc_get w _⟩⟩)
  refine ⟨_, .slice (some ⟨w.heap.size, 0, none⟩) len len, w.alloc (.cells vout u), upd φ (nm d 0) (some (w.heap.size, 0)), ?_, .inl rfl, ?_, hF.1, hF.2⟩
  · have hbig : ¬ len * 1 > 2 ^ 24 := by omega
    simp only [Instr.buildSlice, Sem.run_bind, run_underlying (ty_slice hT hk), Result.andThen_ok, sizeOf_ty hu, hsz]
    rw [Sem.run_ite, if_neg hbig]
    have e0 : ∀ f : Nat → Value, (Array.range 0).map f = #[] := fun f => by simp
    by_cases h0 : len * 1 = 0
    · simp only [h0, if_true, e0] at hf
      simp only [h0, if_true, Sem.run_bind, Sem.run_pure, Result.andThen_ok, e0, hmap, hf, newRow, run_newObj]
      rfl
    · simp only [h0, if_false] at hf
      simp only [Nat.mul_one] at hf h0
      simp [h0, hf, newRow, zeroValue, typeInfo, hi, hz]
  · refine ⟨upd_same _ _ _, ⟨_, _, _, rfl⟩, ?_⟩
    simp only [Ctx.slOk, wrObjs, upd_same]
    exact fun _ => ⟨_, _, len, rfl, by rw [hll]⟩

theorem zeroOk_cv1 : ∀ {vs us : List Value}, (∀ v ∈ vs, (∃ k n, v = .int k n) ∨ (∃ b, v = .bool b) ∨ (∃ s, v = .string s)) → zeroOk (vs.map cv1) us = true → us = vs
  | [], [], _, _ => rfl
  | [], u :: us, _, h => by simp [zeroOk] at h
  | v :: vs, [], _, h => by simp [zeroOk] at h
  | v :: vs, u :: us, hv, h => by
    simp only [List.map_cons, zeroOk, Bool.and_eq_true] at h
    obtain ⟨h1, h2⟩ := h
    rw [zeroOk_cv1 (fun x hx => hv x (by simp [hx])) h2]
    have : u = v := by
      rcases hv v (by simp) with ⟨k, n, rfl⟩ | ⟨b, rfl⟩ | ⟨s, rfl⟩
      all_goals
        simp only [cv1, conc] at h1
        exact sameV_eq h1
    rw [this]
theorem enc_lits (e : EK) (x : e.den) : ∀ v ∈ e.enc x, (∃ k n, v = .int k n) ∨ (∃ b, v = .bool b) ∨ (∃ s, v = .string s) := by
  cases e <;> simp [EK.enc]

theorem replicate_get {e : EK} {n : Nat} {x : e.den} {k : Nat} {v : Value} (h : (encAll e (List.replicate n x))[k]? = some v) : k < n * e.sz ∧ (e.enc x)[k % e.sz]? = some v := by
  have hk : k < n * e.sz := by
    have := (List.getElem?_eq_some_iff.1 h).1
    rw [encAll_length] at this
    simpa using this
  refine ⟨hk, ?_⟩
  have hp := sz_pos e
  have hd : k / e.sz < n := by
    rw [Nat.div_lt_iff_lt_mul hp]; exact hk
  have hm := Nat.mod_lt k hp
  have := encAll_get e (List.replicate n x) (k / e.sz) (k % e.sz) (by simpa using hd) hm
  rw [show k / e.sz * e.sz + k % e.sz = k by rw [Nat.mul_comm]; exact Nat.div_add_mod k e.sz] at this
  rw [h] at this
  have hx : (List.replicate n x).getD (k / e.sz) e.dflt = x := by simp [List.getD, hd]
  rw [hx] at this
  exact this.symm

theorem makeSlice_does (hT : TyOk P ty) (H : Heap w0 W0 (G objs φ seen w) w) {t u d : Nat} {e : EK} {k1 k2 : IntKind} {n m : Int} (hk : (ty t).kind = .slice u) (hek : (ty u).ek = some e) (hs : seen (nm d 0) = false)
    (hb : 0 ≤ n ∧ n ≤ m ∧ m ≤ 4398046511104) :
    Does P w0 W0 objs φ seen w ⟨.sl (nm d 0) .all, [(nm d 0, some ⟨false, .row e (List.replicate n.toNat e.dflt)⟩)], []⟩ (do pure (.value (← Instr.makeSlice t (.int k1 n) (.int k2 m))) : Sem Next) := by
  have hu := ty_ek hT hek
  have hsz := ek_size hu hek
  obtain ⟨dd, i, z, _, hi, _, hisz, _, hz, _, _, h9⟩ := hu.ok
  obtain ⟨_, _, hbytes, hzero⟩ := h9 e hek
  have hzc := zeroOk_cv1 (enc_lits e _) hzero
  have hi32 : (i.bytes : Int) ≤ 32 := by omega
  have hmul : (i.bytes : Int) * m ≤ 32 * 4398046511104 := Int.mul_le_mul hi32 hb.2.2 (by omega) (by omega)
  have hrun := run_make (P := P) w t u i z (ty_slice hT hk) hi hz k1 k2 n m hb.1 hb.2.1 (by omega) (by omega)
  have hzs : z.cells.size = e.sz := by rw [← Array.length_toList, hzc, enc_length]
  refine row_does H (cap := m.toNat) (n := n.toNat) (T := u) (cur := madeCells z.cells (m.toNat * i.size)) hs (by simp) (by omega) (by unfold maxLen; omega) (by rw [size_madeCells, hisz, hsz]; omega) ?_ (by rw [Sem.run_bind, hrun]; rfl)
  intro k v hv
  obtain ⟨h1, h2⟩ := replicate_get hv
  have hle : n.toNat * e.sz ≤ m.toNat * e.sz := Nat.mul_le_mul_right _ (by omega)
  have hp := sz_pos e
  have hmod := Nat.mod_lt k hp
  rw [hisz, hsz]
  have hkk : k < m.toNat * e.sz := by omega
  simp only [madeCells, Array.getElem?_map]
  rw [Array.getElem?_eq_getElem (by simpa using hkk)]
  simp only [Array.getElem_range, Option.map_some]
  rw [hzs, getElem!_pos z.cells (k % e.sz) (by rw [hzs]; exact hmod)]
  rw [← hzc, Array.getElem?_toList, Array.getElem?_eq_getElem (by rw [hzs]; exact hmod)] at h2
  exact h2

end
end Go.Fx
end

noncomputable section
set_option linter.unusedVariables false
set_option linter.unusedSimpArgs false
set_option autoImplicit false
namespace Go.Fx
open Go
section
variable {P : Program} {w0 : World} {W0 : Nat → Option (Option EK) → Prop} {objs : Nat → Option AO} {φ : Nat → Option (Nat × Nat)} {seen : Nat → Bool} {w : World} {ty : Ty}

theorem at_upd {objs : Nat → Option AO} {φ : Nat → Option (Nat × Nat)} {seen seen' : Nat → Bool} {w : World} {h x b : Nat} {a : Option AO} (hne : x ≠ h) (hb : (G (upd objs h a) φ seen' w).at x b) : (G objs φ seen w).at x b :=
  Ctx.at_same (Γ := G objs φ seen w) (Γ' := G (upd objs h a) φ seen' w) (by show upd objs h a x = objs x; rw [upd_ne _ _ hne]) rfl (fun _ _ _ _ => rfl) hb
theorem Heap.kill (H : Heap w0 W0 (G objs φ seen w) w) (h : Nat) :
    Heap w0 W0 (G (upd objs h none) φ (upd seen h true) w) w ∧ (G objs φ seen w).le (G (upd objs h none) φ (upd seen h true) w) := by
  have hle : (G objs φ seen w).le (G (upd objs h none) φ (upd seen h true) w) := by
    refine le_of (fun x hx => ?_) (fun x hx => ?_)
    · show upd seen h true x = true
      rw [upd_eq]; split
      · rfl
      · exact hx
    · by_cases e : x = h
      · subst e; exact .inl (upd_same _ _ _)
      · show upd objs h none x = none ∨ _
        rw [upd_ne _ _ e]
        cases hx' : objs x with
        | none => exact .inl rfl
        | some y => exact .inr ⟨y, y, hx', by show upd objs h none x = some y; rw [upd_ne _ _ e]; exact hx', AO.like.refl y, rfl, fun _ _ _ => rfl⟩
  have old : ∀ x y, upd objs h none x = some y → x ≠ h ∧ objs x = some y := by
    intro x y hy
    have hne : x ≠ h := fun e => by subst e; rw [upd_same] at hy; cases hy
    rw [upd_ne _ _ hne] at hy
    exact ⟨hne, hy⟩
  have hat : ∀ x y b, upd objs h none x = some y → ((G (upd objs h none) φ (upd seen h true) w).at x b → (G objs φ seen w).at x b) ∧ ((G (upd objs h none) φ (upd seen h true) w).inB x b → (G objs φ seen w).inB x b) := by
    intro x y b hy
    have e : (G (upd objs h none) φ (upd seen h true) w).objs x = (G objs φ seen w).objs x := by
      show upd objs h none x = objs x
      rw [hy, (old x y hy).2]
    exact ⟨fun q => Ctx.at_same e rfl (fun _ _ _ _ => rfl) q, fun q => Ctx.inB_same e rfl (fun _ _ _ _ => rfl) q⟩
  refine ⟨⟨H.os, H.tape, H.output, H.size, H.keep, H.kind, fun _ => rfl, fun _ _ => rfl, ?_, ?_, ?_, ?_, ?_, ?_, ?_⟩, hle⟩
  · intro x y hy
    exact oRep_le hle rfl H.mem (old x y hy).2 (fun _ _ => rfl) (H.obj x y (old x y hy).2)
  · intro x y hy
    exact hle.seen x (H.sn x y (old x y hy).2)
  · intro x y b hy hb
    exact H.lt2 x y b (old x y hy).2 ((hat x y b hy).1 hb)
  · intro x x' y y' b hy hy' hb hb' hne
    exact H.sep2 x x' y y' b (old x y hy).2 (old x' y' hy').2 ((hat x y b hy).1 hb) ((hat x' y' b hy').1 hb') hne
  · intro x y b hy hr hb
    exact H.own2 x y b (old x y hy).2 hr ((hat x y b hy).1 hb)
  · intro x y b o hy hb
    exact H.rng x y b o (old x y hy).2 hb
  · intro x b hb
    obtain ⟨ro, ll, hx⟩ := Ctx.inB_tab hb
    exact H.rngi x b ((hat x _ b hx).2 hb)

/-- What a slice value holds is read. -/
theorem sl_reads (H : Heap w0 W0 (G objs φ seen w) w) {h : Nat} {win : Win} {ro : Bool} {e : EK} {l : List e.den} {A : Option Addr} {n cap : Nat} (ho : objs h = some ⟨ro, .row e l⟩) (hs : (G objs φ seen w).slOk h win (.slice A n cap)) :
    n = (win.view l).length ∧ n ≤ cap ∧ cap ≤ maxLen ∧
    (∀ ad, A = some ad → ∀ j v, (encAll e (win.view l))[j]? = some v → w.cell? (ad.add j) = some v) ∧ (A = none → win.view l = []) ∧
    (cap = 0 ∨ ∃ b o, φ h = some (b, o) ∧ A = some ⟨b, o + win.off * e.sz, none⟩ ∧ (ro = false → o + (win.off + cap) * e.sz ≤ bsOf w b)) := by
  simp only [Ctx.slOk, ho] at hs
  obtain ⟨hok, A', cap', he, hlc, hcm, hc⟩ := hs
  cases he
  refine ⟨(view_length win l).symm, hlc.1, hcm, ?_, ?_, hc⟩
  · intro ad hA j v hv
    have hj : j < win.len l.length * e.sz := by
      have := (List.getElem?_eq_some_iff.1 hv).1
      rw [encAll_length, view_length] at this
      exact this
    have hpos : 0 < win.len l.length := by
      rcases Nat.eq_zero_or_pos (win.len l.length) with h0 | h0
      · rw [h0] at hj; omega
      · exact h0
    obtain ⟨b, o, hφ, hA', _⟩ := hc.resolve_left (by omega)
    rw [hA] at hA'
    cases hA'
    rw [add_spot]
    rw [encAll_view, List.getElem?_take, if_pos hj, List.getElem?_drop] at hv
    rcases H.obj h _ ho with ⟨hn, _⟩ | ⟨b', o', hp', hcell, _⟩
    · simp [hφ] at hn
    · have hp2 : φ h = some (b', o') := hp'
      rw [hφ] at hp2
      simp only [Option.some.injEq, Prod.mk.injEq] at hp2
      obtain ⟨rfl, rfl⟩ := hp2
      have := hcell _ v hv
      rw [← Nat.add_assoc] at this
      exact this
  · intro hA
    apply List.eq_nil_of_length_eq_zero
    rw [view_length]
    rcases Nat.eq_zero_or_pos (win.len l.length) with h0 | h0
    · exact h0
    · obtain ⟨b, o, hφ, hA', _⟩ := hc.resolve_left (by omega)
      rw [hA] at hA'
      cases hA'

theorem firstCells_run {A : Option Addr} {n cap size : Nat} {cs : List Value} (hl : cs.length = n * size) (hr : ∀ ad, A = some ad → ∀ j v, cs[j]? = some v → w.cell? (ad.add j) = some v) (h0 : A = none → cs = []) :
    (Builtin.firstCells size n (.slice A n cap)).run P w = .ok cs.toArray w := by
  cases A with
  | none => rw [h0 rfl]; exact run_firstCells_none w size n n cap
  | some ad => exact run_firstCells_some w size n ad n cap cs hl (hr ad rfl)

theorem append_grow {t u : Nat} {i : TypeInfo} {z : Value} (ht : P.underlying t = some (.slice u)) (hi : P.info? u = some i) (hz : i.zero = some z) {A B : Option Addr} {n cap m c2 : Nat} {olds news : List Value} {rt : Nat}
    (hlo : olds.length = n * i.size) (hro : ∀ ad, A = some ad → ∀ j v, olds[j]? = some v → w.cell? (ad.add j) = some v) (ho0 : A = none → olds = [])
    (hln : news.length = m * i.size) (hrn : ∀ ad, B = some ad → ∀ j v, news[j]? = some v → w.cell? (ad.add j) = some v) (hn0 : B = none → news = [])
    (hg : cap < n + m) (h63 : n + m ≤ 8796093022208) (hb : i.bytes ≤ 16 ∨ (n + m) * i.bytes ≤ 140737488355328) :
    (Builtin.append_ #[t, t] rt #[.slice A n cap, .slice B m c2]).run P w =
      .ok (.slice (some ⟨w.heap.size, 0, none⟩) (n + m) (grownCap w (n + m) cap u)) (w.drew.alloc (.cells (olds.toArray ++ news.toArray ++ Builtin.zeroCells z.cells (grownCap w (n + m) cap u - (n + m))) u)) := by
  have hbytes : (n + m) * i.bytes ≤ 140737488355328 := by
    rcases hb with h | h
    · have := Nat.mul_le_mul h63 h; omega
    · exact h
  have hfit := growslice_fits hg hbytes
  have hn : ¬ (n + m ≤ cap) := by omega
  have h63' : ¬ (9223372036854775807 < ((n : Int) + (m : Int))) := by omega
  have h48' : ¬ (281474976710656 < Builtin.nextslicecap (n + m) cap * i.bytes) := by omega
  have hf : (Builtin.firstCells i.size m (.slice B m c2)).run P w.drew = .ok news.toArray w.drew := firstCells_run hln (by simpa using hrn) hn0
  have hfo : (Builtin.firstCells i.size n (.slice A n cap)).run P w.drew = .ok olds.toArray w.drew := firstCells_run hlo (by simpa using hro) ho0
  simp [Builtin.append_, run_underlying ht, sizeOf, typeInfo, zeroValue, hi, hz, Builtin.lenOf, hn, h63', h48', Question.forced, hf, hfo, newRow, grownCap]
  congr 2
  apply Array.ext'
  simp [List.append_assoc]

theorem append_room {t u : Nat} {i : TypeInfo} (ht : P.underlying t = some (.slice u)) (hi : P.info? u = some i) {A B : Option Addr} {n cap m c2 : Nat} {news : List Value} {rt : Nat} {w' : World}
    (hln : news.length = m * i.size) (hrn : ∀ ad, B = some ad → ∀ j v, news[j]? = some v → w.cell? (ad.add j) = some v) (hn0 : B = none → news = [])
    (hg : n + m ≤ cap) (hst : ∀ a, A = some a → (storeCells (a.add (n * i.size)) news).run P w = .ok () w') (hnone : A = none → w' = w) :
    (Builtin.append_ #[t, t] rt #[.slice A n cap, .slice B m c2]).run P w = .ok (.slice A (n + m) cap) w' := by
  have hf : (Builtin.firstCells i.size m (.slice B m c2)).run P w = .ok news.toArray w := firstCells_run hln hrn hn0
  cases A with
  | none =>
    have := hnone rfl
    subst this
    simp [Builtin.append_, run_underlying ht, sizeOf, typeInfo, hi, Builtin.lenOf, hg, hf]
  | some a =>
    have hst' := hst a rfl
    simp [Builtin.append_, run_underlying ht, sizeOf, typeInfo, hi, Builtin.lenOf, hg, hf, hst']

theorem enc_one (e : EK) (x : e.den) : ∀ u ∈ e.enc x, u.oneCell' = true := by
  cases e <;> simp [EK.enc, Value.oneCell']
theorem encAll_one (e : EK) (l : List e.den) : ∀ u ∈ encAll e l, u.oneCell' = true := by
  intro u hu
  simp only [encAll, List.mem_flatMap] at hu
  obtain ⟨x, _, hx⟩ := hu
  exact enc_one e x u hx

/-- A row more, where one is gone: what append leaves. -/
theorem append_main (hT : TyOk P ty) (H : Heap w0 W0 (G objs φ seen w) w) {h d t u rt : Nat} {win : Win} {e : EK} {l ys : List e.den} {A B : Option Addr} {n cap m c2 : Nat}
    (hk : (ty t).kind = .slice u) (hek : (ty u).ek = some e) (ho : objs h = some ⟨false, .row e l⟩) (hs : (G objs φ seen w).slOk h win (.slice A n cap)) (hseen : seen (nm d 0) = false) (hsh : seen h = true)
    (hm : m = ys.length) (hrn : ∀ ad, B = some ad → ∀ j v, (encAll e ys)[j]? = some v → w.cell? (ad.add j) = some v) (hn0 : B = none → ys = [])
    (hlen : (win.view l).length + ys.length ≤ 4398046511104) (tch : List Nat) :
    Does P w0 W0 objs φ seen w ⟨.sl (nm d 0) .all, [(h, none), (nm d 0, some ⟨false, .row e (win.view l ++ ys)⟩)], tch⟩ (do pure (.value (← Builtin.append_ #[t, t] rt #[.slice A n cap, .slice B m c2])) : Sem Next) := by
  have hu := ty_ek hT hek
  have hsz := ek_size hu hek
  obtain ⟨dd, i, z, _, hi, _, hisz, _, hz, _, _, h9⟩ := hu.ok
  obtain ⟨_, _, hbytes, hzero⟩ := h9 e hek
  have hzc := zeroOk_cv1 (enc_lits e _) hzero
  have hzs : z.cells.size = e.sz := by rw [← Array.length_toList, hzc, enc_length]
  have ht := ty_slice hT hk
  obtain ⟨hn, hnc, hcm, hread, hnil, hloc⟩ := sl_reads H ho hs
  have his : i.size = e.sz := by rw [hisz, hsz]
  have hne : nm d 0 ≠ h := fun q => by rw [q, hsh] at hseen; cases hseen
  obtain ⟨H1, hle1⟩ := H.kill h
  have hs1 : upd seen h true (nm d 0) = false := by rw [upd_ne _ _ hne]; exact hseen
  have hlo : (encAll e (win.view l)).length = n * i.size := by rw [encAll_length, his, hn]
  have hln : (encAll e ys).length = m * i.size := by rw [encAll_length, his, hm]
  by_cases hg : n + m ≤ cap
  · by_cases hz0 : cap = 0
    · -- nothing at all
      have hn' : n = 0 := by omega
      have hm' : m = 0 := by omega
      have hy0 : ys = [] := List.eq_nil_of_length_eq_zero (by omega)
      have hv0 : win.view l = [] := List.eq_nil_of_length_eq_zero (by omega)
      have hrun := append_room (P := P) (w := w) (rt := rt) (c2 := c2) (w' := w) (A := A) (n := n) (cap := cap) ht hi hln hrn (fun q => by rw [hn0 q]; rfl) hg (fun a ha => by
        rw [hy0]; rfl) (fun _ => rfl)
      have hle2 : (G (upd objs h none) φ (upd seen h true) w).le (G (upd (upd objs h none) (nm d 0) (some ⟨false, .row e (win.view l ++ ys)⟩)) (upd φ (nm d 0) none) (upd (upd seen h true) (nm d 0) true) w) := by
        refine le_of (fun x hx => ?_) (fun x hx => ?_)
        · show upd (upd seen h true) (nm d 0) true x = true
          rw [upd_eq]; split
          · rfl
          · exact hx
        · have hxn : x ≠ nm d 0 := fun q => by
            have hx' : upd seen h true x = true := hx
            rw [q, hs1] at hx'; cases hx'
          show upd (upd objs h none) (nm d 0) _ x = none ∨ _
          rw [upd_ne _ _ hxn]
          cases hx' : upd objs h none x with
          | none => exact .inl rfl
          | some y => exact .inr ⟨y, y, hx', by show upd (upd objs h none) (nm d 0) _ x = some y; rw [upd_ne _ _ hxn]; exact hx', AO.like.refl y, by show upd φ _ _ x = φ x; rw [upd_ne _ _ hxn], fun _ _ _ => rfl⟩
      have H2 := H1.step (nm d 0) ⟨false, .row e (win.view l ++ ys)⟩ none hle2 rfl rfl rfl (Nat.le_refl _) (fun _ _ _ => rfl) (fun b hb => by cases hb) (fun b hb => by cases hb) (fun _ => rfl) (fun _ _ => rfl)
        (fun x y hxn hy => by
          have hy' : upd (upd objs h none) (nm d 0) (some ⟨false, .row e (win.view l ++ ys)⟩) x = some y := hy
          rw [upd_ne _ _ hxn] at hy'
          exact ⟨hy', by show upd φ _ _ x = φ x; rw [upd_ne _ _ hxn], fun b _ q => by cases q⟩)
        (upd_same _ _ _) (upd_same _ _ _) (.inl ⟨upd_same _ _ _, by rw [hy0, hv0]; rfl⟩) (fun _ q => by cases q) (fun b o hb => by
          have hb' : upd φ (nm d 0) none (nm d 0) = some (b, o) := hb
          rw [upd_same] at hb'; cases hb')
      refine ⟨_, .slice A (n + m) cap, w, upd φ (nm d 0) none, by rw [Sem.run_bind, hrun]; rfl, .inl rfl, ?_, H2, hle1.trans hle2⟩
      refine ⟨upd_same _ _ _, ⟨_, _, _, rfl⟩, ?_⟩
      simp only [Ctx.slOk, wrObjs, upd_same]
      exact ⟨trivial, A, cap, by simp [Win.len, hy0, hv0, hn', hm'], by simp [Win.len, Win.off, hy0, hv0], hcm, .inl hz0⟩
    · -- in place
      obtain ⟨b, o, hφ, rfl, hbnd⟩ := hloc.resolve_left hz0
      have hbnd := hbnd rfl
      rcases H.obj h _ ho with ⟨hnn, _⟩ | ⟨b', o', hp', hcell, hw⟩
      · simp [hφ] at hnn
      · have hp2 : φ h = some (b', o') := hp'
        rw [hφ] at hp2
        simp only [Option.some.injEq, Prod.mk.injEq] at hp2
        obtain ⟨rfl, rfl⟩ := hp2
        obtain ⟨cur, T, hcur, hcsz⟩ := hw rfl
        have hbs : bsOf w b = cur.size := by unfold bsOf; rw [hcur]
        rw [hbs] at hbnd
        have hmul : (n + m) * e.sz ≤ cap * e.sz := Nat.mul_le_mul_right _ hg
        have e1 : (win.off + cap) * e.sz = win.off * e.sz + cap * e.sz := Nat.add_mul _ _ _
        have e2 : (n + m) * e.sz = n * e.sz + m * e.sz := Nat.add_mul _ _ _
        have hyl : (encAll e ys).length = m * e.sz := by rw [hln, his]
        have hfit : o + win.off * e.sz + n * e.sz + (encAll e ys).length ≤ cur.size := by omega
        have hst := storeCells_ok (P := P) (o := o + win.off * e.sz + n * e.sz) hcur (encAll e ys) hfit (encAll_one e ys)
        have hrun := append_room (P := P) (w := w) (rt := rt) (c2 := c2) (A := some ⟨b, o + win.off * e.sz, none⟩) (n := n) (cap := cap) ht hi hln hrn (fun q => by rw [hn0 q]; rfl) hg
          (fun a ha => by cases ha; rw [add_spot, his]; exact hst) (fun q => by cases q)
        have hle2 : (G (upd objs h none) φ (upd seen h true) w).le (G (upd (upd objs h none) (nm d 0) (some ⟨false, .row e (win.view l ++ ys)⟩)) (upd φ (nm d 0) (some (b, o + win.off * e.sz))) (upd (upd seen h true) (nm d 0) true)
            (w.setRow b (cur.toList.take (o + win.off * e.sz + n * e.sz) ++ encAll e ys ++ cur.toList.drop (o + win.off * e.sz + n * e.sz + (encAll e ys).length)).toArray)) := by
          refine le_of (fun x hx => ?_) (fun x hx => ?_)
          · show upd (upd seen h true) (nm d 0) true x = true
            rw [upd_eq]; split
            · rfl
            · exact hx
          · have hxn : x ≠ nm d 0 := fun q => by
              have hx' : upd seen h true x = true := hx
              rw [q, hs1] at hx'; cases hx'
            show upd (upd objs h none) (nm d 0) _ x = none ∨ _
            rw [upd_ne _ _ hxn]
            cases hx' : upd objs h none x with
            | none => exact .inl rfl
            | some y => exact .inr ⟨y, y, hx', by show upd (upd objs h none) (nm d 0) _ x = some y; rw [upd_ne _ _ hxn]; exact hx', AO.like.refl y, by show upd φ _ _ x = φ x; rw [upd_ne _ _ hxn], fun b' o' _ => bsOf_setRow hcur (by simp; omega) b'⟩
        have hown := H.own h _ b o ho rfl hφ
        have H2 := H1.step (w' := w.setRow b (cur.toList.take (o + win.off * e.sz + n * e.sz) ++ encAll e ys ++ cur.toList.drop (o + win.off * e.sz + n * e.sz + (encAll e ys).length)).toArray) (nm d 0) ⟨false, .row e (win.view l ++ ys)⟩ (some b) hle2 rfl rfl rfl (by simp) (fun b' _ q => setRow_other w b b' _ (fun q' => q (by rw [q']))) (fun b' hb => by cases hb; exact hown) (fun b' e => by cases e; exact .inl ⟨cur, _, T, (0, 0), hcur, setRow_heap w b cur _ T (0, 0) hcur, by simp; omega⟩) (fun _ => rfl) (fun _ _ => rfl)
          (fun x y hxn hy => by
            have hy' : upd (upd objs h none) (nm d 0) (some ⟨false, .row e (win.view l ++ ys)⟩) x = some y := hy
            rw [upd_ne _ _ hxn] at hy'
            refine ⟨hy', by show upd φ _ _ x = φ x; rw [upd_ne _ _ hxn], fun b' hb' q => ?_⟩
            cases q
            have hxh : x ≠ h := fun q => by rw [q, upd_same] at hy'; cases hy'
            have hb2 : (G objs φ seen w).at x b := at_upd hxh hb'
            rw [upd_ne _ _ hxh] at hy'
            have := (H.sep2 x h y _ b hy' ho hb2 (.inl ⟨o, hφ⟩) hxh).2
            cases this)
          (upd_same _ _ _) (upd_same _ _ _) (.inr ⟨b, _, upd_same _ _ _, fun k v hv => by
            rw [cell_setRow_same w b _ _ _ T (0, 0) hcur]
            rw [List.getElem?_toArray, splice_get _ _ _ _ (by simpa using hfit)]
            rw [encAll_append] at hv
            have hvl : (encAll e (win.view l)).length = n * e.sz := by rw [hlo, his]
            by_cases hkn : k < n * e.sz
            · rw [if_neg (by omega)]
              rw [List.getElem?_append_left (by omega)] at hv
              have := hread _ rfl k v hv
              rw [add_spot] at this
              simpa [World.cell?, hcur] using this
            · rw [List.getElem?_append_right (by omega)] at hv
              have hk2 := (List.getElem?_eq_some_iff.1 hv).1
              rw [if_pos ⟨by omega, by omega⟩]
              rw [← hv, hvl]
              congr 1
              omega, fun _ => ⟨_, T, setRow_heap w b cur _ T (0, 0) hcur, by
                have : (win.view l ++ ys).length * e.sz = n * e.sz + m * e.sz := by rw [List.length_append, ← hn, ← hm, Nat.add_mul]
                rw [this]
                simp
                omega⟩⟩) (fun _ q => by cases q)
          (fun b' o' hb' => by
            have hb'' : upd φ (nm d 0) (some (b, o + win.off * e.sz)) (nm d 0) = some (b', o') := hb'
            rw [upd_same] at hb''
            cases hb''
            refine ⟨by simpa using H.lt h _ b o ho hφ, fun x y hxn hy hbb => ?_, fun _ => hown, show w0.heap.size ≤ b ∨ W0 b (some (some e)) from H.rng h ⟨false, .row e l⟩ b o ho hφ⟩
            have hy' : upd (upd objs h none) (nm d 0) (some ⟨false, .row e (win.view l ++ ys)⟩) x = some y := hy
            rw [upd_ne _ _ hxn] at hy'
            have hxh : x ≠ h := fun q => by rw [q, upd_same] at hy'; cases hy'
            have hb2 : (G objs φ seen w).at x b := at_upd hxh hbb
            rw [upd_ne _ _ hxh] at hy'
            have := (H.sep2 x h y _ b hy' ho hb2 (.inl ⟨o, hφ⟩) hxh).2
            cases this)
        refine ⟨_, .slice (some ⟨b, o + win.off * e.sz, none⟩) (n + m) cap, _, upd φ (nm d 0) (some (b, o + win.off * e.sz)), by rw [Sem.run_bind, hrun]; rfl, .inl rfl, ?_, H2, hle1.trans hle2⟩
        refine ⟨upd_same _ _ _, ⟨_, _, _, rfl⟩, ?_⟩
        simp only [Ctx.slOk, wrObjs, upd_same]
        have ho0 : Win.off .all = 0 := rfl
        refine ⟨trivial, some ⟨b, o + win.off * e.sz, none⟩, cap, by simp [Win.len, ← hn, ← hm], by simp [Win.len, Win.off, ← hn, ← hm]; omega, hcm, .inr ⟨b, o + win.off * e.sz, rfl, by rw [ho0, Nat.zero_mul, Nat.add_zero], fun _ => ?_⟩⟩
        rw [show bsOf (w.setRow b (cur.toList.take (o + win.off * e.sz + n * e.sz) ++ encAll e ys ++ cur.toList.drop (o + win.off * e.sz + n * e.sz + (encAll e ys).length)).toArray) b = bsOf w b from
          bsOf_setRow hcur (by simp; omega) b, hbs]
        rw [ho0, Nat.zero_add]
        omega
  · -- a new array
    have hg' : cap < n + m := by omega
    have hrun := append_grow (P := P) (w := w) (rt := rt) (c2 := c2) ht hi hz hlo hread (fun q => by rw [hnil q]; rfl) hln hrn (fun q => by rw [hn0 q]; rfl) hg' (by omega) (.inr (by
      have := Nat.mul_le_mul (show n + m ≤ 4398046511104 by omega) hbytes
      omega))
    have hge := grownCap_ge w (n + m) cap u
    have hcap := grownCap_le_maxLen w (n + m) cap u (by unfold maxLen; omega)
    have Hd : Heap w0 W0 (G (upd objs h none) φ (upd seen h true) w.drew) w.drew := H1.drew
    have hled : (G (upd objs h none) φ (upd seen h true) w).le (G (upd objs h none) φ (upd seen h true) w.drew) := ⟨fun _ q => q, fun _ _ _ _ q => q, fun _ _ _ _ q => q, fun _ _ _ _ _ q => q, fun _ _ _ q => q⟩
    have hsize : ((encAll e (win.view l)).toArray ++ (encAll e ys).toArray ++ Builtin.zeroCells z.cells (grownCap w (n + m) cap u - (n + m))).size = grownCap w (n + m) cap u * e.sz := by
      simp only [Array.size_append, List.size_toArray, size_zeroCells, hzs, hlo, hln, his, ← Nat.add_mul]
      congr 1
      omega
    have hlen2 : (win.view l ++ ys).length = n + m := by rw [List.length_append, ← hn, ← hm]
    obtain ⟨q1, q2, q3⟩ := row_new (objs := upd objs h none) (seen := upd seen h true) Hd (m := nm d 0) (n := n + m) (cap := grownCap w (n + m) cap u) (T := u) (e := e) (l := win.view l ++ ys)
      (cur := (encAll e (win.view l)).toArray ++ (encAll e ys).toArray ++ Builtin.zeroCells z.cells (grownCap w (n + m) cap u - (n + m))) hs1 hlen2.symm hge hcap (by rw [hsize]; exact Nat.le_refl _)
      (fun k v hv => by
        have hk2 := (List.getElem?_eq_some_iff.1 hv).1
        rw [encAll_append] at hv
        rw [Array.getElem?_append_left (by
          rw [encAll_append] at hk2
          simpa using hk2)]
        simpa using hv)
    exact ⟨_, _, _, _, by rw [Sem.run_bind, hrun]; rfl, .inl rfl, q1, q2, (hle1.trans hled).trans q3⟩

end
end Go.Fx
end

noncomputable section
set_option linter.unusedVariables false
set_option linter.unusedSimpArgs false
set_option autoImplicit false
namespace Go.Fx
open Go
section
variable {P : Program} {w0 : World} {W0 : Nat → Option (Option EK) → Prop} {objs : Nat → Option AO} {φ : Nat → Option (Nat × Nat)} {seen : Nat → Bool} {w : World} {ty : Ty}

theorem encAll_i64 : ∀ l : List Int, encAll (.int .i64) l = l.map (Value.int .i64)
  | [] => rfl
  | a :: l => by
    have e : encAll (.int .i64) (a :: l) = (EK.int .i64).enc a ++ encAll (.int .i64) l := by simp [encAll]
    rw [e, encAll_i64 l]
    rfl
/-- A row of numbers that is one's own, as it lies in a table. -/
theorem row_at (H : Heap w0 W0 (G objs φ seen w) w) {h : Nat} {l : List Int} {u : Value} (ho : objs h = some ⟨false, .row (.int .i64) l⟩) (hr : (SV.sl h .all).rep (G objs φ seen w) u) :
    rowAt w false u l ∧ ∀ b1 o1 n1 c1, u = .slice (some ⟨b1, o1, none⟩) n1 c1 → c1 ≠ 0 → ∃ o, φ h = some (b1, o) := by
  obtain ⟨_, _, hs⟩ := hr
  simp only [Ctx.slOk, ho] at hs
  obtain ⟨_, A, cap, hu, ⟨hlc, _⟩, hcm, hc⟩ := hs
  have el : Win.len .all l.length = l.length := rfl
  rw [el] at hu hlc
  refine ⟨⟨A, cap, hu, hlc, hcm, ?_⟩, ?_⟩
  · rcases hc with hc | ⟨b, o, hφ, hA, hb⟩
    · exact .inl hc
    · by_cases hc0 : cap = 0
      · exact .inl hc0
      · rcases H.obj h _ ho with ⟨hn, _⟩ | ⟨b', o', hp', hcell, hw⟩
        · have hn' : φ h = none := hn
          rw [hφ] at hn'
          cases hn'
        · have hp2 : φ h = some (b', o') := hp'
          rw [hφ] at hp2
          simp only [Option.some.injEq, Prod.mk.injEq] at hp2
          obtain ⟨rfl, rfl⟩ := hp2
          obtain ⟨cur, T, hcur, hcs⟩ := hw rfl
          refine .inr ⟨b, o, by rw [hA]; simp [Win.off], fun i x hx => hcell i _ ?_, fun _ => ⟨cur, T, hcur, ?_⟩⟩
          · have : encAll (.int .i64) l = l.map (Value.int .i64) := encAll_i64 l
            rw [this, List.getElem?_map, hx]
            rfl
          · have := hb trivial
            have hbs : bsOf w b = cur.size := by unfold bsOf; rw [hcur]
            rw [hbs] at this
            simpa [Win.off, EK.sz] using this
  · intro b1 o1 n1 c1 hu2 hc0
    rw [hu] at hu2
    cases hu2
    obtain ⟨b, o, hφ, hA, _⟩ := hc.resolve_left hc0
    cases hA
    exact ⟨o, hφ⟩

theorem rowAt_keep {w w' : World} {ro : Bool} {v : Value} {l : List Int} (h : rowAt w ro v l) (hk : ∀ b1 o1 n1 c1, v = .slice (some ⟨b1, o1, none⟩) n1 c1 → c1 ≠ 0 → w'.heap[b1]? = w.heap[b1]?) : rowAt w' ro v l := by
  obtain ⟨A, cap, e1, e2, e3, e4⟩ := h
  refine ⟨A, cap, e1, e2, e3, ?_⟩
  by_cases hc0 : cap = 0
  · exact .inl hc0
  · obtain ⟨b, o, rfl, k1, k2⟩ := e4.resolve_left hc0
    have hb := hk b o _ cap e1 hc0
    refine .inr ⟨b, o, rfl, fun i x hx => ?_, fun hr => ?_⟩
    · rw [World.cell?_of_block (w := w) (a := ⟨b, o + i, none⟩) hb]; exact k1 i x hx
    · obtain ⟨cur, T, q1, q2⟩ := k2 hr
      exact ⟨cur, T, hb ▸ q1, q2⟩

/-- A row is put behind the rows of a table: what the memory must look like. -/
theorem tab_join (H : Heap w0 W0 (G objs φ seen w) w) {h h3 m : Nat} {ll : List (List Int)} {l : List Int} (ho : objs h = some ⟨false, .tab ll⟩) (ho3 : objs h3 = some ⟨false, .row (.int .i64) l⟩) (hsm : seen m = false) (hsh : seen h = true) (hsh3 : seen h3 = true)
    {vs : List Value} {u : Value} (hvl : vs.length = ll.length) (hvr : ∀ (i : Nat) v r, vs[i]? = some v → ll[i]? = some r → rowAt w false v r)
    (hin : ∀ (i : Nat) b1 o1 n1 c1, vs[i]? = some (.slice (some ⟨b1, o1, none⟩) n1 c1) → c1 ≠ 0 → (G objs φ seen w).inB h b1)
    (hap : ∀ b, (∃ o, φ h = some (b, o)) → rowsApart b vs) (hap2 : ∀ (i j : Nat) b1 o1 n1 c1 b2 o2 n2 c2, i ≠ j → vs[i]? = some (.slice (some ⟨b1, o1, none⟩) n1 c1) → c1 ≠ 0 → vs[j]? = some (.slice (some ⟨b2, o2, none⟩) n2 c2) → c2 ≠ 0 → b1 ≠ b2)
    (hu : rowAt w false u l) (hub : ∀ b1 o1 n1 c1, u = .slice (some ⟨b1, o1, none⟩) n1 c1 → c1 ≠ 0 → ∃ o, φ h3 = some (b1, o))
    {w' : World} {B : Option Nat} {b' o' : Nat} (hos : w'.os = w.os) (htape : w'.tape = w.tape) (hout : w'.output = w.output) (hsize : w.heap.size ≤ w'.heap.size) (hdr : w.drawn ≤ w'.drawn)
    (hblk : ∀ b, b < w.heap.size → some b ≠ B → w'.heap[b]? = w.heap[b]?) (hB : ∀ b, B = some b → ∃ o, φ h = some (b, o))
    (hBk : ∀ b, B = some b → (∃ cur cur' T fz, w.heap[b]? = some (.cells cur T fz) ∧ w'.heap[b]? = some (.cells cur' T fz) ∧ cur'.size = cur.size) ∨ ∃ es cl, w.heap[b]? = some (.map es cl))
    (hbz : ∀ b, b < w.heap.size → bsOf w' b = bsOf w b) (hpl : (∃ o, φ h = some (b', o)) ∨ (b' = w.heap.size ∧ b' < w'.heap.size))
    (hcell : ∀ (i : Nat) v, (vs ++ [u])[i]? = some v → w'.cell? ⟨b', o' + i, none⟩ = some v) (hcur : ∃ cur T, w'.heap[b']? = some (.cells cur T (0, 0)) ∧ o' + (ll.length + 1) ≤ cur.size) :
    Heap w0 W0 (G (upd (upd (upd objs h3 none) h none) m (some ⟨false, .tab (ll ++ [l])⟩)) (upd φ m (some (b', o'))) (upd (upd (upd seen h3 true) h true) m true) w') w' ∧
    (G objs φ seen w).le (G (upd (upd (upd objs h3 none) h none) m (some ⟨false, .tab (ll ++ [l])⟩)) (upd φ m (some (b', o'))) (upd (upd (upd seen h3 true) h true) m true) w') := by
  have hne3 : h ≠ h3 := fun e => by rw [e, ho3] at ho; cases ho
  have hmh : m ≠ h := fun e => by rw [e, hsh] at hsm; cases hsm
  have hmh3 : m ≠ h3 := fun e => by rw [e, hsh3] at hsm; cases hsm
  obtain ⟨H1, le1⟩ := H.kill h3
  obtain ⟨H2, le2⟩ := H1.kill h
  have hs2 : upd (upd seen h3 true) h true m = false := by rw [upd_ne _ _ hmh, upd_ne _ _ hmh3]; exact hsm
  have old : ∀ x y, upd (upd objs h3 none) h none x = some y → x ≠ h ∧ x ≠ h3 ∧ objs x = some y := by
    intro x y hy
    have n1 : x ≠ h := fun e => by rw [e, upd_same] at hy; cases hy
    rw [upd_ne _ _ n1] at hy
    have n2 : x ≠ h3 := fun e => by rw [e, upd_same] at hy; cases hy
    rw [upd_ne _ _ n2] at hy
    exact ⟨n1, n2, hy⟩
  have atold : ∀ x b, x ≠ h → x ≠ h3 → (G (upd (upd objs h3 none) h none) φ (upd (upd seen h3 true) h true) w).at x b → (G objs φ seen w).at x b := by
    intro x b n1 n2 hb
    have q1 : (G (upd objs h3 none) φ (upd seen h3 true) w).at x b := at_upd n1 hb
    exact at_upd n2 q1
  -- the blocks of the rows, old and new
  have hi1 : ∀ (i : Nat) b1 o1 n1 c1, (vs ++ [u])[i]? = some (.slice (some ⟨b1, o1, none⟩) n1 c1) → c1 ≠ 0 → (G objs φ seen w).at h b1 ∨ (G objs φ seen w).at h3 b1 := by
    intro i b1 o1 n1 c1 hv hc
    by_cases hi : i < vs.length
    · rw [List.getElem?_append_left hi] at hv
      exact .inl (.inr (hin i b1 o1 n1 c1 hv hc))
    · rw [List.getElem?_append_right (by omega)] at hv
      cases hk : i - vs.length with
      | succ k => rw [hk] at hv; simp at hv
      | zero =>
        rw [hk] at hv
        simp only [List.getElem?_cons_zero, Option.some.injEq] at hv
        obtain ⟨o, hφ⟩ := hub b1 o1 n1 c1 hv hc
        exact .inr (.inl ⟨o, hφ⟩)
  have hlt : ∀ b1, (G objs φ seen w).at h b1 ∨ (G objs φ seen w).at h3 b1 → b1 < w.heap.size := fun b1 q => q.elim (H.lt2 h _ b1 ho) (H.lt2 h3 _ b1 ho3)
  have hnB : ∀ (i : Nat) b1 o1 n1 c1, (vs ++ [u])[i]? = some (.slice (some ⟨b1, o1, none⟩) n1 c1) → c1 ≠ 0 → some b1 ≠ B := by
    intro i b1 o1 n1 c1 hv hc e
    obtain ⟨o, hφ⟩ := hB b1 e.symm
    by_cases hi : i < vs.length
    · rw [List.getElem?_append_left hi] at hv
      exact (hap b1 ⟨o, hφ⟩).1 i b1 o1 n1 c1 hv hc rfl
    · rw [List.getElem?_append_right (by omega)] at hv
      cases hk : i - vs.length with
      | succ k => rw [hk] at hv; simp at hv
      | zero =>
        rw [hk] at hv
        simp only [List.getElem?_cons_zero, Option.some.injEq] at hv
        obtain ⟨o2, hφ2⟩ := hub b1 o1 n1 c1 hv hc
        have := H.sep h h3 _ _ b1 o o2 ho ho3 hφ hφ2 hne3
        cases this.1
  have hnb : ∀ (i : Nat) b1 o1 n1 c1, (vs ++ [u])[i]? = some (.slice (some ⟨b1, o1, none⟩) n1 c1) → c1 ≠ 0 → b1 ≠ b' := by
    intro i b1 o1 n1 c1 hv hc e
    subst e
    rcases hpl with ⟨o, hφ⟩ | ⟨q, _⟩
    · by_cases hi : i < vs.length
      · rw [List.getElem?_append_left hi] at hv
        exact (hap b1 ⟨o, hφ⟩).1 i b1 o1 n1 c1 hv hc rfl
      · rw [List.getElem?_append_right (by omega)] at hv
        cases hk : i - vs.length with
        | succ k => rw [hk] at hv; simp at hv
        | zero =>
          rw [hk] at hv
          simp only [List.getElem?_cons_zero, Option.some.injEq] at hv
          obtain ⟨o2, hφ2⟩ := hub b1 o1 n1 c1 hv hc
          have := H.sep h h3 _ _ b1 o o2 ho ho3 hφ hφ2 hne3
          cases this.1
    · have := hlt b1 (hi1 i b1 o1 n1 c1 hv hc)
      omega
  have hle2 : (G (upd (upd objs h3 none) h none) φ (upd (upd seen h3 true) h true) w).le (G (upd (upd (upd objs h3 none) h none) m (some ⟨false, .tab (ll ++ [l])⟩)) (upd φ m (some (b', o'))) (upd (upd (upd seen h3 true) h true) m true) w') := by
    refine le_of (fun x hx => ?_) (fun x hx => ?_)
    · show upd (upd (upd seen h3 true) h true) m true x = true
      rw [upd_eq]; split
      · rfl
      · exact hx
    · have hxn : x ≠ m := fun q => by
        have hx' : upd (upd seen h3 true) h true x = true := hx
        rw [q, hs2] at hx'; cases hx'
      show upd (upd (upd objs h3 none) h none) m _ x = none ∨ _
      rw [upd_ne _ _ hxn]
      cases hx' : upd (upd objs h3 none) h none x with
      | none => exact .inl rfl
      | some y => exact .inr ⟨y, y, hx', by show upd (upd (upd objs h3 none) h none) m _ x = some y; rw [upd_ne _ _ hxn]; exact hx', AO.like.refl y, by show upd φ _ _ x = φ x; rw [upd_ne _ _ hxn],
          fun b o hb => hbz b (H.lt x y b o (old x y hx').2.2 hb)⟩
  -- the blocks of the new table
  have hatm : ∀ b, (G (upd (upd (upd objs h3 none) h none) m (some ⟨false, .tab (ll ++ [l])⟩)) (upd φ m (some (b', o'))) (upd (upd (upd seen h3 true) h true) m true) w').inB m b → ∃ (i : Nat) (o n c : Nat), (vs ++ [u])[i]? = some (.slice (some ⟨b, o, none⟩) n c) ∧ c ≠ 0 := by
    rintro b ⟨ro, ll', b0, o0, i, o, n, c, h1, h2, h3', h4, h5⟩
    have h1' : upd (upd (upd objs h3 none) h none) m (some ⟨false, .tab (ll ++ [l])⟩) m = some ⟨ro, .tab ll'⟩ := h1
    have h2' : upd φ m (some (b', o')) m = some (b0, o0) := h2
    rw [upd_same] at h1' h2'
    cases h1'
    cases h2'
    have hil : i < (vs ++ [u]).length := by simp only [List.length_append, List.length_singleton] at h3' ⊢; omega
    have hv := List.getElem?_eq_getElem hil
    have h4' : w'.cell? ⟨b', o' + i, none⟩ = some (.slice (some ⟨b, o, none⟩) n c) := h4
    rw [hcell i _ hv] at h4'
    exact ⟨i, o, n, c, hv.trans h4', h5⟩
  have hown : ∀ b, (G objs φ seen w).at h b ∨ (G objs φ seen w).at h3 b → w0.heap.size ≤ b ∨ W0 b none := fun b q => q.elim (H.own2 h _ b ho rfl) (H.own2 h3 _ b ho3 rfl)
  have hot : ∀ b, (G objs φ seen w).at h b ∨ (G objs φ seen w).at h3 b → ∀ x y, x ≠ h → x ≠ h3 → objs x = some y → (G objs φ seen w).at x b → False := by
    intro b q x y n1 n2 hy hb
    rcases q with q | q
    · have := (H.sep2 x h y _ b hy ho hb q n1).2
      cases this
    · have := (H.sep2 x h3 y _ b hy ho3 hb q n2).2
      cases this
  have hat2 : ∀ b, (G (upd (upd (upd objs h3 none) h none) m (some ⟨false, .tab (ll ++ [l])⟩)) (upd φ m (some (b', o'))) (upd (upd (upd seen h3 true) h true) m true) w').at m b → (b = w.heap.size ∧ b < w'.heap.size) ∨ ((G objs φ seen w).at h b ∨ (G objs φ seen w).at h3 b) := by
    intro b hb
    rcases hb with ⟨o, hb⟩ | hb
    · have hb' : upd φ m (some (b', o')) m = some (b, o) := hb
      rw [upd_same] at hb'
      cases hb'
      rcases hpl with q | q
      · exact .inr (.inl (.inl q))
      · exact .inl q
    · obtain ⟨i, o, n, c, hv, hc⟩ := hatm b hb
      exact .inr (hi1 i b o n c hv hc)
  refine ⟨H2.step2 m ⟨false, .tab (ll ++ [l])⟩ B hle2 hos htape hout hsize hblk (fun b e => by
      obtain ⟨o, q⟩ := hB b e
      exact H.own h _ b o ho rfl q) hBk (fun _ => rfl) (fun _ _ => rfl) (fun x y hxn hy => ?_) (upd_same _ _ _) (upd_same _ _ _) ?_ ?_ ?_ ?_ hdr, (le1.trans le2).trans hle2⟩
  · have hy' : upd (upd (upd objs h3 none) h none) m (some ⟨false, .tab (ll ++ [l])⟩) x = some y := hy
    rw [upd_ne _ _ hxn] at hy'
    obtain ⟨n1, n2, hob⟩ := old x y hy'
    refine ⟨hy', by show upd φ _ _ x = φ x; rw [upd_ne _ _ hxn], fun b hb e => ?_⟩
    obtain ⟨o, q⟩ := hB b e.symm
    exact hot b (.inl (.inl ⟨o, q⟩)) x y n1 n2 hob (atold x b n1 n2 hb)
  · refine .inr ⟨b', o', upd_same _ _ _, vs ++ [u], by simp [hvl], hcell, fun i v r hv hr => ?_, fun _ => ⟨?_, ?_, ?_⟩⟩
    · have hk : ∀ b1 o1 n1 c1, v = .slice (some ⟨b1, o1, none⟩) n1 c1 → c1 ≠ 0 → w'.heap[b1]? = w.heap[b1]? := fun b1 o1 n1 c1 e hc => by
        rw [e] at hv
        exact hblk b1 (hlt b1 (hi1 i b1 o1 n1 c1 hv hc)) (hnB i b1 o1 n1 c1 hv hc)
      refine rowAt_keep ?_ hk
      by_cases hi : i < vs.length
      · rw [List.getElem?_append_left hi] at hv
        rw [List.getElem?_append_left (by omega)] at hr
        exact hvr i v r hv hr
      · rw [List.getElem?_append_right (by omega)] at hv
        rw [List.getElem?_append_right (by omega)] at hr
        rw [← hvl] at hr
        cases hk : i - vs.length with
        | succ k => rw [hk] at hv; simp at hv
        | zero =>
          rw [hk] at hv hr
          simp only [List.getElem?_cons_zero, Option.some.injEq] at hv hr
          rw [← hv, ← hr]
          exact hu
    · obtain ⟨cur, T, q1, q2⟩ := hcur
      exact ⟨cur, T, q1, by simpa using q2⟩
    · intro i b1 o1 n1 c1 hv hc
      exact hnb i b1 o1 n1 c1 hv hc
    · intro i j b1 o1 n1 c1 b2 o2 n2 c2 hij hv hc hv2 hc2 e
      subst e
      by_cases hi : i < vs.length
      · by_cases hj : j < vs.length
        · rw [List.getElem?_append_left hi] at hv
          rw [List.getElem?_append_left hj] at hv2
          exact hap2 i j b1 o1 n1 c1 b1 o2 n2 c2 hij hv hc hv2 hc2 rfl
        · rw [List.getElem?_append_left hi] at hv
          rw [List.getElem?_append_right (by omega)] at hv2
          cases hk : j - vs.length with
          | succ k => rw [hk] at hv2; simp at hv2
          | zero =>
            rw [hk] at hv2
            simp only [List.getElem?_cons_zero, Option.some.injEq] at hv2
            obtain ⟨o, q⟩ := hub b1 o2 n2 c2 hv2 hc2
            have := (H.sep2 h h3 _ _ b1 ho ho3 (.inr (hin i b1 o1 n1 c1 hv hc)) (.inl ⟨o, q⟩) hne3).1
            cases this
      · by_cases hj : j < vs.length
        · rw [List.getElem?_append_left hj] at hv2
          rw [List.getElem?_append_right (by omega)] at hv
          cases hk : i - vs.length with
          | succ k => rw [hk] at hv; simp at hv
          | zero =>
            rw [hk] at hv
            simp only [List.getElem?_cons_zero, Option.some.injEq] at hv
            obtain ⟨o, q⟩ := hub b1 o1 n1 c1 hv hc
            have := (H.sep2 h h3 _ _ b1 ho ho3 (.inr (hin j b1 o2 n2 c2 hv2 hc2)) (.inl ⟨o, q⟩) hne3).1
            cases this
        · have l1 := (List.getElem?_eq_some_iff.1 hv).1
          have l2 := (List.getElem?_eq_some_iff.1 hv2).1
          simp only [List.length_append, List.length_singleton] at l1 l2
          omega
  · intro b hb
    refine ⟨?_, fun x y hxn hy hbx => ?_, fun _ => ?_⟩
    · rcases hat2 b hb with q | q
      · exact q.2
      · exact Nat.lt_of_lt_of_le (hlt b q) hsize
    · have hy' : upd (upd (upd objs h3 none) h none) m (some ⟨false, .tab (ll ++ [l])⟩) x = some y := hy
      rw [upd_ne _ _ hxn] at hy'
      obtain ⟨n1, n2, hob⟩ := old x y hy'
      have hbx' := atold x b n1 n2 hbx
      rcases hat2 b hb with q | q
      · have := H.lt2 x y b hob hbx'
        omega
      · exact (hot b q x y n1 n2 hob hbx').elim
    · rcases hat2 b hb with q | q
      · have := H.size
        exact .inl (by omega)
      · exact hown b q
  · intro b o hb
    have hb' : upd φ m (some (b', o')) m = some (b, o) := hb
    rw [upd_same] at hb'
    cases hb'
    rcases hpl with ⟨o2, q⟩ | q
    · exact H.rng h ⟨false, .tab ll⟩ b' o2 ho q
    · have := H.size
      exact .inl (by omega)
  · intro b hb
    obtain ⟨i, o, n, c, hv, hc⟩ := hatm b hb
    by_cases hi : i < vs.length
    · rw [List.getElem?_append_left hi] at hv
      exact H.rngi h b (hin i b o n c hv hc)
    · rw [List.getElem?_append_right (by omega)] at hv
      cases hk : i - vs.length with
      | succ k => rw [hk] at hv; simp at hv
      | zero =>
        rw [hk] at hv
        simp only [List.getElem?_cons_zero, Option.some.injEq] at hv
        obtain ⟨o2, q⟩ := hub b o n c hv hc
        exact H.rng h3 ⟨false, .row (.int .i64) l⟩ b o2 ho3 q

/-- A table that is one's own, as the memory holds it. -/
theorem tab_reads (H : Heap w0 W0 (G objs φ seen w) w) {h : Nat} {ro : Bool} {ll : List (List Int)} {a : Value} (ho : objs h = some ⟨ro, .tab ll⟩) (hr : (SV.sl h .all).rep (G objs φ seen w) a) :
    ∃ A cap, ∃ vs : List Value, a = .slice A ll.length cap ∧ ll.length ≤ cap ∧ cap ≤ maxLen ∧ vs.length = ll.length ∧ (∀ (i : Nat) v r, vs[i]? = some v → ll[i]? = some r → rowAt w ro v r) ∧
      (∀ ad, A = some ad → ∀ (j : Nat) v, vs[j]? = some v → w.cell? (ad.add j) = some v) ∧ (A = none → vs = []) ∧
      (∀ (i : Nat) b1 o1 n1 c1, vs[i]? = some (.slice (some ⟨b1, o1, none⟩) n1 c1) → c1 ≠ 0 → (G objs φ seen w).inB h b1) ∧
      (ro = false → (∀ b, (∃ o, φ h = some (b, o)) → rowsApart b vs) ∧
        ∀ (i j : Nat) b1 o1 n1 c1 b2 o2 n2 c2, i ≠ j → vs[i]? = some (.slice (some ⟨b1, o1, none⟩) n1 c1) → c1 ≠ 0 → vs[j]? = some (.slice (some ⟨b2, o2, none⟩) n2 c2) → c2 ≠ 0 → b1 ≠ b2) ∧
      (cap = 0 ∨ ∃ b o, φ h = some (b, o) ∧ A = some ⟨b, o, none⟩ ∧ (∀ (i : Nat) v, vs[i]? = some v → w.cell? ⟨b, o + i, none⟩ = some v) ∧
        (ro = false → o + cap ≤ bsOf w b ∧ ∃ cur T, w.heap[b]? = some (.cells cur T (0, 0)))) := by
  obtain ⟨_, _, hs⟩ := hr
  simp only [Ctx.slOk, ho] at hs
  obtain ⟨A, cap, rfl, hlc, hcm, hc⟩ := hs trivial
  by_cases hc0 : cap = 0
  · have hl0 : ll = [] := List.eq_nil_of_length_eq_zero (by omega)
    subst hl0
    refine ⟨A, cap, [], rfl, hlc, hcm, rfl, ?_, ?_, ?_, ?_, fun _ => ⟨fun b _ => ⟨?_, ?_⟩, ?_⟩, .inl hc0⟩
    · intro i v r hv; simp at hv
    · intro ad _ j v hv; simp at hv
    · intro _; rfl
    · intro i b1 o1 n1 c1 hv; simp at hv
    · intro i b1 o1 n1 c1 hv; simp at hv
    · intro i j b1 o1 n1 c1 b2 o2 n2 c2 _ hv; simp at hv
    · intro i j b1 o1 n1 c1 b2 o2 n2 c2 _ hv; simp at hv
  · obtain ⟨b, o, hφ, rfl, hb⟩ := hc.resolve_left hc0
    rcases H.obj h _ ho with ⟨hn, _⟩ | ⟨b', o', hp', vs, hvl, hcell, hrow, hw⟩
    · have hn' : φ h = none := hn
      rw [hφ] at hn'
      cases hn'
    · have hp2 : φ h = some (b', o') := hp'
      rw [hφ] at hp2
      simp only [Option.some.injEq, Prod.mk.injEq] at hp2
      obtain ⟨rfl, rfl⟩ := hp2
      refine ⟨some ⟨b, o, none⟩, cap, vs, rfl, hlc, hcm, hvl, hrow, ?_, ?_, ?_, fun hro => ⟨fun b2 ⟨o2, hb2⟩ => ?_, ((hw hro).2).2⟩, .inr ⟨b, o, hφ, rfl, hcell, fun hro => ⟨?_, ?_⟩⟩⟩
      · intro ad e j v hv
        cases e
        rw [add_spot]
        exact hcell j v hv
      · intro e; cases e
      · intro i b1 o1 n1 c1 hv hc1
        exact ⟨ro, ll, b, o, i, o1, n1, c1, ho, hφ, by have := (List.getElem?_eq_some_iff.1 hv).1; omega, hcell i _ hv, hc1⟩
      · rw [hφ] at hb2
        cases hb2
        exact (hw hro).2
      · exact hb hro
      · obtain ⟨⟨cur, T, q, _⟩, _⟩ := hw hro
        exact ⟨cur, T, q⟩

theorem appendT_does (hT : TyOk P ty) (H : Heap w0 W0 (G objs φ seen w) w) {t u d rt : Nat} {s y : SV} {a b : Value} {e : Eff} (hk : (ty t).kind = .slice u) (hsz : (ty u).size = 1) (hbig : (ty u).big = false) (hzero : (ty u).zero = [.nil])
    (h : appendT ty u objs seen d s y some = some e) (rs : s.rep (G objs φ seen w) a) (ry : y.rep (G objs φ seen w) b) :
    Does P w0 W0 objs φ seen w e (do pure (.value (← Builtin.append_ #[t, t] rt #[a, b])) : Sem Next) := by
  unfold appendT at h
  split at h
  · rename_i ku hh h2 hku
    split at h
    · rename_i ll ro2 h3 ho ho2 hseen
      split at h
      · rename_i l ho3
        split at h
        · rename_i hlen
          simp only [Option.some.injEq] at h
          subst h
          -- the type of a row
          obtain ⟨dd, i, z, _, hi, _, hisz, hbytes, hz, h8, _, _⟩ := (ty_kind hT hku (by simp)).ok
          have his : i.size = 1 := by rw [hisz, hsz]
          have hzl := h8 hbig
          rw [hzero] at hzl
          have hzs : z.cells.size = 1 := by
            have := (zeroOk_rep (Γ := G objs φ seen w) hzl).2.2
            simpa using this.symm
          have ht := ty_slice hT hk
          -- the row
          obtain ⟨hs2, _, hsl2⟩ := ry
          simp only [Ctx.slOk, ho2] at hsl2
          obtain ⟨b2, o2, c2, hφ2, rfl⟩ := hsl2 trivial
          obtain ⟨b2', o2', hφ2', us, hus, _, hcell2, _⟩ := H.obj h2 _ ho2
          have hp2 : φ h2 = some (b2', o2') := hφ2'
          rw [hφ2] at hp2
          simp only [Option.some.injEq, Prod.mk.injEq] at hp2
          obtain ⟨rfl, rfl⟩ := hp2
          obtain ⟨x, xs, rfl, hx, hxs⟩ := hus
          simp only [SV.repL] at hxs
          subst hxs
          have hsh3 : seen h3 = true := hx.1
          have hsh : seen hh = true := rs.1
          obtain ⟨hrow, hrb⟩ := row_at H ho3 hx
          have hx1 : x.oneCell' = true := by
            obtain ⟨_, ⟨A, n, c, rfl⟩, _⟩ := hx
            rfl
          have e1 : [SV.sl h3 .all].length = 1 := rfl
          rw [e1]
          -- the table
          obtain ⟨A, cap, vs, rfl, hlc, hcm, hvl, hvr, hrd, hnil, hin, hap, hplace⟩ := tab_reads H ho rs
          obtain ⟨hap1, hap2⟩ := hap rfl
          have hlo : vs.length = ll.length * i.size := by rw [his, Nat.mul_one]; exact hvl
          have hln : [x].length = 1 * i.size := by rw [his]; rfl
          have hrn : ∀ ad, (some (⟨b2, o2, none⟩ : Addr)) = some ad → ∀ (j : Nat) v, [x][j]? = some v → w.cell? (ad.add j) = some v := by
            intro ad e j v hv
            cases e
            rw [add_spot]
            exact hcell2 j v hv
          by_cases hg : ll.length + 1 ≤ cap
          · -- there is room
            obtain ⟨b, o, hφ, rfl, hcell, hw⟩ := hplace.resolve_left (by omega)
            obtain ⟨hbnd, cur, T, hcur⟩ := hw rfl
            have hbs : bsOf w b = cur.size := by unfold bsOf; rw [hcur]
            rw [hbs] at hbnd
            have hfit : o + ll.length + [x].length ≤ cur.size := by simp only [List.length_singleton]; omega
            have hst := storeCells_ok (P := P) (o := o + ll.length) hcur [x] hfit (by simpa using hx1)
            have hrun := append_room (P := P) (w := w) (rt := rt) (c2 := c2) (A := some ⟨b, o, none⟩) (n := ll.length) (cap := cap) ht hi hln hrn (fun q => by cases q) hg
              (fun a ha => by cases ha; rw [add_spot, his, Nat.mul_one]; exact hst) (fun q => by cases q)
            obtain ⟨q1, q2⟩ := tab_join H (m := nm d 0) ho ho3 hseen hsh hsh3 hvl hvr hin hap1 hap2 hrow hrb (w' := w.setRow b (cur.toList.take (o + ll.length) ++ [x] ++ cur.toList.drop (o + ll.length + [x].length)).toArray) (B := some b) (b' := b) (o' := o) rfl rfl rfl (by simp) (Nat.le_refl _)
              (fun b' _ q => setRow_other w b b' _ (fun q' => q (by rw [q']))) (fun b' e => by cases e; exact ⟨o, hφ⟩) (fun b' e => by cases e; exact .inl ⟨cur, _, T, (0, 0), hcur, setRow_heap w b cur _ T (0, 0) hcur, by simp at hfit ⊢; omega⟩)
              (fun b' _ => bsOf_setRow hcur (by simp at hfit ⊢; omega) b') (.inl ⟨o, hφ⟩)
              (fun k v hv => by
                rw [cell_setRow_same w b _ _ _ T (0, 0) hcur]
                rw [List.getElem?_toArray, splice_get _ _ _ _ (by simpa using hfit)]
                by_cases hkn : k < ll.length
                · rw [if_neg (by omega)]
                  rw [List.getElem?_append_left (by omega)] at hv
                  have := hcell k v hv
                  simpa [World.cell?, hcur] using this
                · rw [List.getElem?_append_right (by omega)] at hv
                  have hk2 := (List.getElem?_eq_some_iff.1 hv).1
                  simp only [List.length_singleton] at hk2
                  rw [if_pos ⟨by omega, by simp only [List.length_singleton]; omega⟩, ← hv]
                  congr 1
                  omega)
              ⟨_, T, setRow_heap w b cur _ T (0, 0) hcur, by simp at hfit ⊢; omega⟩
            refine ⟨_, .slice (some ⟨b, o, none⟩) (ll.length + 1) cap, _, upd φ (nm d 0) (some (b, o)), by rw [Sem.run_bind, hrun]; rfl, .inl rfl, ?_, q1, q2⟩
            refine ⟨upd_same _ _ _, ⟨_, _, _, rfl⟩, ?_⟩
            simp only [Ctx.slOk, wrObjs, upd_same]
            intro _
            refine ⟨some ⟨b, o, none⟩, cap, by simp, by simpa using hg, hcm, .inr ⟨b, o, rfl, rfl, fun _ => ?_⟩⟩
            rw [bsOf_setRow hcur (by simp at hfit ⊢; omega) b, hbs]
            exact hbnd
          · -- a new array
            have hg' : cap < ll.length + 1 := by omega
            have hrun := append_grow (P := P) (w := w) (rt := rt) (c2 := c2) ht hi hz hlo hrd hnil hln hrn (fun q => by cases q) hg' (by omega) (.inr (by
              have := Nat.mul_le_mul (show ll.length + 1 ≤ 1048576 by omega) hbytes
              omega))
            have hge := grownCap_ge w (ll.length + 1) cap u
            have hcap := grownCap_le_maxLen w (ll.length + 1) cap u (by unfold maxLen; omega)
            generalize grownCap w (ll.length + 1) cap u = gc at hrun hge hcap
            have hsize : (vs.toArray ++ [x].toArray ++ Builtin.zeroCells z.cells (gc - (ll.length + 1))).size = gc := by
              simp only [Array.size_append, List.size_toArray, size_zeroCells, hzs, hvl, List.length_singleton]
              omega
            have hdsz : w.drew.heap.size = w.heap.size := rfl
            obtain ⟨q1, q2⟩ := tab_join H (m := nm d 0) ho ho3 hseen hsh hsh3 hvl hvr hin hap1 hap2 hrow hrb (w' := w.drew.alloc (.cells (vs.toArray ++ [x].toArray ++ Builtin.zeroCells z.cells (gc - (ll.length + 1))) u)) (B := none) (b' := w.heap.size) (o' := 0) rfl rfl rfl (by rw [← hdsz]; simp) (by show w.drawn ≤ w.drawn + 1; omega)
              (fun b' hb' _ => heap_alloc_old w.drew _ b' hb') (fun b' e => by cases e) (fun b' e => by cases e)
              (fun b' hb' => bsOf_alloc w.drew _ b' hb') (.inr ⟨rfl, by rw [← hdsz]; simp⟩)
              (fun k v hv => by
                have hk2 := (List.getElem?_eq_some_iff.1 hv).1
                rw [Nat.zero_add]
                have : (w.drew.alloc (.cells (vs.toArray ++ [x].toArray ++ Builtin.zeroCells z.cells (gc - (ll.length + 1))) u)).cell? ⟨w.drew.heap.size, k, none⟩ = (vs.toArray ++ [x].toArray ++ Builtin.zeroCells z.cells (gc - (ll.length + 1)))[k]? := World.cell?_alloc_new ..
                rw [hdsz] at this
                rw [this, Array.getElem?_append_left (by simpa using hk2)]
                simpa using hv)
              ⟨_, u, alloc_get w.drew _, by rw [hsize]; omega⟩
            refine ⟨_, .slice (some ⟨w.heap.size, 0, none⟩) (ll.length + 1) gc, _, upd φ (nm d 0) (some (w.heap.size, 0)), by rw [Sem.run_bind, hrun]; rfl, .inl rfl, ?_, q1, q2⟩
            refine ⟨upd_same _ _ _, ⟨_, _, _, rfl⟩, ?_⟩
            simp only [Ctx.slOk, wrObjs, upd_same]
            intro _
            refine ⟨_, gc, by simp, by simpa using hge, hcap, .inr ⟨w.heap.size, 0, rfl, rfl, fun _ => ?_⟩⟩
            have : bsOf (w.drew.alloc (.cells (vs.toArray ++ [x].toArray ++ Builtin.zeroCells z.cells (gc - (ll.length + 1))) u)) w.drew.heap.size = gc := by
              unfold bsOf
              rw [alloc_get]
              exact hsize
            rw [hdsz] at this
            rw [this]
            omega
        · simp at h
      · simp at h
    · simp at h
  · simp at h

/-- From now on nobody changes the table. -/
theorem Heap.freeze (H : Heap w0 W0 (G objs φ seen w) w) {h : Nat} {ll : List (List Int)} (ho : objs h = some ⟨false, .tab ll⟩) :
    Heap w0 W0 (G (upd objs h (some ⟨true, .tab ll⟩)) φ (upd seen h true) w) w ∧ (G objs φ seen w).le (G (upd objs h (some ⟨true, .tab ll⟩)) φ (upd seen h true) w) := by
  have hle : (G objs φ seen w).le (G (upd objs h (some ⟨true, .tab ll⟩)) φ (upd seen h true) w) := by
    refine le_of (fun x hx => ?_) (fun x hx => ?_)
    · show upd seen h true x = true
      rw [upd_eq]; split
      · rfl
      · exact hx
    · by_cases e : x = h
      · subst e
        exact .inr ⟨_, _, ho, upd_same _ _ _, ⟨fun _ => rfl, rfl⟩, rfl, fun _ _ _ => rfl⟩
      · show upd objs h _ x = none ∨ _
        rw [upd_ne _ _ e]
        cases hx' : objs x with
        | none => exact .inl rfl
        | some y => exact .inr ⟨y, y, hx', by show upd objs h _ x = some y; rw [upd_ne _ _ e]; exact hx', AO.like.refl y, rfl, fun _ _ _ => rfl⟩
  have hin : ∀ b, (G (upd objs h (some ⟨true, .tab ll⟩)) φ (upd seen h true) w).inB h b → (G objs φ seen w).inB h b := by
    rintro b ⟨ro, ll', b0, o0, i, o, n, c, h1, h2, h3, h4, h5⟩
    have h1' : upd objs h (some ⟨true, .tab ll⟩) h = some ⟨ro, .tab ll'⟩ := h1
    rw [upd_same] at h1'
    cases h1'
    exact ⟨false, ll, b0, o0, i, o, n, c, ho, h2, h3, h4, h5⟩
  refine ⟨H.step2 h ⟨true, .tab ll⟩ none hle rfl rfl rfl (Nat.le_refl _) (fun _ _ _ => rfl) (fun b e => by cases e) (fun b e => by cases e) (fun _ => rfl) (fun _ _ => rfl) (fun x y hxn hy => ?_) (upd_same _ _ _) (upd_same _ _ _) ?_ (fun b hb => ?_) (fun b o hb => H.rng h ⟨false, .tab ll⟩ b o ho hb) (fun b hb => H.rngi h b (hin b hb)), hle⟩
  · have hy' : upd objs h (some ⟨true, .tab ll⟩) x = some y := hy
    rw [upd_ne _ _ hxn] at hy'
    exact ⟨hy', rfl, fun b _ e => by cases e⟩
  · rcases H.obj h _ ho with ⟨q1, q2⟩ | ⟨b, o, q1, vs, q2, q3, q4, q5⟩
    · exact .inl ⟨q1, q2⟩
    · refine .inr ⟨b, o, q1, vs, q2, q3, fun i v r hv hr => ?_, fun e => by cases e⟩
      obtain ⟨A, cap, e1, e2, e3, e4⟩ := q4 i v r hv hr
      refine ⟨A, cap, e1, e2, e3, ?_⟩
      rcases e4 with e4 | ⟨b1, o1, k1, k2, k3⟩
      · exact .inl e4
      · exact .inr ⟨b1, o1, k1, k2, fun e => by cases e⟩
  · have hb' : (G objs φ seen w).at h b := by
      rcases hb with hb | hb
      · exact .inl hb
      · exact .inr (hin b hb)
    refine ⟨H.lt2 h _ b ho hb', fun x y hxn hy hbx => ?_, fun e => by cases e⟩
    have hy' : upd objs h (some ⟨true, .tab ll⟩) x = some y := hy
    rw [upd_ne _ _ hxn] at hy'
    have := (H.sep2 x h y _ b hy' ho hbx hb' hxn).2
    cases this

/-- A row of a table that nobody changes. -/
theorem row_out (H : Heap w0 W0 (G objs φ seen w) w) {h i m : Nat} {ll : List (List Int)} {a : Value} (ho : objs h = some ⟨true, .tab ll⟩) (hi : i < ll.length) (hsm : seen m = false) (hr : (SV.ptr h i).rep (G objs φ seen w) a) :
    ∃ (ad : Addr) (v : Value) (pl : Option (Nat × Nat)), a = .pointer (some ad) ∧ w.cell? ad = some v ∧ (∃ A n c, v = .slice A n c) ∧
      (SV.sl m .all).rep (G (upd objs m (some ⟨true, .row (.int .i64) (ll.getD i [])⟩)) (upd φ m pl) (upd seen m true) w) v ∧
      Heap w0 W0 (G (upd objs m (some ⟨true, .row (.int .i64) (ll.getD i [])⟩)) (upd φ m pl) (upd seen m true) w) w ∧
      (G objs φ seen w).le (G (upd objs m (some ⟨true, .row (.int .i64) (ll.getD i [])⟩)) (upd φ m pl) (upd seen m true) w) := by
  obtain ⟨hsh, _, hp⟩ := hr
  simp only [Ctx.ptrOk, ho] at hp
  obtain ⟨b, o, hφ, rfl⟩ := hp
  rcases H.obj h _ ho with ⟨hn, _⟩ | ⟨b', o', hp', vs, hvl, hcell, hrow, _⟩
  · have hn' : φ h = none := hn
    rw [hφ] at hn'
    cases hn'
  have hp2 : φ h = some (b', o') := hp'
  rw [hφ] at hp2
  simp only [Option.some.injEq, Prod.mk.injEq] at hp2
  obtain ⟨rfl, rfl⟩ := hp2
  have hv : vs[i]? = some vs[i] := List.getElem?_eq_getElem (by omega)
  have hl : ll[i]? = some (ll.getD i []) := by
    rw [List.getD_eq_getElem?_getD, List.getElem?_eq_getElem hi]
    rfl
  generalize vs[i] = v at hv
  generalize ll.getD i [] = l at hl
  obtain ⟨A, cap, rfl, hlc, hcm, hc⟩ := hrow i v l hv hl
  have hc0 := hcell i _ hv
  have hne : h ≠ m := fun e => by
    have hsh' : seen h = true := hsh
    rw [← e, hsh'] at hsm; cases hsm
  obtain ⟨pl, hpl, hblk⟩ : ∃ pl : Option (Nat × Nat), (cap = 0 ∨ ∃ b1 o1, pl = some (b1, o1) ∧ A = some ⟨b1, o1, none⟩) ∧ ((pl = none ∧ l = []) ∨ ∃ b1 o1, pl = some (b1, o1) ∧ (∀ (j : Nat) x, l[j]? = some x → w.cell? ⟨b1, o1 + j, none⟩ = some (.int .i64 x)) ∧ (G objs φ seen w).inB h b1) := by
    by_cases hz : cap = 0
    · exact ⟨none, .inl hz, .inl ⟨rfl, List.eq_nil_of_length_eq_zero (by omega)⟩⟩
    · obtain ⟨b1, o1, rfl, k1, _⟩ := hc.resolve_left hz
      exact ⟨some (b1, o1), .inr ⟨b1, o1, rfl, rfl⟩, .inr ⟨b1, o1, rfl, k1, ⟨true, ll, b, o, i, o1, l.length, cap, ho, hφ, hi, hc0, hz⟩⟩⟩
  have hle : (G objs φ seen w).le (G (upd objs m (some ⟨true, .row (.int .i64) l⟩)) (upd φ m pl) (upd seen m true) w) := by
    refine le_of (fun x hx => ?_) (fun x hx => ?_)
    · show upd seen m true x = true
      rw [upd_eq]; split
      · rfl
      · exact hx
    · have hxn : x ≠ m := fun q => by
        have hx' : seen x = true := hx
        rw [q, hsm] at hx'; cases hx'
      show upd objs m _ x = none ∨ _
      rw [upd_ne _ _ hxn]
      cases hx' : objs x with
      | none => exact .inl rfl
      | some y => exact .inr ⟨y, y, hx', by show upd objs m _ x = some y; rw [upd_ne _ _ hxn]; exact hx', AO.like.refl y, by show upd φ _ _ x = φ x; rw [upd_ne _ _ hxn], fun _ _ _ => rfl⟩
  have hat : ∀ b2 o2, upd φ m pl m = some (b2, o2) → (G objs φ seen w).inB h b2 := by
    intro b2 o2 e
    rw [upd_same] at e
    rcases hblk with ⟨q, _⟩ | ⟨b1, o1, q, _, q3⟩
    · rw [q] at e; cases e
    · rw [q] at e; cases e; exact q3
  refine ⟨_, _, pl, rfl, hc0, ⟨_, _, _, rfl⟩, ?_, H.step m ⟨true, .row (.int .i64) l⟩ none hle rfl rfl rfl (Nat.le_refl _) (fun _ _ _ => rfl) (fun b e => by cases e) (fun b e => by cases e) (fun _ => rfl) (fun _ _ => rfl) (fun x y hxn hy => ?_) (upd_same _ _ _) (upd_same _ _ _) ?_ (fun _ q => by cases q) (fun b2 o2 hb2 => ?_), hle⟩
  · refine ⟨upd_same _ _ _, ⟨_, _, _, rfl⟩, ?_⟩
    simp only [Ctx.slOk, upd_same]
    refine ⟨trivial, A, cap, rfl, ⟨hlc, by simpa [Win.off] using hlc⟩, hcm, ?_⟩
    rcases hpl with q | ⟨b1, o1, q1, q2⟩
    · exact .inl q
    · exact .inr ⟨b1, o1, q1, by rw [q2]; simp [Win.off], fun e => by cases e⟩
  · have hy' : upd objs m (some ⟨true, .row (.int .i64) l⟩) x = some y := hy
    rw [upd_ne _ _ hxn] at hy'
    exact ⟨hy', by show upd φ _ _ x = φ x; rw [upd_ne _ _ hxn], fun b _ e => by cases e⟩
  · rcases hblk with ⟨q1, q2⟩ | ⟨b1, o1, q1, q2, q3⟩
    · exact .inl ⟨by show upd φ m pl m = none; rw [upd_same]; exact q1, q2⟩
    · refine .inr ⟨b1, o1, by show upd φ m pl m = _; rw [upd_same]; exact q1, fun j v hv => ?_, fun e => by cases e⟩
      rw [encAll_i64, List.getElem?_map] at hv
      cases hj : l[j]? with
      | none => rw [hj] at hv; cases hv
      | some x =>
        rw [hj] at hv
        simp only [Option.map_some, Option.some.injEq] at hv
        rw [← hv]
        exact q2 j x hj
  · have hb3 := hat b2 o2 hb2
    refine ⟨H.lt2 h _ b2 ho (.inr hb3), fun x y hxn hy hbx => ?_, (fun e => by cases e), H.rngi h b2 hb3⟩
    have hy' : upd objs m (some ⟨true, .row (.int .i64) l⟩) x = some y := hy
    rw [upd_ne _ _ hxn] at hy'
    refine ⟨?_, rfl⟩
    by_cases e : x = h
    · subst e
      rw [ho] at hy'
      cases hy'
      rfl
    · exact (H.sep2 x h y _ b2 hy' ho hbx (.inr hb3) e).1

theorem vecParts_nil : ∀ {i : Nat} {ps : List (Nat × SV)}, vecParts i ps = some [] → ps = []
  | i, [], _ => rfl
  | i, (j, v) :: r, h => by
    simp only [vecParts] at h
    split at h
    · split at h <;> simp at h
    · split at h <;> simp at h
    · simp at h
/-- A table without rows. -/
theorem buildTab_does (hT : TyOk P ty) (H : Heap w0 W0 (G objs φ seen w) w) {a : Act} {t u e0 d : Nat} (hk : (ty t).kind = .slice u) (hku : (ty u).kind = .slice e0) (hsz : (ty u).size = 1) (hs : seen (nm d 0) = false) :
    Does P w0 W0 objs φ seen w ⟨.sl (nm d 0) .all, [(nm d 0, some ⟨false, .tab []⟩)], []⟩ (do pure (.value (← Instr.buildSlice t 0 ((#[] : Array (Nat × Operand)).map fun (i, x) => (i, a.eval x)))) : Sem Next) := by
  have hu : TyAt P u (ty u) := ty_kind hT hku (by simp)
  have hF := H.fresh (nm d 0) hs ⟨false, .tab []⟩ #[] u (fun Γ' hle hp ho => .inr ⟨_, _, hp, [], rfl, fun i v hv => by simp at hv, fun i v r hv => by simp at hv, fun _ => ⟨⟨#[], u, alloc_get w _, by simp⟩, fun i b1 o1 n1 c1 hv => by simp at hv, fun i j b1 o1 n1 c1 b2 o2 n2 c2 _ hv => by simp at hv⟩⟩) (.inl rfl)
  refine ⟨_, .slice (some ⟨w.heap.size, 0, none⟩) 0 0, w.alloc (.cells #[] u), upd φ (nm d 0) (some (w.heap.size, 0)), ?_, .inl rfl, ?_, hF.1, hF.2⟩
  · have hbig : ¬ 0 * 1 > 2 ^ 24 := by omega
    simp only [Instr.buildSlice, Sem.run_bind, run_underlying (ty_slice hT hk), Result.andThen_ok, sizeOf_ty hu, hsz]
    rw [Sem.run_ite, if_neg hbig]
    have e0 : ∀ f : Nat → Value, (Array.range 0).map f = #[] := fun f => by simp
    simp [Instr.fill, newRow]
    exact congrArg (fun c => w.alloc (.cells c u)) (e0 _)
  · refine ⟨upd_same _ _ _, ⟨_, _, _, rfl⟩, ?_⟩
    simp only [Ctx.slOk, wrObjs, upd_same]
    exact fun _ => ⟨_, 0, rfl, Nat.le_refl _, Nat.zero_le _, .inl rfl⟩

theorem loadT_does (hT : TyOk P ty) (H : Heap w0 W0 (G objs φ seen w) w) {t d : Nat} {x : SV} {a : Value} {e : Eff} (h : loadT ty t x objs seen d some = some e) (r : x.rep (G objs φ seen w) a) :
    Does P w0 W0 objs φ seen w e (do pure (.value (← Instr.loadAt t a)) : Sem Next) := by
  unfold loadT at h
  split at h
  · rename_i hh i ro ll hx
    unfold tabAt at hx
    split at hx
    · rename_i h1 i1
      split at hx
      · rename_i ro1 ll1 ho
        simp only [Option.some.injEq, Prod.mk.injEq] at hx
        obtain ⟨rfl, rfl, rfl, rfl⟩ := hx
        unfold loadR at h
        split at h
        · rename_i ku hku hseen
          split at h
          · rename_i hi
            have hty : TyAt P t (ty t) := ty_kind hT hku (by simp)
            have hag : (ty t).isAgg = false := by unfold TI.isAgg; rw [hku]
            have run : ∀ {ad : Addr} {v : Value}, a = .pointer (some ad) → w.cell? ad = some v → (do pure (.value (← Instr.loadAt t a)) : Sem Next).run P w = .ok (.value v) w := by
              intro ad v e1 e2
              rw [e1]
              simp only [Instr.loadAt, Instr.sureAddr, loadVar, Sem.run_bind, Sem.run_pure, Result.andThen_ok, isAgg_ty hty, hag, Bool.false_eq_true, if_false, run_load, e2]
            split at h
            · simp only [Option.some.injEq] at h
              subst h
              obtain ⟨ad, v, pl, e1, e2, _, q1, q2, q3⟩ := row_out H ho hi hseen r
              exact ⟨_, v, w, upd φ (nm d 0) pl, run e1 e2, .inl rfl, q1, q2, q3⟩
            · simp only [Option.some.injEq] at h
              subst h
              obtain ⟨F1, F2⟩ := H.freeze ho
              have hne : nm d 0 ≠ h1 := fun e => by
                have hsh : seen h1 = true := r.1
                rw [e, hsh] at hseen
                cases hseen
              have hs2 : upd seen h1 true (nm d 0) = false := by rw [upd_ne _ _ hne]; exact hseen
              obtain ⟨ad, v, pl, e1, e2, _, q1, q2, q3⟩ := row_out (objs := upd objs h1 (some ⟨true, .tab ll1⟩)) (seen := upd seen h1 true) F1 (upd_same _ _ _) hi hs2 (SV.rep_le F2 _ _ r)
              exact ⟨_, v, w, upd φ (nm d 0) pl, run e1 e2, .inl rfl, q1, q2, F2.trans q3⟩
          · simp at h
        · simp at h
      · simp at hx
    · simp at hx
  · obtain ⟨v, h1, h2, h3⟩ := load_ok hT H h r
    refine ⟨_, v, w, φ, by rw [Sem.run_bind, h1]; rfl, .inl rfl, ?_, ?_, ?_⟩
    all_goals simp only [Af, h2, wrObjs, wrSeen]
    · exact h3
    · exact H
    · exact Ctx.le.refl _
end
end Go.Fx
end

noncomputable section
set_option linter.unusedVariables false
set_option linter.unusedSimpArgs false
set_option autoImplicit false
namespace Go.Fx
open Go
section
variable {P : Program} {w0 : World} {W0 : Nat → Option (Option EK) → Prop} {objs : Nat → Option AO} {φ : Nat → Option (Nat × Nat)} {seen : Nat → Bool} {w : World} {ty : Ty}

/-- A name without memory. -/
theorem Heap.void (H : Heap w0 W0 (G objs φ seen w) w) (m : Nat) (hs : seen m = false) (e : EK) :
    Heap w0 W0 (G (upd objs m (some ⟨false, .row e []⟩)) (upd φ m none) (upd seen m true) w) w ∧ (G objs φ seen w).le (G (upd objs m (some ⟨false, .row e []⟩)) (upd φ m none) (upd seen m true) w) := by
  have hle2 : (G objs φ seen w).le (G (upd objs m (some ⟨false, .row e []⟩)) (upd φ m none) (upd seen m true) w) := by
    refine le_of (fun x hx => ?_) (fun x hx => ?_)
    · show upd seen m true x = true
      rw [upd_eq]; split
      · rfl
      · exact hx
    · have hxn : x ≠ m := fun q => by
        have hx' : seen x = true := hx
        rw [q, hs] at hx'; cases hx'
      show upd objs m _ x = none ∨ _
      rw [upd_ne _ _ hxn]
      cases hx' : objs x with
      | none => exact .inl rfl
      | some y => exact .inr ⟨y, y, hx', by show upd objs m _ x = some y; rw [upd_ne _ _ hxn]; exact hx', AO.like.refl y, by show upd φ _ _ x = φ x; rw [upd_ne _ _ hxn], fun _ _ _ => rfl⟩
  refine ⟨H.step m ⟨false, .row e []⟩ none hle2 rfl rfl rfl (Nat.le_refl _) (fun _ _ _ => rfl) (fun b hb => by cases hb) (fun b hb => by cases hb) (fun _ => rfl) (fun _ _ => rfl)
    (fun x y hxn hy => by
      have hy' : upd objs m (some ⟨false, .row e []⟩) x = some y := hy
      rw [upd_ne _ _ hxn] at hy'
      exact ⟨hy', by show upd φ _ _ x = φ x; rw [upd_ne _ _ hxn], fun b _ q => by cases q⟩)
    (upd_same _ _ _) (upd_same _ _ _) (.inl ⟨upd_same _ _ _, rfl⟩) (fun _ q => by cases q) (fun b o hb => by
      have hb' : upd φ m none m = some (b, o) := hb
      rw [upd_same] at hb'; cases hb'), hle2⟩

theorem void_rep (m : Nat) (e : EK) {A : Option Addr} : (SV.sl m .all).rep (G (upd objs m (some ⟨false, .row e []⟩)) (upd φ m none) (upd seen m true) w) (.slice A 0 0) := by
  refine ⟨upd_same _ _ _, ⟨_, _, _, rfl⟩, ?_⟩
  simp only [Ctx.slOk, upd_same]
  exact ⟨trivial, A, 0, rfl, ⟨Nat.le_refl _, Nat.zero_le _⟩, Nat.zero_le _, .inl rfl⟩

theorem appendO_does (hT : TyOk P ty) (H : Heap w0 W0 (G objs φ seen w) w) {t u d rt : Nat} {k : EK} {s y : SV} {a b : Value} {e : Eff} (hk : (ty t).kind = .slice u) (hek : (ty u).ek = some k)
    (h : appendO k objs seen d s y some = some e) (rs : s.rep (G objs φ seen w) a) (ry : y.rep (G objs φ seen w) b) :
    Does P w0 W0 objs φ seen w e (do pure (.value (← Builtin.append_ #[t, t] rt #[a, b])) : Sem Next) := by
  unfold appendO at h
  split at h
  · rename_i hh w1 h2 w2
    split at h
    · rename_i e1 l1 ro e2 l2 ho ho2 hseen
      split at h
      · rename_i he
        subst he
        split at h
        · rename_i he2
          subst he2
          split at h
          · rename_i hlen
            simp only [Option.some.injEq] at h
            subst h
            obtain ⟨hs1, ⟨A, n, cap, rfl⟩, hsl⟩ := rs
            obtain ⟨hs2, ⟨B, m, c2, rfl⟩, hsl2⟩ := ry
            obtain ⟨hm, _, _, hrd, hnil, _⟩ := sl_reads H ho2 hsl2
            exact append_main hT H hk hek ho hsl hseen hs1 hm hrd hnil hlen _
          · simp at h
        · simp at h
      · simp at h
    · simp at h
  · rename_i h2 w2
    split at h
    · rename_i ro e2 l2 ho2 hseen
      split at h
      · rename_i he2
        subst he2
        split at h
        · rename_i hlen
          simp only [Option.some.injEq] at h
          subst h
          simp only [SV.rep] at rs
          subst rs
          obtain ⟨hs2, ⟨B, m, c2, rfl⟩, hsl2⟩ := ry
          obtain ⟨hm, hmc, _, hrd, hnil, _⟩ := sl_reads H ho2 hsl2
          have hu := ty_ek hT hek
          have hsz := ek_size hu hek
          obtain ⟨dd, i, z, _, hi, _, hisz, _, hz, _, _, h9⟩ := hu.ok
          obtain ⟨_, _, hbytes, hzero⟩ := h9 e2 hek
          have hzc := zeroOk_cv1 (enc_lits e2 _) hzero
          have hzs : z.cells.size = e2.sz := by rw [← Array.length_toList, hzc, enc_length]
          have his : i.size = e2.sz := by rw [hisz, hsz]
          have ht := ty_slice hT hk
          have hlen : (w2.view l2).length ≤ 4398046511104 := hlen
          have hln : (encAll e2 (w2.view l2)).length = m * i.size := by rw [encAll_length, his, hm]
          by_cases hm0 : m = 0
          · subst hm0
            have hv0 : w2.view l2 = [] := List.eq_nil_of_length_eq_zero hm.symm
            have hrun := append_room (P := P) (w := w) (rt := rt) (c2 := c2) (w' := w) (A := none) (n := 0) (cap := 0) ht hi hln hrd (fun q => by rw [hnil q]; rfl) (by omega) (fun a ha => by cases ha) (fun _ => rfl)
            obtain ⟨q1, q2⟩ := H.void (nm d 0) hseen e2
            refine ⟨_, _, w, upd φ (nm d 0) none, by rw [Sem.run_bind, hrun]; rfl, .inl rfl, ?_, ?_, ?_⟩
            all_goals
              simp only [Af, wrObjs, wrSeen]
              rw [show w2.view (castRow rfl l2) = [] from hv0]
            · exact void_rep _ _
            · exact q1
            · exact q2
          · have hrun := append_grow (P := P) (w := w) (rt := rt) (c2 := c2) (A := none) (n := 0) (cap := 0) (olds := []) ht hi hz (by simp) (fun _ q => by cases q) (fun _ => rfl) hln hrd (fun q => by rw [hnil q]; rfl) (by omega) (by omega) (.inr (by
              have := Nat.mul_le_mul (show 0 + m ≤ 4398046511104 by omega) hbytes
              omega))
            have hge := grownCap_ge w (0 + m) 0 u
            have hcap := grownCap_le_maxLen w (0 + m) 0 u (by unfold maxLen; omega)
            generalize grownCap w (0 + m) 0 u = gc at hrun hge hcap
            have Hd : Heap w0 W0 (G objs φ seen w.drew) w.drew := H.drew
            have hled : (G objs φ seen w).le (G objs φ seen w.drew) := ⟨fun _ q => q, fun _ _ _ _ q => q, fun _ _ _ _ q => q, fun _ _ _ _ _ q => q, fun _ _ _ q => q⟩
            have hsize : ((([] : List Value)).toArray ++ (encAll e2 (w2.view l2)).toArray ++ Builtin.zeroCells z.cells (gc - (0 + m))).size = gc * e2.sz := by
              simp only [Array.size_append, List.size_toArray, size_zeroCells, hzs, hln, his, List.length_nil, Nat.zero_add, ← Nat.add_mul]
              congr 1
              omega
            obtain ⟨q1, q2, q3⟩ := row_new Hd (m := nm d 0) (n := 0 + m) (cap := gc) (T := u) (e := e2) (l := w2.view l2)
              (cur := ([] : List Value).toArray ++ (encAll e2 (w2.view l2)).toArray ++ Builtin.zeroCells z.cells (gc - (0 + m))) hseen (by omega) hge hcap (by rw [hsize]; exact Nat.le_refl _)
              (fun k v hv => by
                have hk2 := (List.getElem?_eq_some_iff.1 hv).1
                rw [Array.getElem?_append_left (by simpa using hk2)]
                simpa using hv)
            exact ⟨_, _, _, _, by rw [Sem.run_bind, hrun]; rfl, .inl rfl, q1, q2, hled.trans q3⟩
        · simp at h
      · simp at h
    · simp at h
  · rename_i hh w1
    split at h
    · rename_i e1 l1 ho
      simp only [Option.some.injEq] at h
      subst h
      have rs' := rs
      obtain ⟨hs1, ⟨A, n, cap, rfl⟩, hsl⟩ := rs
      simp only [SV.rep] at ry
      subst ry
      obtain ⟨hn, hnc, _⟩ := sl_reads H ho hsl
      obtain ⟨dd, i, z, _, hi, _⟩ := (ty_ek hT hek).ok
      have hrun := append_room (P := P) (w := w) (rt := rt) (c2 := 0) (w' := w) (A := A) (n := n) (cap := cap) (B := none) (m := 0) (news := []) (ty_slice hT hk) hi (by simp) (fun _ q => by cases q) (fun _ => rfl) (by omega) (fun a ha => rfl) (fun _ => rfl)
      exact does_pure H (by rw [Sem.run_bind, hrun]; rfl) rfl rs'
    · simp at h
  · simp at h

theorem lenOf_ok {x : SV} {a : Value} {n : Nat} (h : lenOf objs x = some n) (r : x.rep (G objs φ seen w) a) : ∃ A c, a = .slice A n c := by
  unfold lenOf at h
  split at h
  · split at h
    · rename_i ro e l ho
      simp only [Option.some.injEq] at h
      subst h
      obtain ⟨_, _, hp⟩ := r
      simp only [Ctx.slOk, ho] at hp
      obtain ⟨_, A, cap, rfl, _⟩ := hp
      exact ⟨A, cap, by rw [view_length]⟩
    · rename_i ro cs ho
      split at h
      · simp only [Option.some.injEq] at h
        subst h
        obtain ⟨_, _, hp⟩ := r
        simp only [Ctx.slOk, ho] at hp
        obtain ⟨b, o, cap, _, rfl⟩ := hp trivial
        exact ⟨_, cap, rfl⟩
      · simp at h
    · rename_i ro l ho
      split at h
      · simp only [Option.some.injEq] at h
        subst h
        obtain ⟨_, _, hp⟩ := r
        simp only [Ctx.slOk, ho] at hp
        obtain ⟨b, o, cap, _, rfl⟩ := hp trivial
        exact ⟨_, cap, rfl⟩
      · simp at h
    · rename_i ro l ho
      split at h
      · simp only [Option.some.injEq] at h
        subst h
        obtain ⟨_, _, hp⟩ := r
        simp only [Ctx.slOk, ho] at hp
        obtain ⟨A, cap, rfl, _⟩ := hp trivial
        exact ⟨_, cap, rfl⟩
      · simp at h
    · simp at h
  · simp only [Option.some.injEq] at h
    subst h
    simp only [SV.rep] at r
    exact ⟨none, 0, r⟩
  · simp at h

/-- A row, a window of which is cleared. -/
theorem clrL_eq (e : EK) (l : List e.den) (w : Win) (h : w.ok l.length) : clrL e l w = l.take w.off ++ List.replicate (w.len l.length) e.dflt ++ l.drop (w.off + w.len l.length) := by
  cases w with
  | all => simp [clrL, Win.off, Win.len]
  | drop i =>
    have hi : i ≤ l.length := h
    have : l.drop (i + (l.length - i)) = [] := List.drop_eq_nil_of_le (by omega)
    simp [clrL, Win.off, Win.len, this]
  | take k => simp [clrL, Win.off, Win.len]
  | sub i k => simp [clrL, Win.off, Win.len]
theorem zeroCells_enc {e : EK} {zc : Array Value} (hzc : zc.toList = e.enc e.dflt) (n : Nat) : (Builtin.zeroCells zc n).toList = encAll e (List.replicate n e.dflt) := by
  have hzs : zc.size = e.sz := by rw [← Array.length_toList, hzc, enc_length]
  apply List.ext_getElem?
  intro k
  have hl : (encAll e (List.replicate n e.dflt)).length = n * e.sz := by rw [encAll_length]; simp
  by_cases hk : k < n * e.sz
  · have hv : (encAll e (List.replicate n e.dflt))[k]? = some ((encAll e (List.replicate n e.dflt))[k]'(by omega)) := List.getElem?_eq_getElem (by omega)
    obtain ⟨_, h2⟩ := replicate_get hv
    rw [hv]
    have hmod := Nat.mod_lt k (sz_pos e)
    simp only [Builtin.zeroCells, Array.getElem?_toList, Array.getElem?_map, hzs]
    rw [Array.getElem?_eq_getElem (by simpa using hk)]
    simp only [Array.getElem_range, Option.map_some]
    rw [getElem!_pos zc (k % e.sz) (by rw [hzs]; exact hmod)]
    rw [← hzc, Array.getElem?_toList, Array.getElem?_eq_getElem (by rw [hzs]; exact hmod)] at h2
    exact h2
  · have hl2 : (Builtin.zeroCells zc n).toList.length = n * e.sz := by rw [Array.length_toList, size_zeroCells, hzs]
    rw [List.getElem?_eq_none (by omega : (encAll e (List.replicate n e.dflt)).length ≤ k), List.getElem?_eq_none (by omega : (Builtin.zeroCells zc n).toList.length ≤ k)]
theorem clear_does (hT : TyOk P ty) (H : Heap w0 W0 (G objs φ seen w) w) {t rt : Nat} {x : SV} {v : Value} {e : Eff} (h : clearK ty t x objs some = some e) (r : x.rep (G objs φ seen w) v) :
    Does P w0 W0 objs φ seen w e (do pure (.value (← Builtin.clear_ #[t] rt #[v])) : Sem Next) := by
  unfold clearK at h
  split at h
  · rename_i u hh win hk
    split at h
    · rename_i e1 l k ho hek
      split at h
      · rename_i hek2
        subst hek2
        simp only [Option.some.injEq] at h
        subst h
        have hu := ty_ek hT hek
        have hsz := ek_size hu hek
        obtain ⟨dd, i, z, _, hi, _, hisz, _, hz, _, _, h9⟩ := hu.ok
        obtain ⟨_, _, hbytes, hzero⟩ := h9 e1 hek
        have hzc := zeroOk_cv1 (enc_lits e1 _) hzero
        have ht := ty_slice hT hk
        obtain ⟨r1, ⟨A, n, cap, rfl⟩, r3⟩ := r
        have hok : win.ok l.length := by
          simp only [Ctx.slOk, ho] at r3
          exact r3.1
        obtain ⟨hn, hnc, hcm, hread, hnil, hloc⟩ := sl_reads H ho r3
        have hsl : l.take win.off ++ List.replicate (win.len l.length) e1.dflt ++ l.drop (win.off + win.len l.length) = clrL e1 l win := (clrL_eq e1 l win hok).symm
        have hle := len_le win l.length hok
        rw [view_length] at hn
        by_cases h0 : n = 0
        · -- nothing to clear
          have hsame : clrL e1 l win = l := by
            rw [clrL_eq e1 l win hok, ← hn, h0]
            simp
          rw [hsame]
          have eo : upd objs hh (some ⟨false, .row e1 l⟩) = objs := by
            funext y
            by_cases e : y = hh
            · subst e; rw [upd_same, ho]
            · rw [upd_ne _ _ e]
          have es : upd seen hh true = seen := by
            funext y
            by_cases e : y = hh
            · subst e; rw [upd_same]; exact (H.sn y _ ho).symm
            · rw [upd_ne _ _ e]
          refine ⟨_, .tuple #[], w, φ, ?_, .inl rfl, ⟨[], rfl, rfl⟩, ?_, ?_⟩
          · rw [h0]
            cases A <;> simp [Builtin.clear_, run_underlying ht]
          · simp only [Af, wrObjs, wrSeen, eo, es]; exact H
          · simp only [Af, wrObjs, wrSeen, eo, es]; exact Ctx.le.refl _
        · obtain ⟨b, o, hφ, rfl, hbnd⟩ := hloc.resolve_left (by omega)
          rcases H.obj hh _ ho with ⟨hnn, _⟩ | ⟨b', o', hp', hcell, hw⟩
          · simp [hφ] at hnn
          · have hp2 : φ hh = some (b', o') := hp'
            rw [hφ] at hp2
            simp only [Option.some.injEq, Prod.mk.injEq] at hp2
            obtain ⟨rfl, rfl⟩ := hp2
            obtain ⟨cur, T, hcur, hcsz⟩ := hw rfl
            have hus : (Builtin.zeroCells z.cells n).toList = encAll e1 (List.replicate (win.len l.length) e1.dflt) := by
              rw [zeroCells_enc hzc, hn]
            have hul : (encAll e1 (List.replicate (win.len l.length) e1.dflt)).length = win.len l.length * e1.sz := by rw [encAll_length]; simp
            have hmul : (win.off + win.len l.length) * e1.sz ≤ l.length * e1.sz := Nat.mul_le_mul_right _ hle
            rw [Nat.add_mul] at hmul
            have hfit : o + win.off * e1.sz + (encAll e1 (List.replicate (win.len l.length) e1.dflt)).length ≤ cur.size := by omega
            have hst := storeCells_ok (P := P) (o := o + win.off * e1.sz) hcur (encAll e1 (List.replicate (win.len l.length) e1.dflt)) hfit (encAll_one e1 _)
            have hclen : (clrL e1 l win).length = l.length := by rw [← hsl]; simp; omega
            obtain ⟨q1, q2⟩ := H.write ho rfl hφ (like_row false e1 l (clrL e1 l win) hclen.symm) hcur (cur' := (cur.toList.take (o + win.off * e1.sz) ++ encAll e1 (List.replicate (win.len l.length) e1.dflt) ++ cur.toList.drop (o + win.off * e1.sz + (encAll e1 (List.replicate (win.len l.length) e1.dflt)).length)).toArray) (by simp; omega) (fun Γ' hle hp' => .inr ⟨b, o, hp', (fun m v hv => by
                rw [cell_setRow_same w b (o + m) cur _ T (0, 0) hcur]
                rw [List.getElem?_toArray, splice_get _ _ _ _ (by simpa using hfit)]
                rw [← hsl, encAll_append, encAll_append, encAll_take, encAll_drop] at hv
                have e3 : (win.off + win.len l.length) * e1.sz = win.off * e1.sz + (encAll e1 (List.replicate (win.len l.length) e1.dflt)).length := by rw [hul, Nat.add_mul]
                rw [e3, splice_get _ _ _ _ (by rw [hul, encAll_length]; omega)] at hv
                split at hv
                · rename_i hr
                  rw [if_pos ⟨by omega, by omega⟩, ← hv]
                  congr 1
                  omega
                · rename_i hr
                  rw [if_neg (by omega)]
                  have := hcell m v hv
                  simpa [World.cell?, hcur] using this), fun _ => ⟨_, T, setRow_heap w b cur _ T (0, 0) hcur, by rw [hclen]; simp; omega⟩⟩)
            refine ⟨_, .tuple #[], _, φ, ?_, .inl rfl, ⟨[], rfl, rfl⟩, q1, q2⟩
            have hzv : ∀ w', (zeroValue u).run P w' = .ok z w' := by
              intro w'
              simp [zeroValue, typeInfo, hi, hz]
            obtain ⟨m, rfl⟩ : ∃ m, n = m + 1 := ⟨n - 1, by omega⟩
            simp only [Builtin.clear_, Sem.run_bind]
            simp [run_underlying ht, hzv, hus, hst]
      · simp at h
    · simp at h
  · simp at h

/-- A later part of a row is appended to its front part. -/
theorem appendS_does (hT : TyOk P ty) (H : Heap w0 W0 (G objs φ seen w) w) {t u rt hh i j : Nat} {k : EK} {a b : Value} {e : Eff} (hk : (ty t).kind = .slice u) (hek : (ty u).ek = some k)
    (h : appendS k objs hh i j some = some e) (rs : (SV.sl hh (.take i)).rep (G objs φ seen w) a) (ry : (SV.sl hh (.drop j)).rep (G objs φ seen w) b) :
    Does P w0 W0 objs φ seen w e (do pure (.value (← Builtin.append_ #[t, t] rt #[a, b])) : Sem Next) := by
  unfold appendS at h
  split at h
  · rename_i e1 l ho
    split at h
    · rename_i hee
      subst hee
      split at h
      · rename_i hij
        simp only [Option.some.injEq] at h
        subst h
        have hu := ty_ek hT hek
        have hsz := ek_size hu hek
        obtain ⟨dd, i0, z, _, hi, _, hisz, _, hz, _, _, h9⟩ := hu.ok
        obtain ⟨_, _, hbytes, hzero⟩ := h9 e1 hek
        have ht := ty_slice hT hk
        have his : i0.size = e1.sz := by rw [hisz, hsz]
        obtain ⟨r1, ⟨A, n, cap, rfl⟩, r3⟩ := rs
        obtain ⟨y1, ⟨B, m, c2, rfl⟩, y3⟩ := ry
        obtain ⟨hn, hnc, hcm, hread, hnil, hloc⟩ := sl_reads H ho r3
        obtain ⟨hm, _, _, hrn, hn0, _⟩ := sl_reads H ho y3
        have hi1 : i ≤ l.length ∧ l.length ≤ cap := by
          simp only [Ctx.slOk, ho] at r3
          obtain ⟨q1, A', cap', q2, q3, _⟩ := r3
          cases q2
          exact ⟨q1, by simpa [Win.off] using q3.2⟩
        have hj1 : j ≤ l.length := by
          simp only [Ctx.slOk, ho] at y3
          exact y3.1
        have hv1 : Win.view (.take i) l = l.take i := rfl
        have hv2 : Win.view (.drop j) l = l.drop j := rfl
        rw [hv1, List.length_take] at hn
        rw [hv2, List.length_drop] at hm
        rw [hv2] at hrn hn0
        have hg : n + m ≤ cap := by omega
        have hln : (encAll e1 (l.drop j)).length = m * i0.size := by rw [encAll_length, his, List.length_drop, hm]
        have hl1 : (l.take i ++ l.drop j ++ l.drop (i + (l.length - j))).length = l.length := by simp; omega
        by_cases hz0 : cap = 0
        · have hl0 : l = [] := List.length_eq_zero_iff.1 (by omega)
          have hrun := append_room (P := P) (w := w) (rt := rt) (c2 := c2) (w' := w) (A := A) (n := n) (cap := cap) ht hi hln hrn (fun q => by rw [hn0 q]; rfl) hg (fun a ha => by
            rw [hl0]; simp [encAll]; rfl) (fun _ => rfl)
          subst hl0
          have eo : upd objs hh (some ⟨false, .row e1 (([] : List e1.den).take i ++ ([] : List e1.den).drop j ++ ([] : List e1.den).drop (i + (([] : List e1.den).length - j)))⟩) = objs := by
            funext y
            by_cases e : y = hh
            · subst e; rw [upd_same, ho]; simp
            · rw [upd_ne _ _ e]
          have es : upd seen hh true = seen := by
            funext y
            by_cases e : y = hh
            · subst e; rw [upd_same]; exact (H.sn y _ ho).symm
            · rw [upd_ne _ _ e]
          have ei : i + (([] : List e1.den).length - j) = 0 := by
            have := hi1.1
            simp only [List.length_nil] at *
            omega
          refine ⟨_, .slice A (n + m) cap, w, φ, by rw [Sem.run_bind, hrun]; rfl, .inl rfl, ?_, ?_, ?_⟩
          · simp only [Af, wrObjs, wrSeen, eo, es]
            refine ⟨r1, ⟨_, _, _, rfl⟩, ?_⟩
            have en : n + m = 0 := by omega
            rw [ei, en]
            simp only [Ctx.slOk, ho]
            exact ⟨Nat.zero_le _, A, cap, by simp [Win.len], ⟨by simp [Win.len], by simp [Win.off]⟩, hcm, .inl hz0⟩
          · simp only [Af, wrObjs, wrSeen, eo, es]; exact H
          · simp only [Af, wrObjs, wrSeen, eo, es]; exact Ctx.le.refl _
        · obtain ⟨b, o, hφ, rfl, hbnd⟩ := hloc.resolve_left hz0
          have hoff : o + Win.off (.take i) * e1.sz = o := by simp [Win.off]
          rw [hoff] at r3 hread ⊢
          rcases H.obj hh _ ho with ⟨hnn, _⟩ | ⟨b', o', hp', hcell, hw⟩
          · simp [hφ] at hnn
          · have hp2 : φ hh = some (b', o') := hp'
            rw [hφ] at hp2
            simp only [Option.some.injEq, Prod.mk.injEq] at hp2
            obtain ⟨rfl, rfl⟩ := hp2
            obtain ⟨cur, T, hcur, hcsz⟩ := hw rfl
            have hbs : bsOf w b = cur.size := by unfold bsOf; rw [hcur]
            have hni : n = i := by omega
            have hyl : (encAll e1 (l.drop j)).length = m * e1.sz := by rw [hln, his]
            have hmul : (n + m) * e1.sz ≤ l.length * e1.sz := Nat.mul_le_mul_right _ (by omega)
            rw [Nat.add_mul] at hmul
            have hmul2 : i * e1.sz + m * e1.sz ≤ l.length * e1.sz := by rw [← hni]; exact hmul
            have hfit : o + n * e1.sz + (encAll e1 (l.drop j)).length ≤ cur.size := by omega
            have hst := storeCells_ok (P := P) (o := o + n * e1.sz) hcur (encAll e1 (l.drop j)) hfit (encAll_one e1 _)
            have hrun := append_room (P := P) (w := w) (rt := rt) (c2 := c2) (A := some ⟨b, o, none⟩) (n := n) (cap := cap) ht hi hln hrn (fun q => by rw [hn0 q]; rfl) hg
              (fun a ha => by cases ha; rw [add_spot, his]; exact hst) (fun q => by cases q)
            obtain ⟨q1, q2⟩ := H.write ho rfl hφ (like_row false e1 l (l.take i ++ l.drop j ++ l.drop (i + (l.length - j))) hl1.symm) hcur (cur' := (cur.toList.take (o + n * e1.sz) ++ encAll e1 (l.drop j) ++ cur.toList.drop (o + n * e1.sz + (encAll e1 (l.drop j)).length)).toArray) (by simp; omega) (fun Γ' hle hp' => .inr ⟨b, o, hp', (fun m' v hv => by
                rw [cell_setRow_same w b (o + m') cur _ T (0, 0) hcur]
                rw [List.getElem?_toArray, splice_get _ _ _ _ (by simpa using hfit)]
                rw [encAll_append, encAll_append, encAll_take, encAll_drop (i := i + (l.length - j))] at hv
                have e3 : (i + (l.length - j)) * e1.sz = i * e1.sz + (encAll e1 (l.drop j)).length := by rw [hyl, Nat.add_mul, hm]
                rw [e3, splice_get _ _ _ _ (by rw [hyl, encAll_length]; omega)] at hv
                split at hv
                · rename_i hr
                  rw [if_pos ⟨by rw [hni]; omega, by rw [hni]; omega⟩, ← hv]
                  congr 1
                  rw [hni]
                  omega
                · rename_i hr
                  rw [if_neg (by rw [hni]; omega)]
                  have := hcell m' v hv
                  simpa [World.cell?, hcur] using this), fun _ => ⟨_, T, setRow_heap w b cur _ T (0, 0) hcur, by rw [hl1]; simp; omega⟩⟩)
            refine ⟨_, .slice (some ⟨b, o, none⟩) (n + m) cap, _, φ, by rw [Sem.run_bind, hrun]; rfl, .inl rfl, ?_, q1, q2⟩
            refine ⟨upd_same _ _ _, ⟨_, _, _, rfl⟩, ?_⟩
            simp only [Ctx.slOk, wrObjs, upd_same]
            have ho0 : Win.off (.take (i + (l.length - j))) = 0 := rfl
            have hlw : Win.len (.take (i + (l.length - j))) (l.take i ++ l.drop j ++ l.drop (i + (l.length - j))).length = n + m := by
              rw [hl1]; simp only [Win.len]; omega
            refine ⟨by show _ ≤ _; rw [hl1]; omega, some ⟨b, o, none⟩, cap, by rw [hlw], ⟨by rw [hlw]; exact hg, by rw [hl1, ho0]; omega⟩, hcm, .inr ⟨b, o, hφ, by rw [ho0, Nat.zero_mul, Nat.add_zero], fun _ => ?_⟩⟩
            rw [bsOf_setRow hcur (by simp; omega) b]
            have := hbnd rfl
            rw [ho0]
            simpa [Win.off] using this
      · simp at h
    · simp at h
  · simp at h

theorem asInt_int (k : IntKind) (n : Int) : (asInt (.int k n)).run P w = .ok n w := rfl
/-- Zeros are appended to nothing. -/
theorem made_does (hT : TyOk P ty) (H : Heap w0 W0 (G objs φ seen w) w) {t u v d rt : Nat} {s y : SV} {a b : Value} {e : Eff} (hk : (ty t).kind = .slice u)
    (h : madeK ty u v s y seen d some = some e) (rs : s.rep (G objs φ seen w) a) (ry : y.rep (G objs φ seen w) b) :
    Does P w0 W0 objs φ seen w e (do pure (.value (← Builtin.append_ #[t, v] rt #[a, b])) : Sem Next) := by
  unfold madeK at h
  split at h
  · rename_i k ki ky n hek hkv
    split at h
    · rename_i hseen
      split at h
      · rename_i hb
        simp only [Option.some.injEq] at h
        subst h
        simp only [SV.rep] at rs ry
        subst rs ry
        have hu := ty_ek hT hek
        have hsz := ek_size hu hek
        obtain ⟨dd, i, z, _, hi, _, hisz, _, hz, _, _, h9⟩ := hu.ok
        obtain ⟨_, _, hbytes, hzero⟩ := h9 k hek
        have hzc := zeroOk_cv1 (enc_lits k _) hzero
        have hzs : z.cells.size = k.sz := by rw [← Array.length_toList, hzc, enc_length]
        have his : i.size = k.sz := by rw [hisz, hsz]
        have ht := ty_slice hT hk
        have htv := ty_int hT hkv
        have hmul : i.bytes * n.toNat ≤ 32 * 4398046511104 := Nat.mul_le_mul hbytes (by omega)
        have hw : IntKind.i64.wrap n = n := by
          have e1 : IntKind.i64.wrap n = n := by
            rw [IntKind.wrap_i64]
            omega
          exact e1
        have hneg : ¬ n < 0 := by omega
        have h48 : ¬ (n * (i.bytes : Int) > 2 ^ 48) := by
          have e1 : n * (i.bytes : Int) = ((i.bytes * n.toNat : Nat) : Int) := by
            rw [Int.natCast_mul, Int.mul_comm, Int.toNat_of_nonneg (by omega)]
          rw [e1]
          have : (2 : Int) ^ 48 = 281474976710656 := by decide
          omega
        have hgrow : Builtin.nextslicecap (0 + n.toNat) 0 = n.toNat := by
          unfold Builtin.nextslicecap
          rw [if_pos (by omega)]
          omega
        have hnx : ¬ Builtin.nextslicecap (0 + n.toNat) 0 * i.bytes > 2 ^ 48 := by
          rw [hgrow, Nat.mul_comm]
          omega
        have hne : ¬ n.toNat * i.size = 0 := by
          have h1 : 0 < n.toNat := by omega
          have h2 : 0 < i.size := by rw [his]; exact sz_pos k
          have := Nat.mul_pos h1 h2
          omega
        have hnc : ¬ (0 + n.toNat ≤ 0) := by omega
        have h63 : ¬ ((((0 + n.toNat : Nat) : Int) > IntKind.i64.max) ∧ True) := by
          simp only [IntKind.max, IntKind.signed, IntKind.bits]
          omega
        have hrun : (Builtin.append_ #[t, v] rt #[.slice none 0 0, .int ky n]).run P w =
            .ok (.slice (some ⟨w.heap.size, 0, none⟩) (0 + n.toNat) (grownCap w (0 + n.toNat) 0 u)) (w.drew.alloc (.cells ((#[] : Array Value) ++ Builtin.zeroCells z.cells n.toNat ++ Builtin.zeroCells z.cells (grownCap w (0 + n.toNat) 0 u - (0 + n.toNat))) u)) := by
          have c2 : ¬ (281474976710656 < n * (i.bytes : Int)) := by
            have : (2 : Int) ^ 48 = 281474976710656 := by decide
            omega
          have c4 : ¬ (n ≤ 0) := by omega
          have c5 : ¬ (9223372036854775807 < (n.toNat : Int)) := by omega
          have c5' : ¬ (9223372036854775807 < n) := by omega
          have c6 : ¬ (281474976710656 < Builtin.nextslicecap n.toNat 0 * i.bytes) := by
            rw [Nat.zero_add] at hnx
            exact hnx
          have c7 : ¬ (n.toNat = 0) := by omega
          have hf : ∀ w' : World, (Builtin.firstCells i.size 0 (.slice none 0 0)).run P w' = .ok #[] w' := fun w' => run_firstCells_none w' i.size 0 0 0
          simp [Builtin.append_, run_underlying ht, run_underlying htv, sizeOf, typeInfo, zeroValue, hi, hz, asInt_int, hw, hneg, c2, c4, c5, c5', c6, c7, hne, hf, Question.forced, newRow, grownCap]
          intro hmx
          omega
        have hge := grownCap_ge w (0 + n.toNat) 0 u
        have hcap := grownCap_le_maxLen w (0 + n.toNat) 0 u (by unfold maxLen; omega)
        generalize grownCap w (0 + n.toNat) 0 u = gc at hrun hge hcap
        have Hd : Heap w0 W0 (G objs φ seen w.drew) w.drew := H.drew
        have hled : (G objs φ seen w).le (G objs φ seen w.drew) := ⟨fun _ q => q, fun _ _ _ _ q => q, fun _ _ _ _ q => q, fun _ _ _ _ _ q => q, fun _ _ _ q => q⟩
        have hze := zeroCells_enc hzc n.toNat
        have hsize : ((#[] : Array Value) ++ Builtin.zeroCells z.cells n.toNat ++ Builtin.zeroCells z.cells (gc - (0 + n.toNat))).size = gc * k.sz := by
          simp only [Array.size_append, size_zeroCells, hzs, Array.size_empty, Nat.zero_add, ← Nat.add_mul]
          congr 1
          omega
        obtain ⟨q1, q2, q3⟩ := row_new Hd (m := nm d 0) (n := 0 + n.toNat) (cap := gc) (T := u) (e := k) (l := List.replicate n.toNat k.dflt)
          (cur := (#[] : Array Value) ++ Builtin.zeroCells z.cells n.toNat ++ Builtin.zeroCells z.cells (gc - (0 + n.toNat))) hseen (by simp) hge hcap (by rw [hsize]; exact Nat.le_refl _)
          (fun j v hv => by
            have hj := (List.getElem?_eq_some_iff.1 hv).1
            rw [← hze, Array.getElem?_toList] at hv
            rw [Array.getElem?_append_left (by
              have := (Array.getElem?_eq_some_iff.1 hv).1
              simpa using this)]
            simpa using hv)
        exact ⟨_, _, _, _, by rw [Sem.run_bind, hrun]; rfl, .inl rfl, q1, q2, hled.trans q3⟩
      · simp at h
    · simp at h
  · simp at h

theorem appendK_does (hT : TyOk P ty) (H : Heap w0 W0 (G objs φ seen w) w) {t u d rt : Nat} {k : EK} {s y : SV} {a b : Value} {e : Eff} (hk : (ty t).kind = .slice u) (hek : (ty u).ek = some k)
    (h : appendK k objs seen d s y some = some e) (rs : s.rep (G objs φ seen w) a) (ry : y.rep (G objs φ seen w) b) :
    Does P w0 W0 objs φ seen w e (do pure (.value (← Builtin.append_ #[t, t] rt #[a, b])) : Sem Next) := by
  unfold appendK at h
  split at h
  · rename_i hh i j hs
    unfold sameRow at hs
    split at hs
    · rename_i h1 i1 h2 j1
      cases hb : Nat.beq h1 h2 with
      | false => rw [hb] at hs; cases hs
      | true =>
        rw [hb] at hs
        have := Nat.eq_of_beq_eq_true hb
        subst this
        simp only [Option.some.injEq, Prod.mk.injEq] at hs
        obtain ⟨rfl, rfl, rfl⟩ := hs
        exact appendS_does hT H hk hek h rs ry
    · cases hs
  · exact appendO_does hT H hk hek h rs ry

theorem builtin_does (hT : TyOk P ty) (H : Heap w0 W0 (G objs φ seen w) w) {slots : Nat → SV} {a : Act} (hev : ∀ x, (ev slots x).rep (G objs φ seen w) (a.eval x)) {b : Builtin} {c : Call} {rt d : Nat} {e : Eff} (hc : c.callee = .builtin b)
    (h : builtinK ty b c.argTypes.toList (c.args.toList.map (ev slots)) objs seen d some = some e) :
    Does P w0 W0 objs φ seen w e (do let x ← resolve a.eval c rt; invoke x.target x.args : Sem Next) := by
  have hargs : (c.args.map a.eval) = (c.args.toList.map a.eval).toArray := by
    apply Array.ext'
    rw [Array.toList_map]
  have hres : (do let x ← resolve a.eval c rt; invoke x.target x.args : Sem Next) = builtin b c.argTypes rt (c.args.map fun | .const _ => true | _ => false) (c.args.map a.eval) := by
    simp only [resolve, hc]
    rfl
  rw [hres, hargs]
  have hat : c.argTypes = c.argTypes.toList.toArray := by simp
  rw [hat]
  generalize c.argTypes.toList = ats at h ⊢
  generalize (c.args.map fun | .const _ => true | _ => false) = cs
  generalize c.args.toList = args at h ⊢
  unfold builtinK at h
  split at h
  · rename_i x t hx
    match args, hx with
    | [o], hx =>
      simp only [List.map_cons, List.map_nil, List.cons.injEq, and_true] at hx
      have hr := hev o
      rw [hx] at hr
      simp only [List.map_cons, List.map_nil]
      split at h
      · have hk := ‹(ty t).kind = TK.str›
        simp only [Option.some.injEq] at h
        subst h
        simp only [SV.rep] at hr
        refine does_pure H ?_ rfl rfl
        simp [builtin, Builtin.len_, run_underlying (ty_str hT hk), hr, goInt]
      · have hk := ‹(ty t).kind = TK.slice _›
        split at h
        · rename_i n hn
          simp only [Option.some.injEq] at h
          subst h
          obtain ⟨A, c', ha⟩ := lenOf_ok hn hr
          refine does_pure H ?_ rfl rfl
          simp [builtin, Builtin.len_, run_underlying (ty_slice hT hk), ha, goInt]
        · simp at h
      · have hk := ‹(ty t).kind = TK.arr _ _›
        simp only [Option.some.injEq] at h
        subst h
        refine does_pure H ?_ rfl rfl
        simp [builtin, Builtin.len_, run_underlying (ty_arr hT hk), goInt]
      · simp at h
  · rename_i s y t u hx
    match args, hx with
    | [o1, o2], hx =>
      simp only [List.map_cons, List.map_nil, List.cons.injEq, and_true] at hx
      have hr1 := hev o1
      have hr2 := hev o2
      rw [hx.1] at hr1
      rw [hx.2] at hr2
      simp only [List.map_cons, List.map_nil]
      split at h
      · rename_i ue htu hk
        have htu := Nat.eq_of_beq_eq_true htu
        subst htu
        split at h
        · rename_i k hek
          exact appendK_does hT H hk hek h hr1 hr2
        · split at h
          · rename_i hsz hbig hzero
            exact appendT_does hT H hk (Nat.eq_of_beq_eq_true hsz) hbig hzero h hr1 hr2
          · simp at h
      · rename_i ue htu hk
        exact made_does hT H hk h hr1 hr2
      · simp at h
  · rename_i x t hx
    match args, hx with
    | [o], hx =>
      simp only [List.map_cons, List.map_nil, List.cons.injEq, and_true] at hx
      have hr := hev o
      rw [hx] at hr
      simp only [List.map_cons, List.map_nil]
      split at h
      · have hk := ‹(ty t).kind = TK.slice _›
        simp only [Option.some.injEq] at h
        subst h
        simp only [SV.rep] at hr
        refine does_pure H ?_ rfl rfl
        simp [builtin, Builtin.cap_, run_underlying (ty_slice hT hk), hr, goInt]
      · simp at h
  · rename_i x y hx
    match args, hx with
    | [o1, o2], hx =>
      simp only [List.map_cons, List.map_nil, List.cons.injEq, and_true] at hx
      have hr1 := hev o1
      have hr2 := hev o2
      rw [hx.1] at hr1
      rw [hx.2] at hr2
      simp only [List.map_cons, List.map_nil]
      unfold minK at h
      split at h
      · simp only [Option.some.injEq] at h
        subst h
        simp only [SV.rep] at hr1 hr2
        refine does_pure H ?_ rfl rfl
        simp only [builtin, hr1, hr2]
        rw [Sem.run_bind, run_min_int2]
        rfl
      · simp at h
  · rename_i x y hx
    match args, hx with
    | [o1, o2], hx =>
      simp only [List.map_cons, List.map_nil, List.cons.injEq, and_true] at hx
      have hr1 := hev o1
      have hr2 := hev o2
      rw [hx.1] at hr1
      rw [hx.2] at hr2
      simp only [List.map_cons, List.map_nil]
      unfold maxK at h
      split at h
      · simp only [Option.some.injEq] at h
        subst h
        simp only [SV.rep] at hr1 hr2
        refine does_pure H ?_ rfl rfl
        simp only [builtin, hr1, hr2]
        rw [Sem.run_bind, run_max_int2]
        rfl
      · simp at h
  · rename_i x t hx
    match args, hx with
    | [o], hx =>
      simp only [List.map_cons, List.map_nil, List.cons.injEq, and_true] at hx
      have hr := hev o
      rw [hx] at hr
      simp only [List.map_cons, List.map_nil]
      exact clear_does hT H h hr
  · simp at h

end
end Go.Fx
end

noncomputable section
set_option linter.unusedVariables false
set_option linter.unusedSimpArgs false
set_option autoImplicit false
namespace Go.Fx
open Go
section
variable {P : Program} {w0 : World} {W0 : Nat → Option (Option EK) → Prop} {objs : Nat → Option AO} {φ : Nat → Option (Nat × Nat)} {seen : Nat → Bool} {w : World} {ty : Ty}

/-- The cells of an entry. -/
def keyV (a b : Int) : Value := .agg #[.int .i64 a, .int .i64 b]

structure MapAt (P : Program) (t k e u : Nat) : Prop where
  map : P.underlying t = some (.map k e)
  key : P.underlying k = some (.array 2 u)
  num : P.underlying u = some (.int .i64)
  info : ∃ i, P.info? u = some i ∧ i.size = 1
  zero : ∀ w, (zeroValue e).run P w = .ok (.int .i64 0) w
theorem mapTy_at (hT : TyOk P ty) {t : Nat} (h : mapTy ty t = true) : ∃ k e u, MapAt P t k e u := by
  unfold mapTy at h
  split at h
  · rename_i k e hk
    split at h
    · rename_i u n hkk hke hz hbig
      split at h
      · rename_i hku
        simp only [Bool.and_eq_true, decide_eq_true_eq] at h
        obtain ⟨h1, rfl⟩ := h
        obtain ⟨d, h2, h3⟩ := ty_under hT hk (by simp)
        have hm : P.underlying t = some (.map k e) := by
          cases d <;> simp [kindOk] at h3
          rw [h2, h3.1, h3.2]
        obtain ⟨d, i, z, hu1, hi, hu2, hs, _⟩ := (ty_kind hT hku (by simp)).ok
        have hte := ty_kind hT hke (by simp)
        obtain ⟨d2, i2, z2, he1, hi2, he2, hs2, _, hz2, hzz, _⟩ := hte.ok
        refine ⟨k, e, u, hm, ty_arr hT hkk, ty_int hT hku, ⟨i, hi, hs.trans (Nat.eq_of_beq_eq_true h1)⟩, fun w => ?_⟩
        have hzok := hzz hbig
        rw [hz] at hzok
        have hz3 : z2 = .int .i64 0 := by
          have hag := hte.agg i2
          cases z2 with
          | agg cs =>
            have := hag cs hi2 hz2
            simp [TI.isAgg, hke] at this
          | _ =>
            simp only [Value.cells, zeroOk, conc, Bool.and_true] at hzok
            have := sameV_eq hzok
            first | exact this | (cases this; rfl) | (cases this)
        simp only [zeroValue, typeInfo, Sem.run_bind, run_program, Result.andThen_ok, hi2, hz2, hz3, Sem.run_pure]
      · simp at h
    · simp at h
  · simp at h

theorem part_int {u : Nat} {cs : Array Value} {j : Nat} {v : Value} (hu : P.underlying u = some (.int .i64)) (hj : cs[j]? = some v) : (part u cs j).run P w = .ok v w := by
  have hag : (isAgg u).run P w = .ok false w := isAgg_run hu
  simp only [part, Sem.run_bind, hag, Result.andThen_ok, Bool.false_eq_true, if_false, hj, Sem.run_pure]
theorem keyOk {t k e u : Nat} (M : MapAt P t k e u) (em : Bool) (a b : Int) : (Instr.checkKey em 10000 k (keyV a b)).run P w = .ok () w := by
  obtain ⟨i, hi, his⟩ := M.info
  have hs : (sizeOf u).run P w = .ok 1 w := by rw [run_sizeOf w hi, cellsOf_eq hi, his]
  have hn : ∀ v, (Instr.checkKey em 9999 u v).run P w = .ok () w := by
    intro v
    rw [Instr.checkKey]
    simp only [Sem.run_bind, run_underlying M.num, Result.andThen_ok]
    rfl
  rw [show (10000 : Nat) = 9999 + 1 from rfl, Instr.checkKey]
  simp only [Sem.run_bind, run_underlying M.key, Result.andThen_ok, keyV]
  simp only [Std.Legacy.Range.forIn_eq_forIn_range', Std.Legacy.Range.size, Nat.sub_zero, Nat.add_one_sub_one, Nat.div_one]
  have h0 : (part u #[Value.int .i64 a, .int .i64 b] (0 * 1)).run P w = .ok (.int .i64 a) w := part_int M.num rfl
  have h1 : (part u #[Value.int .i64 a, .int .i64 b] (1 * 1)).run P w = .ok (.int .i64 b) w := part_int M.num rfl
  simp [List.range', List.forIn_cons, Sem.run_bind, hs, Result.andThen_ok, h0, h1, hn]
theorem keyEq {t k e u : Nat} (M : MapAt P t k e u) (a b c d : Int) : (Op.equal k (keyV a b) (keyV c d)).run P w = .ok (decide (a = c) && (decide (b = d) && true)) w := by
  obtain ⟨i, hi, his⟩ := M.info
  have hc : P.cellsOf u = 1 := by rw [cellsOf_eq hi, his]
  show (Op.equalIn 10000 k _ _).run P w = _
  unfold keyV
  rw [run_equalIn_array w 9999 _ _ M.key hi, hc, List.range_eq_range']
  exact eqItems_cells (Γ := ⟨fun _ => none, fun _ => none, fun _ => false, fun _ => 0, fun _ _ => none⟩) M.num 9998 [.int .i64 a, .int .i64 b] [.int .i64 c, .int .i64 d] _ (by simp [eqCells]) [.int .i64 a, .int .i64 b] [.int .i64 c, .int .i64 d] 0 _ _
    ⟨_, _, rfl, rfl, _, _, rfl, rfl, rfl⟩ ⟨_, _, rfl, rfl, _, _, rfl, rfl, rfl⟩ (fun j => by simp) (fun j => by simp)
/-- What is found. -/
def findE (a b : Int) : List ((Int × Int) × Int) → Nat → Option (Nat × Value)
  | [], _ => none
  | x :: r, i => if a = x.1.1 ∧ b = x.1.2 then some (i, .int .i64 x.2) else findE a b r (i + 1)
theorem findE_get (a b : Int) : ∀ (l : List ((Int × Int) × Int)) (i : Nat), (findE a b l i).map (·.2) = (mapGet a b l).map (Value.int .i64)
  | [], _ => rfl
  | x :: r, i => by
    unfold findE mapGet
    split
    · rfl
    · exact findE_get a b r (i + 1)
theorem find_asking {t k e u : Nat} (M : MapAt P t k e u) (a b : Int) : ∀ (es : List MapEntry) (l : List ((Int × Int) × Int)) (i : Nat), es.map (fun x => (x.key, x.val)) = l.map (fun x => (keyV x.1.1 x.1.2, Value.int .i64 x.2)) →
    (Instr.findAsking k (keyV a b) es i).run P w = .ok (findE a b l i) w
  | [], [], i, h => rfl
  | [], _ :: _, i, h => by simp at h
  | _ :: _, [], i, h => by simp at h
  | y :: es, x :: l, i, h => by
    simp only [List.map_cons, List.cons.injEq, Prod.mk.injEq] at h
    obtain ⟨⟨h1, h2⟩, h3⟩ := h
    rw [Instr.findAsking]
    simp only [Sem.run_bind, h1, keyEq M a b x.1.1 x.1.2, Result.andThen_ok]
    unfold findE
    by_cases c : a = x.1.1 ∧ b = x.1.2
    · rw [if_pos c, if_pos (by simp [c.1, c.2]), h2]
      rfl
    · rw [if_neg c, if_neg (by
        intro q
        simp only [Bool.and_true, Bool.and_eq_true, decide_eq_true_eq] at q
        exact c q)]
      exact find_asking M a b es l (i + 1) h3
theorem find_key {t k e u : Nat} (M : MapAt P t k e u) (a b : Int) (es : List MapEntry) (l : List ((Int × Int) × Int)) (h : es.map (fun x => (x.key, x.val)) = l.map (fun x => (keyV x.1.1 x.1.2, Value.int .i64 x.2))) :
    (Instr.findKey k (keyV a b) es).run P w = .ok (findE a b l 0) w := by
  unfold Instr.findKey
  simp only [Sem.run_bind, run_underlying M.key, Result.andThen_ok]
  cases es with
  | nil =>
    cases l with
    | nil => rfl
    | cons x l => simp at h
  | cons y es =>
    have : Instr.findNow (.array 2 u) (keyV a b) (y :: es) 0 = none := rfl
    simp only [this]
    exact find_asking M a b _ _ 0 h

/-- What a map value stands for. -/
theorem map_reads (H : Heap w0 W0 (G objs φ seen w) w) {h : Nat} {ro : Bool} {l : List ((Int × Int) × Int)} {v : Value} (ho : objs h = some ⟨ro, .map l⟩) (r : (SV.mp h).rep (G objs φ seen w) v) :
    ∃ b o es clock, v = .map (some b) ∧ φ h = some (b, o) ∧ w.heap[b]? = some (.map es clock) ∧ es.toList.map (fun x => (x.key, x.val)) = l.map (fun x => (keyV x.1.1 x.1.2, Value.int .i64 x.2)) := by
  obtain ⟨_, _, hm⟩ := r
  unfold Ctx.mpOk at hm
  have ho' : (G objs φ seen w).objs h = some ⟨ro, .map l⟩ := ho
  rw [ho'] at hm
  obtain ⟨b, o, hp, rfl⟩ := hm
  obtain ⟨b', o', es, clock, hp', hw, hl⟩ := H.obj h _ ho
  have hp'' : φ h = some (b', o') := hp'
  have hp0 : φ h = some (b, o) := hp
  rw [hp0] at hp''
  cases hp''
  exact ⟨b, o, es, clock, rfl, hp0, hw, hl⟩

theorem makeMap_does (hT : TyOk P ty) (H : Heap w0 W0 (G objs φ seen w) w) {t d : Nat} (ht : mapTy ty t = true) (hs : seen (nm d 0) = false) :
    Does P w0 W0 objs φ seen w ⟨.mp (nm d 0), [(nm d 0, some ⟨false, .map []⟩)], []⟩ (do pure (.value (← Instr.makeMap t none)) : Sem Next) := by
  have hF := H.freshO (nm d 0) hs ⟨false, .map []⟩ (.map #[] 0) (fun Γ' hle hp ho => ⟨_, _, #[], 0, hp, alloc_get w _, rfl⟩)
  refine ⟨_, .map (some w.heap.size), w.alloc (.map #[] 0), upd φ (nm d 0) (some (w.heap.size, 0)), ?_, .inl rfl, ?_, hF.1, hF.2⟩
  · simp [Instr.makeMap, Result.andThen]
  · refine ⟨upd_same _ _ _, ⟨_, rfl⟩, ?_⟩
    unfold Ctx.mpOk
    show (match upd objs (nm d 0) (some ⟨false, .map []⟩) (nm d 0) with | some ⟨_, .map _⟩ => _ | _ => True)
    rw [upd_same]
    exact ⟨_, _, upd_same _ _ _, rfl⟩

theorem lookup_does (hT : TyOk P ty) (H : Heap w0 W0 (G objs φ seen w) w) {t : Nat} {x i : SV} {a b : Value} {c : Bool} {e : Eff} (h : lookupK ty t x i c objs some = some e) (rx : x.rep (G objs φ seen w) a) (ri : i.rep (G objs φ seen w) b) :
    Does P w0 W0 objs φ seen w e (do pure (.value (← Instr.lookup t a b c)) : Sem Next) := by
  unfold lookupK at h
  split at h
  · rename_i hh a1 b1 hm
    split at h
    · rename_i ro l ho
      simp only [Option.some.injEq] at h
      subst h
      obtain ⟨k, e, u, M⟩ := mapTy_at hT hm
      obtain ⟨bb, o, es, clock, rfl, hφ, hw, hl⟩ := map_reads H ho rx
      obtain ⟨vs, rfl, v1, r1, rfl, hv1, v2, r2, rfl, hv2, rfl⟩ := ri
      simp only [SV.rep] at hv1 hv2
      subst hv1 hv2
      have hk := find_key (w := w) M a1 b1 es.toList l hl
      have hg := findE_get a1 b1 l 0
      have hck := keyOk (w := w) M es.isEmpty a1 b1
      have hres : (Instr.lookup t (.map (some bb)) (keyV a1 b1) true).run P w = .ok (.tuple #[.int .i64 ((mapGet a1 b1 l).getD 0), .bool (mapGet a1 b1 l).isSome]) w := by
        unfold Instr.lookup
        cases hq : mapGet a1 b1 l with
        | none =>
          rw [hq] at hg
          have hfe : findE a1 b1 l 0 = none := by
            cases hf : findE a1 b1 l 0 with
            | none => rfl
            | some z => rw [hf] at hg; simp at hg
          rw [hfe] at hk
          simp only [Sem.run_bind, run_underlying M.map, Result.andThen_ok, MapKept.run_getObj_map hw, Sem.run_pure, hck, hk, M.zero, if_true]
          rfl
        | some z =>
          rw [hq] at hg
          obtain ⟨y, hf, hy⟩ : ∃ y, findE a1 b1 l 0 = some y ∧ y.2 = .int .i64 z := by
            cases hf : findE a1 b1 l 0 with
            | none => rw [hf] at hg; simp at hg
            | some y => rw [hf] at hg; exact ⟨y, rfl, by simpa using hg⟩
          rw [hf] at hk
          obtain ⟨y1, y2⟩ := y
          simp only at hy
          subst hy
          simp only [Sem.run_bind, run_underlying M.map, Result.andThen_ok, MapKept.run_getObj_map hw, Sem.run_pure, hck, hk, if_true]
          rfl
      refine does_pure H (v := .tuple #[.int .i64 ((mapGet a1 b1 l).getD 0), .bool (mapGet a1 b1 l).isSome]) ?_ rfl ?_
      · have : (Instr.lookup t (.map (some bb)) (.agg [Value.int .i64 a1, .int .i64 b1].toArray) true).run P w = .ok (.tuple #[.int .i64 ((mapGet a1 b1 l).getD 0), .bool (mapGet a1 b1 l).isSome]) w := hres
        simp only [Sem.run_bind, this, Result.andThen_ok, Sem.run_pure]
      · exact ⟨[_, _], rfl, _, _, rfl, rfl, _, _, rfl, rfl, rfl⟩
    · simp at h
  · simp at h

theorem same_key (a b : Int) : Instr.sameBits 10000 (keyV a b) (keyV a b) = true := by
  unfold keyV
  simp [Instr.sameBits]
/-- The entry that is put. -/
theorem put_list {es : List MapEntry} {l : List ((Int × Int) × Int)} (h : es.map (fun x => (x.key, x.val)) = l.map (fun x => (keyV x.1.1 x.1.2, Value.int .i64 x.2))) (a b n : Int) : ∀ (i : Nat),
    (∃ j x, findE a b l i = some (i + j, x) ∧ (∃ y, es[j]? = some y ∧ y.key = keyV a b) ∧ (es.modify j fun y => ({ y with key := keyV a b, val := Value.int .i64 n } : MapEntry)).map (fun x => (x.key, x.val)) = (mapPut a b n l).map (fun x => (keyV x.1.1 x.1.2, Value.int .i64 x.2))) ∨
    (findE a b l i = none ∧ ∀ c : Nat, (es ++ [({ key := keyV a b, val := Value.int .i64 n, born := c } : MapEntry)]).map (fun x => (x.key, x.val)) = (mapPut a b n l).map (fun x => (keyV x.1.1 x.1.2, Value.int .i64 x.2))) := by
  induction l generalizing es with
  | nil =>
    intro i
    right
    cases es with
    | nil => exact ⟨rfl, fun c => rfl⟩
    | cons y es => simp at h
  | cons x l ih =>
    intro i
    cases es with
    | nil => simp at h
    | cons y es =>
      simp only [List.map_cons, List.cons.injEq, Prod.mk.injEq] at h
      obtain ⟨⟨h1, h2⟩, h3⟩ := h
      by_cases c : a = x.1.1 ∧ b = x.1.2
      · left
        refine ⟨0, _, by unfold findE; rw [if_pos c]; rfl, ⟨y, rfl, by rw [h1, c.1, c.2]⟩, ?_⟩
        unfold mapPut
        rw [if_pos c]
        simp only [List.modify_zero_cons, List.map_cons, h3, List.cons.injEq, and_true, c.1, c.2]
      · rcases ih h3 (i + 1) with ⟨j, z, p1, p2, p3⟩ | ⟨p1, p2⟩
        · left
          refine ⟨j + 1, z, by unfold findE; rw [if_neg c, p1]; congr 2; omega, by simpa using p2, ?_⟩
          unfold mapPut
          rw [if_neg c]
          simp only [List.modify_succ_cons, List.map_cons, h1, h2, p3]
        · right
          refine ⟨by unfold findE; rw [if_neg c, p1], fun cl => ?_⟩
          unfold mapPut
          rw [if_neg c]
          simp only [List.cons_append, List.map_cons, h1, h2, p2 cl]

theorem map_write (H : Heap w0 W0 (G objs φ seen w) w) {h b o : Nat} {l l' : List ((Int × Int) × Int)} {es es' : Array MapEntry} {clock clock' : Nat} (ho : objs h = some ⟨false, .map l⟩) (hp : φ h = some (b, o)) (hw : w.heap[b]? = some (.map es clock))
    (hl : es'.toList.map (fun x => (x.key, x.val)) = l'.map (fun x => (keyV x.1.1 x.1.2, Value.int .i64 x.2))) :
    Heap w0 W0 (G (upd objs h (some ⟨false, .map l'⟩)) φ (upd seen h true) { w with heap := w.heap.setIfInBounds b (.map es' clock') }) { w with heap := w.heap.setIfInBounds b (.map es' clock') } ∧
    (G objs φ seen w).le (G (upd objs h (some ⟨false, .map l'⟩)) φ (upd seen h true) { w with heap := w.heap.setIfInBounds b (.map es' clock') }) := by
  obtain ⟨s1, s2⟩ := MapKept.heap_set (o' := .map es' clock') hw
  have hbs : ∀ b', bsOf { w with heap := w.heap.setIfInBounds b (.map es' clock') } b' = bsOf w b' := by
    intro b'
    unfold bsOf
    by_cases e : b' = b
    · subst e
      show (match (w.heap.setIfInBounds b' (Obj.map es' clock'))[b']? with | some (.cells c _ _) => c.size | _ => 0) = _
      rw [s1, hw]
    · show (match (w.heap.setIfInBounds b (Obj.map es' clock'))[b']? with | some (.cells c _ _) => c.size | _ => 0) = _
      rw [s2 b' e]
      rfl
  have hle : (G objs φ seen w).le (G (upd objs h (some ⟨false, .map l'⟩)) φ (upd seen h true) { w with heap := w.heap.setIfInBounds b (.map es' clock') }) := by
    refine le_of (fun x hx => ?_) (fun x hx => ?_)
    · show upd seen h true x = true
      rw [upd_eq]; split
      · rfl
      · exact hx
    · by_cases e : x = h
      · subst e
        exact .inr ⟨_, _, ho, upd_same _ _ _, rfl, rfl, fun b' o' _ => hbs b'⟩
      · show upd objs h _ x = none ∨ _
        rw [upd_ne _ _ e]
        cases hx' : objs x with
        | none => exact .inl rfl
        | some y => exact .inr ⟨y, y, hx', by show upd objs h _ x = some y; rw [upd_ne _ _ e]; exact hx', AO.like.refl y, rfl, fun b' o' _ => hbs b'⟩
  have hown : w0.heap.size ≤ b ∨ W0 b none := H.own h _ b o ho rfl hp
  refine ⟨H.step h ⟨false, .map l'⟩ (some b) hle rfl rfl rfl (by simp) (fun b' _ hne => s2 b' (fun e => hne (by rw [e]))) (fun b' e => by cases e; exact hown) (fun b' e => by cases e; exact .inr ⟨es, clock, hw⟩) (fun _ => rfl) (fun _ _ => rfl) ?_ (upd_same _ _ _) (upd_same _ _ _) ⟨b, o, es', clock', hp, s1, hl⟩ (fun _ q => by cases q) ?_, hle⟩
  · intro x y hne hy
    have hy' : upd objs h (some ⟨false, .map l'⟩) x = some y := hy
    rw [upd_ne _ _ hne] at hy'
    refine ⟨hy', rfl, fun b' hb' e => ?_⟩
    cases e
    have := (H.sep2 x h y _ b hy' ho hb' (.inl ⟨o, hp⟩) hne).2
    cases this
  · intro b' o' hb'
    have hb'' : φ h = some (b', o') := hb'
    rw [hp] at hb''
    cases hb''
    refine ⟨by
      have := H.lt h _ b o ho hp
      simpa using this, fun x y hne hy hb2 => ?_, fun _ => hown, H.rng h ⟨false, .map l⟩ b o ho hp⟩
    have hy' : upd objs h (some ⟨false, .map l'⟩) x = some y := hy
    rw [upd_ne _ _ hne] at hy'
    have := (H.sep2 x h y _ b hy' ho hb2 (.inl ⟨o, hp⟩) hne).2
    cases this

theorem mapUpdate_does (hT : TyOk P ty) (H : Heap w0 W0 (G objs φ seen w) w) {t : Nat} {x i v : SV} {a b c : Value} {e : Eff} (h : mapUpdateK ty t x i v objs some = some e) (rx : x.rep (G objs φ seen w) a) (ri : i.rep (G objs φ seen w) b) (rv : v.rep (G objs φ seen w) c) :
    Does P w0 W0 objs φ seen w e (do Instr.mapUpdate t a b c; pure .skip : Sem Next) := by
  unfold mapUpdateK at h
  split at h
  · rename_i hh a1 b1 n hm
    split at h
    · rename_i l ho
      simp only [Option.some.injEq] at h
      subst h
      obtain ⟨k, e, u, M⟩ := mapTy_at hT hm
      obtain ⟨bb, o, es, clock, rfl, hφ, hw, hl⟩ := map_reads H ho rx
      obtain ⟨vs, rfl, v1, r1, rfl, hv1, v2, r2, rfl, hv2, rfl⟩ := ri
      simp only [SV.rep] at hv1 hv2 rv
      subst hv1 hv2 rv
      have hk := find_key (w := w) M a1 b1 es.toList l hl
      have hck := keyOk (w := w) M false a1 b1
      rcases put_list hl a1 b1 n 0 with ⟨j, y, p1, ⟨z, p2, p2'⟩, p3⟩ | ⟨p1, p2⟩
      · rw [p1, Nat.zero_add] at hk
        have hz : es[j]? = some z := by simpa using p2
        have hrun : (Instr.mapUpdate t (.map (some bb)) (keyV a1 b1) (.int .i64 n)).run P w = .ok () { w with heap := w.heap.setIfInBounds bb (.map (es.modify j fun y => { y with key := keyV a1 b1, val := Value.int .i64 n }) clock) } := by
          unfold Instr.mapUpdate
          simp only [Sem.run_bind, run_underlying M.map, Result.andThen_ok, MapKept.run_getObj_map hw, hck, hk, hz, Option.map_some, Option.getD_some, p2', Instr.keyThatStays, same_key, if_true, Sem.run_pure, MapKept.run_setObj_map _ hw]
        obtain ⟨q1, q2⟩ := map_write H (l' := mapPut a1 b1 n l) (es' := es.modify j fun y => { y with key := keyV a1 b1, val := Value.int .i64 n }) (clock' := clock) ho hφ hw (by rw [Array.toList_modify]; exact p3)
        refine ⟨.skip, undef, _, φ, ?_, .inr ⟨rfl, rfl⟩, trivial, q1, q2⟩
        have : (Instr.mapUpdate t (.map (some bb)) (.agg [Value.int .i64 a1, .int .i64 b1].toArray) (.int .i64 n)).run P w = _ := hrun
        simp only [Sem.run_bind, this, Result.andThen_ok, Sem.run_pure]
      · rw [p1] at hk
        have hrun : (Instr.mapUpdate t (.map (some bb)) (keyV a1 b1) (.int .i64 n)).run P w = .ok () { w with heap := w.heap.setIfInBounds bb (.map (es.push { key := keyV a1 b1, val := Value.int .i64 n, born := clock }) (clock + 1)) } := by
          unfold Instr.mapUpdate
          simp only [Sem.run_bind, run_underlying M.map, Result.andThen_ok, MapKept.run_getObj_map hw, hck, hk, MapKept.run_setObj_map _ hw]
        obtain ⟨q1, q2⟩ := map_write H (l' := mapPut a1 b1 n l) (es' := es.push { key := keyV a1 b1, val := Value.int .i64 n, born := clock }) (clock' := clock + 1) ho hφ hw (by rw [Array.toList_push]; exact p2 clock)
        refine ⟨.skip, undef, _, φ, ?_, .inr ⟨rfl, rfl⟩, trivial, q1, q2⟩
        have : (Instr.mapUpdate t (.map (some bb)) (.agg [Value.int .i64 a1, .int .i64 b1].toArray) (.int .i64 n)).run P w = _ := hrun
        simp only [Sem.run_bind, this, Result.andThen_ok, Sem.run_pure]
    · simp at h
  · simp at h
end
end Go.Fx
end

noncomputable section
set_option linter.unusedVariables false
set_option linter.unusedSimpArgs false
set_option autoImplicit false
namespace Go.Fx
open Go
section
variable {P : Program} {w0 : World} {W0 : Nat → Option (Option EK) → Prop} {objs : Nat → Option AO} {φ : Nat → Option (Nat × Nat)} {seen : Nat → Bool} {w : World} {ty : Ty}

theorem does_val (H : Heap w0 W0 (G objs φ seen w) w) {e : Eff} {s : Sem Value} {v : Value} (hs : s.run P w = .ok v w) (hwr : e.wr = []) (hv : e.val.rep (G objs φ seen w) v) :
    Does P w0 W0 objs φ seen w e (do pure (.value (← s)) : Sem Next) :=
  does_pure H (by rw [Sem.run_bind, hs]; rfl) hwr hv

theorem run_conv_bytes (w : World) (src dst e : TypeId) (A : Option Addr) (n cap : Nat) (l : List Int) (hs : P.underlying src = some (.slice e)) (he : P.underlying e = some (.int .u8)) (hd : P.underlying dst = some .string)
    (hn : n = l.length) (hread : ∀ ad, A = some ad → ∀ (j : Nat) v, (encAll (.int .u8) l)[j]? = some v → w.cell? (ad.add j) = some v) (hnil : A = none → l = []) :
    (convert src dst (.slice A n cap)).run P w = .ok (.string (strOfInts l)) w := by
  rw [run_convert_bytes_string w src dst e A n cap hs he hd]
  cases A with
  | none =>
    rw [hnil rfl] at hn ⊢
    subst hn
    simp [Conv.bytesToString]
    rfl
  | some a =>
    have hl := run_loadCells_list (P := P) w a (l.map (Value.int .u8)) (fun j v hj => by
      refine hread a rfl j v ?_
      rw [← hj]
      congr 1
      clear hj hread hnil hn
      induction l with
      | nil => rfl
      | cons x l ih => rw [List.map_cons, ← ih]; rfl)
    simp only [List.length_map] at hl
    subst hn
    rw [run_bytesToString w a l.length cap _ hl]
    congr 2
    have : ∀ (l : List Int) (s : ByteArray), (l.foldl (fun r n => r.push (UInt8.ofNat n.toNat)) s).data = s.data ++ (l.map fun n => UInt8.ofNat n.toNat).toArray := by
      intro l
      induction l with
      | nil => intro s; simp
      | cons x l ih =>
        intro s
        rw [List.foldl_cons, ih]
        simp [ByteArray.push]
    have h0 := this l ByteArray.empty
    have he0 : ByteArray.empty.data = #[] := rfl
    rw [he0] at h0
    apply ByteArray.ext
    rw [h0]
    simp [strOfInts]

/-- The bytes of a text in a row of their own. -/
theorem bytes_does (H : Heap w0 W0 (G objs φ seen w) w) {s t u d : Nat} {x : ByteArray} (hs : seen (nm d 0) = false) (h1 : P.underlying s = some .string) (h2 : P.underlying t = some (.slice u)) (h3 : P.underlying u = some (.int .u8)) :
    Does P w0 W0 objs φ seen w ⟨.sl (nm d 0) .all, [(nm d 0, some ⟨false, .byt (intsOfStr x)⟩)], []⟩ (do pure (.value (← convert s t (.string x))) : Sem Next) := by
  have hrun := Lib.run_convert_string_bytes (P := P) w s t u x h1 h2 h3
  have hlen : (intsOfStr x).length = x.size := by simp [intsOfStr]
  have hnew := Lib.bytesWorld_at_new w u x
  have hold := Lib.bytesWorld_at_old w u x
  have hcs : x.size ≤ (Lib.bytesCells w u x).size := by simp [Lib.bytesCells]
  generalize hm : nm d 0 = m at *
  have hle : (G objs φ seen w).le ⟨upd objs m (some ⟨false, .byt (intsOfStr x)⟩), upd φ m (some (w.heap.size, 0)), upd seen m true, bsOf (Lib.bytesWorld w u x), memOf (Lib.bytesWorld w u x)⟩ := by
    refine le_of (fun h hh => ?_) (fun h hh => ?_)
    · have hne : h ≠ m := fun e => by rw [e] at hh; exact absurd (hs.symm.trans hh) (by simp)
      show upd seen m true h = true
      rw [upd_ne _ _ hne]; exact hh
    · have hne : h ≠ m := fun e => by rw [e] at hh; exact absurd (hs.symm.trans hh) (by simp)
      show upd objs m _ h = none ∨ _
      rw [upd_ne _ _ hne]
      cases ho : objs h with
      | none => exact .inl rfl
      | some y =>
        refine .inr ⟨y, y, ho, ?_, AO.like.refl y, ?_, ?_⟩
        · show upd objs m _ h = some y
          rw [upd_ne _ _ hne]; exact ho
        · show upd φ m _ h = φ h
          rw [upd_ne _ _ hne]
        · intro b o hb
          show bsOf (Lib.bytesWorld w u x) b = bsOf w b
          unfold bsOf
          rw [hold b (H.lt h y b o ho hb)]
  have hos : (Lib.bytesWorld w u x).os = w.os ∧ (Lib.bytesWorld w u x).tape = w.tape ∧ (Lib.bytesWorld w u x).output = w.output ∧ w.drawn ≤ (Lib.bytesWorld w u x).drawn := by
    exact ⟨rfl, rfl, rfl, Nat.le_succ _⟩
  have H2 := H.step (w' := Lib.bytesWorld w u x) m ⟨false, .byt (intsOfStr x)⟩ none hle hos.1 hos.2.1 hos.2.2.1 (by rw [Lib.bytesWorld_size]; omega) (fun b hb _ => hold b hb) (fun b hb => by cases hb) (fun b hb => by cases hb) (fun _ => rfl) (fun _ _ => rfl)
    (fun h a' hne ha => by
      have ha' : upd objs m (some ⟨false, .byt (intsOfStr x)⟩) h = some a' := ha
      rw [upd_ne _ _ hne] at ha'
      exact ⟨ha', by show upd φ m _ h = φ h; rw [upd_ne _ _ hne], fun b _ e => by cases e⟩)
    (upd_same _ _ _) (upd_same _ _ _)
    ⟨_, _, upd_same _ _ _, fun i v hv => by
      have hi : i < x.size := by
        have := (List.getElem?_eq_some_iff.1 hv).1
        omega
      rw [Nat.zero_add, Lib.bytesWorld_cell w u x i hi]
      congr 2
      simp only [intsOfStr, List.getElem?_map, Option.map_eq_some_iff] at hv
      obtain ⟨b, hb, rfl⟩ := hv
      simp [List.getD, hb], fun _ => ⟨_, _, _, hnew, by omega, by omega⟩⟩ (fun _ q => by cases q)
    (fun b o hb => by
      have hb' : upd φ m (some (w.heap.size, 0)) m = some (b, o) := hb
      rw [upd_same] at hb'
      cases hb'
      refine ⟨by rw [Lib.bytesWorld_size]; omega, ?_, fun _ => .inl H.size, .inl H.size⟩
      intro h a' hne ha hbb
      have ha' : upd objs m (some ⟨false, .byt (intsOfStr x)⟩) h = some a' := ha
      rw [upd_ne _ _ hne] at ha'
      have := H.lt2 h a' _ ha' hbb
      omega) hos.2.2.2
  refine ⟨_, _, Lib.bytesWorld w u x, upd φ m (some (w.heap.size, 0)), by rw [Sem.run_bind, hrun]; rfl, .inl rfl, ?_, H2, hle⟩
  refine ⟨upd_same _ _ _, ⟨_, _, _, rfl⟩, ?_⟩
  simp only [Ctx.slOk, wrObjs, upd_same]
  exact fun _ => ⟨_, _, _, rfl, by rw [hlen]⟩

theorem caps_rep {Γ : Ctx} {slots : Nat → SV} {a : Act} (hev : ∀ x, (ev slots x).rep Γ (a.eval x)) : ∀ (l : List Operand), SV.repL Γ (l.map (ev slots)) (l.map a.eval)
  | [] => rfl
  | x :: l => ⟨_, _, rfl, hev x, caps_rep hev l⟩

theorem binK_nat {β : Type} (kd : TK) (op : BinOp) (x y : SV) (K : SV → Option β) : binK kd op x y K = (binK kd op x y some).bind K := by
  unfold binK
  repeat' split
  all_goals first | rfl | simp
theorem unK_nat {β : Type} (op : UnOp) (x : SV) (K : SV → Option β) : unK op x K = (unK op x some).bind K := by
  unfold unK
  repeat' split
  all_goals first | rfl | simp
theorem eqAggK_nat {β : Type} (t : Nat) (op : BinOp) (xs ys : List SV) (K : SV → Option β) : eqAggK ty t op xs ys K = (eqAggK ty t op xs ys some).bind K := by
  unfold eqAggK
  repeat' split
  all_goals first | rfl | simp

theorem getOp_of {α : Type} {l : List α} {x : α} {i : Nat} (h : l[i]? = some x) : True := trivial

theorem opS_does (hT : TyOk P ty) (Φ : Nat → PFn) (H : Heap w0 W0 (G objs φ seen w) w) {slots : Nat → SV} {a : Act} (hev : ∀ x, (ev slots x).rep (G objs φ seen w) (a.eval x)) {o : Oper} {d : Nat} {e : Eff}
    (hnc : ∀ c f, o.op = .call c → c.callee ≠ .value f) (h : opK ty Φ (ev slots) objs seen d o.op some = some e) :
    Does P w0 W0 objs φ seen w e (execOp a.eval o) := by
  obtain ⟨dst, op, rt, pos, after, guard⟩ := o
  simp only at h hnc
  unfold opK at h
  unfold execOp
  simp only
  split at h
  · -- move
    simp only [Option.some.injEq] at h
    subst h
    exact does_pure H rfl rfl (hev _)
  · simp only [Option.some.injEq] at h
    subst h
    exact does_pure H rfl rfl (hev _)
  · -- pick
    rename_i c x y
    split at h
    · rename_i t hc
      have hr := hev c
      rw [hc] at hr
      simp only [SV.rep] at hr
      simp only [hr, asBool]
      split at h
      · rename_i ht
        simp only [Option.some.injEq] at h
        subst h
        subst ht
        exact does_pure H (by simp) rfl (hev _)
      · rename_i ht
        simp only [Option.some.injEq] at h
        subst h
        have ht' : t = false := by simpa using ht
        subst ht'
        exact does_pure H (by simp) rfl (hev _)
    · simp at h
  · -- alloc
    rename_i t
    split at h
    · rename_i hb hbig
      simp only [Bool.or_eq_false_iff, Bool.not_eq_false'] at hb
      split at h
      · rename_i n l hfl hz
        simp only [Option.some.injEq] at h
        subst h
        exact allocFlat_does hT H hb.1 hb.2 hbig hz
      · simp only [Option.some.injEq] at h
        subst h
        exact alloc_does hT H hb.1 hb.2 hbig
    · rename_i hb hbig
      simp only [Bool.or_eq_false_iff, Bool.not_eq_false'] at hb
      split at h
      · rename_i hpos
        simp only [Option.some.injEq] at h
        subst h
        exact allocBig_does hT H hb.1 hb.2 hbig (Nat.le_of_ble_eq_true hpos)
      · simp at h
    · simp at h
  · -- box
    rename_i t x
    have hr := hev x
    split at h
    · rename_i n l hs hx
      split at h
      · rename_i hpos
        simp only [Option.some.injEq] at h
        subst h
        rw [hx] at hr
        exact boxBig_does H hs (Nat.le_of_ble_eq_true hpos) hr
      · simp at h
    · rename_i v hs hne
      split at h
      · rename_i hc
        simp only [Option.some.injEq] at h
        subst h
        exact box_does H hs hc hr
      · simp at h
    · simp at h
  · -- build
    rename_i t parts
    split at h
    · rename_i fs hbig hk
      split at h
      · rename_i cs hall hb
        simp only [Option.some.injEq] at h
        subst h
        obtain ⟨v, h1, h2⟩ := build_ok (P := P) (w := w) hT hev hbig (.inl ⟨fs, hk, hall, hb⟩)
        exact does_val H h1 rfl h2
      · simp at h
    · rename_i n u hbig hk
      split at h
      · rename_i cs hku hb
        simp only [Option.some.injEq] at h
        subst h
        obtain ⟨v, h1, h2⟩ := build_ok (P := P) (w := w) hT hev hbig (.inr ⟨n, u, hk, hku, hb⟩)
        exact does_val H h1 rfl h2
      · simp at h
    · rename_i n u hbig hk
      split at h
      · rename_i hps hku
        simp only [Option.some.injEq] at h
        subst h
        have hp0 : parts = #[] := by
          apply Array.ext'
          simpa using hps
        subst hp0
        obtain ⟨v, h1, h2⟩ := buildBig_ok (P := P) (w := w) (Γ := G objs φ seen w) hT hbig hk hku
        exact does_val H (by simpa using h1) rfl h2
      · simp at h
    · simp at h
  · -- buildSlice
    rename_i t len parts
    split at h
    · rename_i u hk
      split at h
      · rename_i k hek hs hl
        split at h
        · rename_i l hr
          simp only [Option.some.injEq] at h
          subst h
          simp only [Bool.and_eq_true] at hl
          exact buildSlice_does hT H hev hk hek hs (Nat.eq_of_beq_eq_true hl.1) (Nat.le_of_ble_eq_true hl.2) hr
        · simp at h
      · rename_i hek hs hl
        split at h
        · rename_i e0 cs hku hr
          split at h
          · rename_i hsz
            simp only [Bool.and_eq_true] at hl
            split at h
            · simp only [Option.some.injEq] at h
              subst h
              have hp0 : parts = #[] := by
                apply Array.ext'
                have := vecParts_nil hr
                simpa using this
              subst hp0
              have hl0 : len = 0 := Nat.eq_of_beq_eq_true hl.1
              subst hl0
              exact buildTab_does hT H hk hku (Nat.eq_of_beq_eq_true hsz) hs
            · simp only [Option.some.injEq] at h
              subst h
              exact buildVec_does hT H hev hk hku (Nat.eq_of_beq_eq_true hsz) hs (Nat.eq_of_beq_eq_true hl.1) (Nat.le_of_ble_eq_true hl.2) hr
          · simp at h
        · simp at h
      · simp at h
    · simp at h
  · -- load
    exact loadT_does hT H h (hev _)
  · -- store
    obtain ⟨w', h1, h2, h3, h4⟩ := store_ok hT H h (hev _) (hev _)
    refine ⟨.skip, undef, w', φ, by rw [Sem.run_bind, h1]; rfl, .inr ⟨rfl, rfl⟩, ?_, h3, h4⟩
    rw [h2]
    trivial
  · -- nilCheck
    rename_i x
    have hr := hev x
    split at h
    · rename_i hh i hx
      rw [hx] at hr
      split at h
      · rename_i ro cs ho
        simp only [Option.some.injEq] at h
        subst h
        have hr' := hr
        obtain ⟨hs, _, hp⟩ := hr
        simp only [Ctx.ptrOk, ho] at hp
        obtain ⟨b, k, _, hv⟩ := hp
        rw [hv] at hr'
        dsimp only
        rw [hv]
        exact does_pure H rfl rfl hr'
      · simp at h
    · rename_i hh i j hx
      rw [hx] at hr
      split at h
      · rename_i ro k l ho
        simp only [Option.some.injEq] at h
        subst h
        have hr' := hr
        obtain ⟨hs, _, hp⟩ := hr
        simp only [Ctx.pelOk, ho] at hp
        obtain ⟨_, b, k, _, hv⟩ := hp
        rw [hv] at hr'
        dsimp only
        rw [hv]
        exact does_pure H rfl rfl hr'
      · simp at h
    · simp at h
  · -- binOp
    rename_i op' t x y q
    have hx := hev x
    have hy := hev y
    split at h
    · rename_i xs ys hxs hys
      rw [hxs] at hx
      rw [hys] at hy
      obtain ⟨as, hxa, hxr⟩ := hx
      obtain ⟨bs, hya, hyr⟩ := hy
      rw [eqAggK_nat, Option.bind_eq_some_iff] at h
      obtain ⟨v, hv, he⟩ := h
      simp only [Option.some.injEq] at he
      subst he
      obtain ⟨u, h1, h2⟩ := eqAggK_ok (P := P) (w := w) (xo := x) (yo := y) hT hv hxr hyr
      dsimp only
      rw [hxa, hya]
      exact does_val H h1 rfl h2
    · rw [binK_nat, Option.bind_eq_some_iff] at h
      obtain ⟨v, hv, he⟩ := h
      simp only [Option.some.injEq] at he
      subst he
      obtain ⟨u, h1, h2⟩ := binK_ok (P := P) (w := w) (xo := x) (yo := y) hT hv hx hy
      exact does_val H h1 rfl h2
  · -- unOp
    rename_i op' q x
    rw [unK_nat, Option.bind_eq_some_iff] at h
    obtain ⟨v, hv, he⟩ := h
    simp only [Option.some.injEq] at he
    subst he
    obtain ⟨u, h1, h2⟩ := unK_ok (P := P) (w := w) hv (hev x)
    exact does_val H h1 rfl h2
  · -- convert
    rename_i s t x
    have hx := hev x
    unfold convK at h
    split at h
    · rename_i k1 k2 k3 n hs ht he
      simp only [Option.some.injEq] at h
      subst h
      rw [he] at hx
      simp only [SV.rep] at hx
      refine does_val H (v := .int k2 (k2.wrap n)) ?_ rfl rfl
      simp [convert, run_underlying (ty_int hT hs), run_underlying (ty_int hT ht), hx, Conv.intToInt]
    · rename_i s' hs ht he
      simp only [Option.some.injEq] at h
      subst h
      rw [he] at hx
      simp only [SV.rep] at hx
      refine does_val H (v := .string s') ?_ rfl rfl
      simp [convert, run_underlying (ty_str hT hs), run_underlying (ty_str hT ht), hx]
    · rename_i u hh win hs ht he
      rw [he] at hx
      unfold convB at h
      split at h
      · rename_i ro e2 l hu ho
        split at h
        · rename_i he2
          subst he2
          simp only [Option.some.injEq] at h
          subst h
          obtain ⟨_, ⟨A, n, cap, hav⟩, hsl⟩ := hx
          rw [hav] at hsl
          obtain ⟨hn, _, _, hread, hnil, _⟩ := sl_reads H ho hsl
          refine does_val H (v := .string (strOfInts (win.view (castRow rfl l)))) ?_ rfl rfl
          rw [hav]
          exact run_conv_bytes w s t u A n cap (win.view l) (ty_slice hT hs) (ty_int hT hu) (ty_str hT ht) hn hread hnil
        · simp at h
      · rename_i ro l hu ho
        split at h
        · simp only [Option.some.injEq] at h
          subst h
          obtain ⟨_, _, hsl⟩ := hx
          simp only [Ctx.slOk, ho] at hsl
          obtain ⟨b, o, cap, hφ, hav⟩ := hsl trivial
          obtain ⟨b', o', hφ', hc, _⟩ := H.obj hh _ ho
          have hφ2 : φ hh = some (b', o') := hφ'
          rw [hφ] at hφ2
          simp only [Option.some.injEq, Prod.mk.injEq] at hφ2
          obtain ⟨rfl, rfl⟩ := hφ2
          refine does_val H (v := .string (strOfInts l)) ?_ rfl rfl
          rw [hav]
          refine run_conv_bytes w s t u _ _ cap l (ty_slice hT hs) (ty_int hT hu) (ty_str hT ht) rfl (fun ad ha j v hv => ?_) (fun q => by cases q)
          cases ha
          rw [add_spot]
          have hv' : (l.map (Value.int .u8))[j]? = some v := by
            rw [← hv]
            exact congrArg (fun l => l[j]?) (encAll_ints .u8 l).symm
          rw [List.getElem?_map, Option.map_eq_some_iff] at hv'
          obtain ⟨x, hx, rfl⟩ := hv'
          exact hc j x hx
        · simp at h
      · simp at h
    · rename_i u s' hs ht he
      rw [he] at hx
      simp only [SV.rep] at hx
      split at h
      · rename_i hu hsn
        simp only [Option.some.injEq] at h
        subst h
        dsimp only
        rw [hx]
        exact bytes_does H hsn (ty_str hT hs) (ty_slice hT ht) (ty_int hT hu)
      · simp at h
    · simp at h
  · -- sliceToArrayPointer
    rename_i t x
    have hx := hev x
    split at h
    · rename_i n u hh win hk he
      rw [he] at hx
      split at h
      · rename_i ro k l ho
        split at h
        · rename_i hb
          simp only [Option.some.injEq] at h
          subst h
          obtain ⟨hs, _, hp⟩ := hx
          simp only [Ctx.slOk, ho] at hp
          obtain ⟨hok, A, cap, hav, hlc, hcm, hcap⟩ := hp
          rw [view_length] at hb
          have hle := len_le win l.length hok
          obtain ⟨b, o, hφ, rfl, _⟩ := hcap.resolve_left (by omega)
          have hidx := win_idx win 0 l.length (by omega)
          refine does_val H (v := .pointer (some ⟨b, o + win.off * k.sz, none⟩)) ?_ rfl ⟨hs, ⟨_, rfl⟩, ?_⟩
          · have hlt : ¬ win.len l.length < n := by omega
            simp only [Instr.arrayAt, hav, Sem.run_bind, run_underlying (ty_arr hT hk), Result.andThen_ok, hlt, if_false, Sem.run_pure]
          · simp only [Ctx.pelOk, ho, hidx, Nat.add_zero]
            exact ⟨by omega, b, o, hφ, rfl⟩
        · simp at h
      · simp at h
    · simp at h
  · -- makeFunc
    rename_i f first caps
    split at h
    · rename_i hf
      simp only [Option.some.injEq] at h
      subst h
      have hfe : first = #[] := by
        apply Array.ext'
        simpa using hf
      subst hfe
      refine does_val H (v := .func (.func f) #[] (caps.toList.map a.eval).toArray) ?_ rfl ⟨_, rfl, caps_rep hev _⟩
      have hce : caps.map a.eval = (caps.toList.map a.eval).toArray := by
        apply Array.ext'
        rw [Array.toList_map]
      simp only [Instr.makeFunc]
      rw [hce]
      simp
    · simp at h
  · -- makeSlice
    rename_i t l c
    have hl := hev l
    have hc := hev c
    split at h
    · rename_i u k1 n k2 m hk hl' hc'
      rw [hl'] at hl
      rw [hc'] at hc
      simp only [SV.rep] at hl hc
      split at h
      · rename_i k hek hs
        split at h
        · rename_i hb
          simp only [Option.some.injEq] at h
          subst h
          dsimp only
          rw [hl, hc]
          exact makeSlice_does hT H hk hek hs hb
        · simp at h
      · simp at h
    · simp at h
  · -- slice
    rename_i t x lo hi mx
    obtain ⟨v, h1, h2, h3⟩ := slice_ok (P := P) (vlo := lo.map a.eval) (vhi := hi.map a.eval) hT H h (hev x)
      (fun c hc => by
        cases lo with
        | none => simp at hc
        | some q => simp only [Option.map_some, Option.some.injEq] at hc; subst hc; exact ⟨_, rfl, hev q⟩)
      (fun hc => by cases lo with | none => rfl | some q => simp at hc)
      (fun c hc => by
        cases hi with
        | none => simp at hc
        | some q => simp only [Option.map_some, Option.some.injEq] at hc; subst hc; exact ⟨_, rfl, hev q⟩)
      (fun hc => by cases hi with | none => rfl | some q => simp at hc)
      (vmx := mx.map a.eval) (fun c hc => by
        cases mx with
        | none => simp at hc
        | some q => simp only [Option.map_some, Option.some.injEq] at hc; subst hc; exact ⟨_, rfl, hev q⟩)
      (fun hc => by cases mx with | none => rfl | some q => simp at hc)
    exact does_val H h1 h2 h3
  · -- fieldAddr
    rename_i t x f
    have hx := hev x
    split at h
    · rename_i u o hh i hf he
      rw [he] at hx
      split at h
      · rename_i ro cs ho
        simp only [Option.some.injEq] at h
        subst h
        obtain ⟨v, h1, h2⟩ := fieldAddr_ok (P := P) (c' := .ptr hh (i + o)) hT hf hx (.inl ⟨_, _, rfl, rfl⟩) (.inl ⟨_, _, rfl, _, _, ho⟩)
        exact does_val H h1 rfl h2
      · simp at h
    · rename_i u o hh i j hf he
      rw [he] at hx
      split at h
      · rename_i ro k l ho
        simp only [Option.some.injEq] at h
        subst h
        obtain ⟨v, h1, h2⟩ := fieldAddr_ok (P := P) (c' := .pel hh i (j + o)) hT hf hx (.inr ⟨_, _, _, rfl, rfl⟩) (.inr ⟨_, _, _, rfl, _, _, _, ho⟩)
        exact does_val H h1 rfl h2
      · simp at h
    · simp at h
  · -- field
    rename_i t x f
    have hx := hev x
    split at h
    · rename_i u o cs hf he
      rw [he] at hx
      obtain ⟨vs, hv, hr⟩ := hx
      obtain ⟨fs, fd, hfs, hfd, q1, q2, hty, q3⟩ := fieldOff_ok hT hf
      have hpart : ∀ c : SV, (if (ty u).isAgg = true then (if o + (ty u).size ≤ cs.length then some (SV.agg ((cs.drop o).take (ty u).size)) else none) else cs[o]?) = some c → e = ⟨c, [], []⟩ →
          Does P w0 W0 objs φ seen w e (do pure (.value (← Instr.field t (a.eval x) f)) : Sem Next) := by
        intro c hc he
        subst he
        obtain ⟨v, h1, h2⟩ := part_ok (P := P) (w := w) hty hr hc
        refine does_val H (v := v) ?_ rfl h2
        simp only [Instr.field, Sem.run_bind, run_underlying hfs, Result.andThen_ok, hfd, hv, asAgg, Sem.run_pure, q1, q2, h1]
      split at h
      · rename_i hag
        split at h
        · rename_i hle
          simp only [Option.some.injEq] at h
          subst h
          exact hpart _ (by rw [if_pos hag, if_pos (Nat.le_of_ble_eq_true hle)]) rfl
        · simp at h
      · rename_i hag
        split at h
        · rename_i v hv'
          simp only [Option.some.injEq] at h
          subst h
          exact hpart _ (by rw [if_neg (by simp [hag])]; exact hv') rfl
        · simp at h
    · simp at h
  · -- indexAddr
    obtain ⟨v, h1, h2, h3⟩ := indexAddr_ok (P := P) hT H h (hev _) (hev _)
    exact does_val H h1 h2 h3
  · -- index
    rename_i t x i
    have hx := hev x
    have hi := hev i
    split at h
    · rename_i s k n hk he hie
      rw [he] at hx
      rw [hie] at hi
      simp only [SV.rep] at hx hi
      split at h
      · rename_i hb
        simp only [Option.some.injEq] at h
        subst h
        refine does_val H (v := .int .u8 (bAt s n.toNat)) ?_ rfl rfl
        have hn : n.toNat < s.size := by omega
        have hs : s[n.toNat]? = some s[n.toNat] := by
          rw [getElem?_pos]
        simp only [Instr.index, hx, hi, Sem.run_bind, asIntOf_int, Result.andThen_ok, run_underlying (ty_str hT hk), hb.1, if_true, hs, Sem.run_pure]
        congr 2
        simp only [bAt]
        have : s.toList.getD n.toNat 0 = s[n.toNat] := by
          rw [ByteArray.toList_eq]
          simp [List.getD, hn]
          rfl
        rw [this]
      · simp at h
    · rename_i m u cs k n hk he hie
      rw [he] at hx
      rw [hie] at hi
      obtain ⟨vs, hv, hr⟩ := hx
      simp only [SV.rep] at hi
      split at h
      · rename_i hb
        simp only [Bool.and_eq_true, Bool.not_eq_true'] at hb
        obtain ⟨hb, hku⟩ := hb
        have hb1 := Nat.eq_of_beq_eq_true hb.1
        split at h
        · rename_i hb3
          split at h
          · rename_i c hc
            simp only [Option.some.injEq] at h
            subst h
            have hty : TyAt P u (ty u) := ty_known hT hku
            obtain ⟨v, h1, h2⟩ := part_ok (P := P) (w := w) (o := n.toNat * (ty u).size) hty hr (by rw [if_neg (by simp [hb.2]), hb1, Nat.mul_one]; exact hc)
            refine does_val H (v := v) ?_ rfl h2
            simp only [Instr.index, hv, hi, Sem.run_bind, asIntOf_int, Result.andThen_ok, run_underlying (ty_arr hT hk), hb3.1, hb3.2, and_self, if_true, sizeOf_ty hty, h1]
          · simp at h
        · simp at h
      · simp at h
    · rename_i m u q l k n hk he hie
      rw [he] at hx
      rw [hie] at hi
      obtain ⟨hlq, hv⟩ := hx
      simp only [SV.rep] at hi
      split at h
      · rename_i hb1 hag
        simp only [Bool.and_eq_true] at hb1
        have hty : TyAt P u (ty u) := ty_known hT hb1.1
        have hle := Nat.le_of_ble_eq_true hb1.2
        split at h
        · rename_i hb3
          simp only [Option.some.injEq] at h
          subst h
          have hmul : (n.toNat + 1) * (ty u).size ≤ m * (ty u).size := Nat.mul_le_mul_right _ (by omega)
          rw [Nat.succ_mul] at hmul
          have hlen : ((l.drop (n.toNat * (ty u).size)).take (ty u).size).length = (ty u).size := by simp; omega
          have hp : (part u (l.map (Value.int .i64)).toArray (n.toNat * (ty u).size)).run P w = .ok (.agg (((l.drop (n.toNat * (ty u).size)).take (ty u).size).map (Value.int .i64)).toArray) w := by
            simp only [part, Sem.run_bind, isAgg_ty hty, hag, Result.andThen_ok, if_true, sizeOf_ty hty, Sem.run_pure]
            congr 2
            apply Array.ext'
            simp [List.map_take, List.map_drop]
          refine does_val H (v := .agg (((l.drop (n.toNat * (ty u).size)).take (ty u).size).map (Value.int .i64)).toArray) ?_ rfl ⟨hlen, rfl⟩
          simp only [Instr.index, hv, hi, Sem.run_bind, asIntOf_int, Result.andThen_ok, run_underlying (ty_arr hT hk), hb3.1, hb3.2, and_self, if_true, sizeOf_ty hty, hp]
        · simp at h
      · rename_i hb1 hag hs1
        simp only [Bool.and_eq_true] at hb1
        have hty : TyAt P u (ty u) := ty_known hT hb1.1
        have hle := Nat.le_of_ble_eq_true hb1.2
        have hs1 := Nat.eq_of_beq_eq_true hs1
        split at h
        · rename_i hb3
          simp only [Option.some.injEq] at h
          subst h
          rw [hs1, Nat.mul_one] at hle
          have hx : l[n.toNat]? = some (l.getD n.toNat 0) := by
            rw [List.getD_eq_getElem?_getD, List.getElem?_eq_getElem (by omega)]
            simp
          have hp : (part u (l.map (Value.int .i64)).toArray (n.toNat * (ty u).size)).run P w = .ok (.int .i64 (l.getD n.toNat 0)) w := by
            have hx2 : (l.map (Value.int .i64)).toArray[n.toNat * (ty u).size]? = some (.int .i64 (l.getD n.toNat 0)) := by
              rw [hs1, Nat.mul_one, List.getElem?_toArray, List.getElem?_map, hx]
              rfl
            simp only [part, Sem.run_bind, isAgg_ty hty, hag, Result.andThen_ok, Bool.false_eq_true, if_false, hx2, Sem.run_pure]
          refine does_val H (v := .int .i64 (l.getD n.toNat 0)) ?_ rfl rfl
          simp only [Instr.index, hv, hi, Sem.run_bind, asIntOf_int, Result.andThen_ok, run_underlying (ty_arr hT hk), hb3.1, hb3.2, and_self, if_true, sizeOf_ty hty, hp]
        · simp at h
      · simp at h
    · simp at h
  · -- extract
    rename_i x i
    have hx := hev x
    split at h
    · rename_i vs hv
      rw [hv] at hx
      obtain ⟨us, hu, hr⟩ := hx
      split at h
      · rename_i c hc
        simp only [Option.some.injEq] at h
        subst h
        obtain ⟨v, h1, h2⟩ := repL_get hr i c hc
        refine does_val H (v := v) ?_ rfl h2
        simp [Instr.extract, hu, h1]
      · simp at h
    · simp at h
  · -- makeMap
    split at h
    · rename_i hm hs
      simp only [Option.some.injEq] at h
      subst h
      exact makeMap_does hT H hm hs
    · simp at h
  · -- lookup
    exact lookup_does hT H h (hev _) (hev _)
  · -- mapUpdate
    exact mapUpdate_does hT H h (hev _) (hev _) (hev _)
  · -- call
    rename_i c
    split at h
    · rename_i b hb
      exact builtin_does hT H hev hb h
    · rename_i f hf
      exact absurd hf (hnc c f rfl)
    · simp at h
  · simp at h

end
end Go.Fx
end

noncomputable section
set_option linter.unusedVariables false
set_option linter.unusedSimpArgs false
set_option autoImplicit false
namespace Go.Fx
open Go
section
variable {β : Type} {ty : Ty}
theorem loadI_nat (n h i j : Nat) (e : EK) (l : List e.den) (K : Eff → Option β) : loadI n h i j e l K = (loadI n h i j e l some).bind K := by
  unfold loadI
  repeat' split
  all_goals first | rfl | simp_all
theorem loadK_nat (t : Nat) (x : SV) (look : Nat → Option AO) (K : Eff → Option β) : loadK ty t x look K = (loadK ty t x look some).bind K := by
  unfold loadK
  repeat' split
  all_goals first | rfl | exact loadI_nat .. | simp_all
theorem loadT_nat (t : Nat) (x : SV) (look : Nat → Option AO) (seen : Nat → Bool) (d : Nat) (K : Eff → Option β) : loadT ty t x look seen d K = (loadT ty t x look seen d some).bind K := by
  unfold loadT loadR
  split
  · repeat' split
    all_goals first | rfl | simp_all
  · exact loadK_nat ..
theorem appendT_nat (t : Nat) (look : Nat → Option AO) (seen : Nat → Bool) (d : Nat) (s y : SV) (K : Eff → Option β) : appendT ty t look seen d s y K = (appendT ty t look seen d s y some).bind K := by
  unfold appendT
  repeat' split
  all_goals first | rfl | simp_all
theorem storeI_nat (n h i j : Nat) (e : EK) (l : List e.den) (v : SV) (K : Eff → Option β) : storeI n h i j e l v K = (storeI n h i j e l v some).bind K := by
  unfold storeI
  repeat' split
  all_goals first | rfl | simp_all
theorem storeK_nat (t : Nat) (x v : SV) (look : Nat → Option AO) (K : Eff → Option β) : storeK ty t x v look K = (storeK ty t x v look some).bind K := by
  unfold storeK
  repeat' split
  all_goals first | rfl | exact storeI_nat .. | simp_all
theorem sliceO_nat (t : Nat) (x : SV) (lo hi mx : Option SV) (look : Nat → Option AO) (K : Eff → Option β) : sliceO ty t x lo hi mx look K = (sliceO ty t x lo hi mx look some).bind K := by
  unfold sliceO
  repeat' split
  all_goals first | rfl | simp_all
theorem sliceM_nat (t : Nat) (x : SV) (lo hi mx : Option SV) (look : Nat → Option AO) (K : Eff → Option β) : sliceM ty t x lo hi mx look K = (sliceM ty t x lo hi mx look some).bind K := by
  unfold sliceM
  repeat' split
  all_goals first | rfl | simp_all
theorem sliceB_nat (t : Nat) (x : SV) (lo hi : Option SV) (look : Nat → Option AO) (K : Eff → Option β) : sliceB ty t x lo hi look K = (sliceB ty t x lo hi look some).bind K := by
  unfold sliceB
  repeat' split
  all_goals first | rfl | simp_all
theorem sliceK_nat (t : Nat) (x : SV) (lo hi mx : Option SV) (look : Nat → Option AO) (K : Eff → Option β) : sliceK ty t x lo hi mx look K = (sliceK ty t x lo hi mx look some).bind K := by
  unfold sliceK
  split
  · exact sliceM_nat ..
  · split
    · exact sliceB_nat ..
    · exact sliceO_nat ..
theorem indexAddrK_nat (t : Nat) (x ix : SV) (look : Nat → Option AO) (K : Eff → Option β) : indexAddrK ty t x ix look K = (indexAddrK ty t x ix look some).bind K := by
  unfold indexAddrK
  repeat' split
  all_goals first | rfl | simp_all
theorem appendO_nat (k : EK) (look : Nat → Option AO) (seen : Nat → Bool) (d : Nat) (s y : SV) (K : Eff → Option β) : appendO k look seen d s y K = (appendO k look seen d s y some).bind K := by
  unfold appendO
  repeat' split
  all_goals first | rfl | simp_all
theorem appendS_nat (k : EK) (look : Nat → Option AO) (h i j : Nat) (K : Eff → Option β) : appendS k look h i j K = (appendS k look h i j some).bind K := by
  unfold appendS
  repeat' split
  all_goals first | rfl | simp_all
theorem appendK_nat (k : EK) (look : Nat → Option AO) (seen : Nat → Bool) (d : Nat) (s y : SV) (K : Eff → Option β) : appendK k look seen d s y K = (appendK k look seen d s y some).bind K := by
  unfold appendK
  split
  · exact appendS_nat ..
  · exact appendO_nat ..
theorem clearK_nat (t : Nat) (x : SV) (look : Nat → Option AO) (K : Eff → Option β) : clearK ty t x look K = (clearK ty t x look some).bind K := by
  unfold clearK
  repeat' split
  all_goals first | rfl | simp_all
theorem madeK_nat (e u : Nat) (s y : SV) (seen : Nat → Bool) (d : Nat) (K : Eff → Option β) : madeK ty e u s y seen d K = (madeK ty e u s y seen d some).bind K := by
  unfold madeK
  repeat' split
  all_goals first | rfl | simp_all
theorem builtinK_nat (b : Builtin) (ats : List Nat) (args : List SV) (look : Nat → Option AO) (seen : Nat → Bool) (d : Nat) (K : Eff → Option β) :
    builtinK ty b ats args look seen d K = (builtinK ty b ats args look seen d some).bind K := by
  unfold builtinK minK maxK
  repeat' split
  all_goals first | rfl | exact appendK_nat .. | exact appendT_nat .. | exact madeK_nat .. | exact clearK_nat .. | simp_all

def PFn.Natural (F : PFn) : Prop := ∀ (β : Type) (args : List SV) (look : Nat → Option AO) (seen : Nat → Bool) (d : Nat) (K : Eff → Option β), F.run args look seen d K = (F.run args look seen d some).bind K

theorem convK_nat (s t : Nat) (x : SV) (look : Nat → Option AO) (seen : Nat → Bool) (d : Nat) (K : Eff → Option β) : convK ty s t x look seen d K = (convK ty s t x look seen d some).bind K := by
  unfold convK convB
  repeat' split
  all_goals first | rfl | simp_all
theorem opK_nat {Φ : Nat → PFn} (hΦ : ∀ g, (Φ g).Natural) (e : Operand → SV) (look : Nat → Option AO) (seen : Nat → Bool) (d : Nat) (op : Op) (K : Eff → Option β) :
    opK ty Φ e look seen d op K = (opK ty Φ e look seen d op some).bind K := by
  cases op
  case load => exact loadT_nat ..
  case store => exact storeK_nat ..
  case slice => exact sliceK_nat ..
  case indexAddr => exact indexAddrK_nat ..
  case convert => exact convK_nat ..
  case binOp o t x y z =>
    simp only [opK]
    split
    · rw [eqAggK_nat, eqAggK_nat (K := fun v => some (⟨v, [], []⟩ : Eff)), Option.bind_assoc]; rfl
    · rw [binK_nat, binK_nat (K := fun v => some (⟨v, [], []⟩ : Eff)), Option.bind_assoc]; rfl
  case unOp o t x =>
    simp only [opK]
    rw [unK_nat, unK_nat (K := fun v => some (⟨v, [], []⟩ : Eff)), Option.bind_assoc]; rfl
  case call c =>
    simp only [opK]
    split
    · exact builtinK_nat ..
    · split
      · exact hΦ _ _ _ _ _ _ _
      · rfl
    · rfl
  case lookup t x i c =>
    simp only [opK, lookupK]
    (repeat' split)
    all_goals first | rfl | simp_all
  case mapUpdate t x i v =>
    simp only [opK, mapUpdateK]
    (repeat' split)
    all_goals first | rfl | simp_all
  all_goals
    simp only [opK]
    (repeat' split)
    all_goals first | rfl | simp_all
end

/-! ### 2. An operation looks at nothing but what it says -/
structure Same (look look' : Nat → Option AO) (seen seen' : Nat → Bool) (ef : Eff) : Prop where
  look : ∀ h, h ∈ ef.touch ++ ef.wr.map (·.1) → look' h = look h
  seen : ∀ h, h ∈ ef.wr.map (·.1) → seen' h = seen h

section
variable {ty : Ty} {look look' : Nat → Option AO} {seen seen' : Nat → Bool} {ef : Eff}
theorem loadI_eff {n hh i j : Nat} {e : EK} {l : List e.den} (h : loadI n hh i j e l some = some ef) : ef.wr = [] ∧ ef.touch = [hh] := by
  unfold loadI at h
  repeat' (split at h)
  all_goals try (simp at h; done)
  simp only [Option.some.injEq] at h
  subst h
  exact ⟨rfl, rfl⟩
theorem loadK_loc (t : Nat) (x : SV) (h : loadK ty t x look some = some ef) (S : Same look look' seen seen' ef) : loadK ty t x look' some = some ef := by
  have q := S.look
  unfold loadK at h ⊢
  repeat' (split at h)
  all_goals try (simp at h; done)
  all_goals try
    (obtain ⟨e1, e2⟩ := loadI_eff h
     rw [e1, e2] at q
     simp only [List.append_nil, List.map_nil, List.mem_cons, List.not_mem_nil, or_false, forall_eq] at q
     simp only [*]
     done)
  all_goals
    simp only [Option.some.injEq] at h
    subst h
    simp only [List.cons_append, List.nil_append, List.append_nil, List.map_nil, List.map_cons, List.mem_cons, List.not_mem_nil, or_false, forall_eq, forall_eq_or_imp] at q
    first
      | (simp only [*, ↓reduceIte]; done)
      | simp_all
theorem loadK_eff {t h i : Nat} (hl : loadK ty t (.ptr h i) look some = some ef) : h ∈ ef.touch := by
  unfold loadK at hl
  repeat' (split at hl)
  all_goals try (simp at hl; done)
  all_goals
    simp_all
    try (subst hl; simp_all)
theorem loadT_loc (t d : Nat) (x : SV) (h : loadT ty t x look seen d some = some ef) (S : Same look look' seen seen' ef) : loadT ty t x look' seen' d some = some ef := by
  unfold loadT at h ⊢
  have same : ∀ hh i, x = .ptr hh i → look' hh = look hh → tabAt look' x = tabAt look x := by
    intro hh i e q
    subst e
    simp only [tabAt, q]
  split at h
  · rename_i hh i ro ll hx
    have hxx : ∃ i', x = .ptr hh i' := by
      unfold tabAt at hx
      split at hx
      · split at hx
        · simp only [Option.some.injEq, Prod.mk.injEq] at hx
          exact ⟨_, by rw [hx.1]⟩
        · simp at hx
      · simp at hx
    obtain ⟨i', rfl⟩ := hxx
    have q := S.look
    have q2 := S.seen
    unfold loadR at h ⊢
    split at h
    · rename_i ku hku hseen
      split at h
      · rename_i hi
        split at h
        · simp only [Option.some.injEq] at h
          subst h
          have e1 := same hh i' rfl (q hh (by simp))
          rw [e1, hx]
          have e2 := q2 (nm d 0) (by simp)
          simp only [hku, e2, hseen, hi, if_true]
        · simp only [Option.some.injEq] at h
          subst h
          have e1 := same hh i' rfl (q hh (by simp))
          rw [e1, hx]
          have e2 := q2 (nm d 0) (by simp)
          simp only [hku, e2, hseen, hi, if_true]
      · simp at h
    · simp at h
  · rename_i hx
    have hx' : tabAt look' x = none := by
      cases x
      case ptr hh i =>
        rw [same hh i rfl (S.look hh (List.mem_append_left _ (loadK_eff h)))]
        exact hx
      all_goals rfl
    rw [hx']
    exact loadK_loc t x h S
theorem appendT_loc (t d : Nat) (s y : SV) (h : appendT ty t look seen d s y some = some ef) (S : Same look look' seen seen' ef) : appendT ty t look' seen' d s y some = some ef := by
  have q := S.look
  have q2 := S.seen
  unfold appendT at h ⊢
  split at h
  · rename_i ku hh h2 hk
    split at h
    · rename_i ll ro2 h3 ho ho2 hs
      split at h
      · rename_i l ho3
        split at h
        · rename_i hl
          simp only [Option.some.injEq] at h
          subst h
          simp only [List.cons_append, List.nil_append, List.append_nil, List.map_nil, List.map_cons, List.mem_cons, List.not_mem_nil, or_false, forall_eq, forall_eq_or_imp] at q q2
          obtain ⟨a1, a2, a3, _⟩ := q
          simp only [hk, a1, a2, a3, q2.2.2, ho, ho2, hs, ho3, hl, if_true]
        · simp at h
      · simp at h
    · simp at h
  · simp at h
theorem storeI_eff {n hh i j : Nat} {e : EK} {l : List e.den} {v : SV} (h : storeI n hh i j e l v some = some ef) : ∃ x, ef.wr = [(hh, x)] ∧ ef.touch = [hh] := by
  unfold storeI at h
  repeat' (split at h)
  all_goals try (simp at h; done)
  simp only [Option.some.injEq] at h
  subst h
  exact ⟨_, rfl, rfl⟩
theorem storeK_loc (t : Nat) (x v : SV) (h : storeK ty t x v look some = some ef) (S : Same look look' seen seen' ef) : storeK ty t x v look' some = some ef := by
  have q := S.look
  unfold storeK at h ⊢
  repeat' (split at h)
  all_goals try (simp at h; done)
  all_goals try
    (obtain ⟨x, e1, e2⟩ := storeI_eff h
     rw [e1, e2] at q
     simp only [List.cons_append, List.nil_append, List.map_nil, List.map_cons, List.mem_cons, List.not_mem_nil, or_false, forall_eq, forall_eq_or_imp] at q
     simp only [*]
     done)
  all_goals
    simp only [Option.some.injEq] at h
    subst h
    simp only [List.cons_append, List.nil_append, List.append_nil, List.map_nil, List.map_cons, List.mem_cons, List.not_mem_nil, or_false, forall_eq, forall_eq_or_imp] at q
    first
      | (simp only [*, ↓reduceIte]; done)
      | simp_all
theorem sliceO_loc (t : Nat) (x : SV) (lo hi mx : Option SV) (h : sliceO ty t x lo hi mx look some = some ef) (S : Same look look' seen seen' ef) : sliceO ty t x lo hi mx look' some = some ef := by
  have q := S.look
  unfold sliceO at h ⊢
  repeat' (split at h)
  all_goals try (simp at h; done)
  all_goals
    simp only [Option.some.injEq] at h
    subst h
    simp only [List.cons_append, List.nil_append, List.append_nil, List.map_nil, List.map_cons, List.mem_cons, List.not_mem_nil, or_false, forall_eq, forall_eq_or_imp] at q
    first
      | (simp only [*, ↓reduceIte]; done)
      | simp_all
theorem sliceM_loc (t : Nat) (x : SV) (lo hi mx : Option SV) (h : sliceM ty t x lo hi mx look some = some ef) (S : Same look look' seen seen' ef) : sliceM ty t x lo hi mx look' some = some ef := by
  have q := S.look
  unfold sliceM at h ⊢
  repeat' (split at h)
  all_goals try (simp at h; done)
  all_goals
    simp only [Option.some.injEq] at h
    subst h
    simp only [List.cons_append, List.nil_append, List.append_nil, List.map_nil, List.map_cons, List.mem_cons, List.not_mem_nil, or_false, forall_eq, forall_eq_or_imp] at q
    first
      | (simp only [*, ↓reduceIte]; done)
      | simp_all
theorem sliceB_loc (t : Nat) (x : SV) (lo hi : Option SV) (h : sliceB ty t x lo hi look some = some ef) (S : Same look look' seen seen' ef) : sliceB ty t x lo hi look' some = some ef := by
  have q := S.look
  unfold sliceB at h ⊢
  repeat' (split at h)
  all_goals try (simp at h; done)
  all_goals
    simp only [Option.some.injEq] at h
    subst h
    simp only [List.cons_append, List.nil_append, List.append_nil, List.map_nil, List.map_cons, List.mem_cons, List.not_mem_nil, or_false, forall_eq, forall_eq_or_imp] at q
    first
      | (simp only [*, ↓reduceIte]; done)
      | simp_all
theorem sliceK_loc (t : Nat) (x : SV) (lo hi mx : Option SV) (h : sliceK ty t x lo hi mx look some = some ef) (S : Same look look' seen seen' ef) : sliceK ty t x lo hi mx look' some = some ef := by
  unfold sliceK at h ⊢
  split at h
  · exact sliceM_loc t x _ _ _ h S
  · split at h
    · exact sliceB_loc t x _ _ h S
    · exact sliceO_loc t x _ _ _ h S
theorem indexAddrK_loc (t : Nat) (x ix : SV) (h : indexAddrK ty t x ix look some = some ef) (S : Same look look' seen seen' ef) : indexAddrK ty t x ix look' some = some ef := by
  have q := S.look
  unfold indexAddrK at h ⊢
  repeat' (split at h)
  all_goals try (simp at h; done)
  all_goals
    simp only [Option.some.injEq] at h
    subst h
    simp only [List.cons_append, List.nil_append, List.append_nil, List.map_nil, List.map_cons, List.mem_cons, List.not_mem_nil, or_false, forall_eq, forall_eq_or_imp] at q
    first
      | (simp only [*, ↓reduceIte]; done)
      | simp_all
theorem appendO_loc (k : EK) (d : Nat) (s y : SV) (h : appendO k look seen d s y some = some ef) (S : Same look look' seen seen' ef) : appendO k look' seen' d s y some = some ef := by
  have q := S.look
  have q2 := S.seen
  unfold appendO at h ⊢
  repeat' (split at h)
  all_goals try (simp at h; done)
  all_goals
    simp only [Option.some.injEq] at h
    subst h
    simp only [List.cons_append, List.nil_append, List.append_nil, List.map_nil, List.map_cons, List.mem_cons, List.not_mem_nil, or_false, forall_eq, forall_eq_or_imp] at q
    first
      | (simp only [*, ↓reduceIte]; done)
      | simp_all
theorem appendS_loc (k : EK) (hh i j : Nat) (h : appendS k look hh i j some = some ef) (S : Same look look' seen seen' ef) : appendS k look' hh i j some = some ef := by
  have q := S.look
  have q2 := S.seen
  unfold appendS at h ⊢
  repeat' (split at h)
  all_goals try (simp at h; done)
  all_goals
    simp only [Option.some.injEq] at h
    subst h
    simp only [List.cons_append, List.nil_append, List.append_nil, List.map_nil, List.map_cons, List.mem_cons, List.not_mem_nil, or_false, forall_eq, forall_eq_or_imp] at q
    first
      | (simp only [*, ↓reduceIte]; done)
      | simp_all
theorem appendK_loc (k : EK) (d : Nat) (s y : SV) (h : appendK k look seen d s y some = some ef) (S : Same look look' seen seen' ef) : appendK k look' seen' d s y some = some ef := by
  unfold appendK at h ⊢
  split at h
  · exact appendS_loc k _ _ _ h S
  · exact appendO_loc k d s y h S
theorem lenOf_loc {x : SV} {n : Nat} (h : lenOf look x = some n) (q : ∀ h, h ∈ hOf x → look' h = look h) : lenOf look' x = some n := by
  cases x <;> simp only [lenOf, hOf] at * <;> simp_all
theorem convK_loc (s t : Nat) (x : SV) (d : Nat) (h : convK ty s t x look seen d some = some ef) (S : Same look look' seen seen' ef) : convK ty s t x look' seen' d some = some ef := by
  have q := S.look
  have q2 := S.seen
  unfold convK convB at h ⊢
  repeat' (split at h)
  all_goals try (simp at h; done)
  all_goals
    simp only [Option.some.injEq] at h
    subst h
    simp only [List.cons_append, List.nil_append, List.append_nil, List.map_nil, List.map_cons, List.mem_cons, List.not_mem_nil, or_false, forall_eq, forall_eq_or_imp] at q
    first
      | (simp only [*, ↓reduceIte]; done)
      | simp_all
theorem clearK_loc (t : Nat) (x : SV) (h : clearK ty t x look some = some ef) (S : Same look look' seen seen' ef) : clearK ty t x look' some = some ef := by
  have q := S.look
  unfold clearK at h ⊢
  repeat' (split at h)
  all_goals try (simp at h; done)
  all_goals
    simp only [Option.some.injEq] at h
    subst h
    simp only [List.cons_append, List.nil_append, List.append_nil, List.map_nil, List.map_cons, List.mem_cons, List.not_mem_nil, or_false, forall_eq, forall_eq_or_imp] at q
    first
      | (simp only [*, ↓reduceIte]; done)
      | simp_all
theorem madeK_loc (e u : Nat) (s y : SV) (d : Nat) (h : madeK ty e u s y seen d some = some ef) (S : Same look look' seen seen' ef) : madeK ty e u s y seen' d some = some ef := by
  have q2 := S.seen
  unfold madeK at h ⊢
  repeat' (split at h)
  all_goals try (simp at h; done)
  all_goals
    simp only [Option.some.injEq] at h
    subst h
    simp only [List.cons_append, List.nil_append, List.append_nil, List.map_nil, List.map_cons, List.mem_cons, List.not_mem_nil, or_false, forall_eq, forall_eq_or_imp] at q2
    first
      | (simp only [*, ↓reduceIte]; done)
      | simp_all
theorem lookupK_loc (t : Nat) (x i : SV) (c : Bool) (h : lookupK ty t x i c look some = some ef) (S : Same look look' seen seen' ef) : lookupK ty t x i c look' some = some ef := by
  have q := S.look
  unfold lookupK at h ⊢
  repeat' (split at h)
  all_goals try (simp at h; done)
  all_goals
    simp only [Option.some.injEq] at h
    subst h
    simp only [List.cons_append, List.nil_append, List.append_nil, List.map_nil, List.map_cons, List.mem_cons, List.not_mem_nil, or_false, forall_eq, forall_eq_or_imp] at q
    first
      | (simp only [*, ↓reduceIte]; done)
      | simp_all
theorem mapUpdateK_loc (t : Nat) (x i v : SV) (h : mapUpdateK ty t x i v look some = some ef) (S : Same look look' seen seen' ef) : mapUpdateK ty t x i v look' some = some ef := by
  have q := S.look
  unfold mapUpdateK at h ⊢
  repeat' (split at h)
  all_goals try (simp at h; done)
  all_goals
    simp only [Option.some.injEq] at h
    subst h
    simp only [List.cons_append, List.nil_append, List.append_nil, List.map_nil, List.map_cons, List.mem_cons, List.not_mem_nil, or_false, forall_eq, forall_eq_or_imp] at q
    first
      | (simp only [*, ↓reduceIte]; done)
      | simp_all
theorem builtinK_loc (b : Builtin) (ats : List Nat) (args : List SV) (d : Nat) (h : builtinK ty b ats args look seen d some = some ef) (S : Same look look' seen seen' ef) :
    builtinK ty b ats args look' seen' d some = some ef := by
  unfold builtinK at h ⊢
  split at h
  · split at h
    · exact h
    · split at h
      · rename_i n hn
        simp only [Option.some.injEq] at h
        subst h
        have := lenOf_loc (look' := look') hn fun h hh => S.look h (by simpa using hh)
        simp only [this, *]
      · simp at h
    · simp_all
    · simp at h
  · split at h
    · split at h
      · try simp only [*]
        exact appendK_loc _ _ _ _ h S
      · split at h
        · rename_i e1 _ _ _
          try simp only [*]
          exact appendT_loc _ _ _ _ h S
        · simp at h
    · try simp only [*]
      exact madeK_loc _ _ _ _ _ h S
    · simp at h
  · split at h
    · exact h
    · simp at h
  · exact h
  · exact h
  · exact clearK_loc _ _ h S
  · simp at h

structure PFn.Local (F : PFn) : Prop where
  loc : ∀ (args : List SV) (look look' : Nat → Option AO) (seen seen' : Nat → Bool) (d : Nat) (ef : Eff), F.run args look seen d some = some ef → Same look look' seen seen' ef → F.run args look' seen' d some = some ef

theorem opK_loc {Φ : Nat → PFn} (hΦ : ∀ g, (Φ g).Local) {e e' : Operand → SV} {d : Nat} {op : Op} (he : ∀ x ∈ op.operands, e' x = e x)
    (h : opK ty Φ e look seen d op some = some ef) (S : Same look look' seen seen' ef) : opK ty Φ e' look' seen' d op some = some ef := by
  have pairs : ∀ ps : Array (Nat × Operand), (∀ x ∈ ps.map (·.2), e' x = e x) → (ps.toList.map fun p => (p.1, e' p.2)) = (ps.toList.map fun p => (p.1, e p.2)) := fun ps hp =>
    List.map_congr_left fun p hm => by
      obtain ⟨i, x⟩ := p
      simp only [hp x (Array.mem_map.2 ⟨(i, x), by simpa using hm, rfl⟩)]
  have q := S.look
  have q2 := S.seen
  cases op <;> simp only [Op.operands] at he <;> simp only [opK] at h ⊢
  case load t a =>
    rw [he a (by simp)]
    exact loadT_loc t d _ h S
  case store t a v =>
    rw [he a (by simp), he v (by simp)]
    exact storeK_loc t _ _ h S
  case slice t x lo hi mx =>
    have e1 : e' x = e x := he x (by simp)
    have e2 : lo.map e' = lo.map e := by cases lo <;> simp_all
    have e3 : hi.map e' = hi.map e := by cases hi <;> simp_all
    have e4 : mx.map e' = mx.map e := by cases mx <;> simp_all
    rw [e1, e2, e3, e4]
    exact sliceK_loc t _ _ _ _ h S
  case indexAddr t x i =>
    rw [he x (by simp), he i (by simp)]
    exact indexAddrK_loc t _ _ h S
  case convert s t x =>
    rw [he x (by simp)]
    exact convK_loc s t _ _ h S
  case lookup t x i c =>
    rw [he x (by simp), he i (by simp)]
    exact lookupK_loc t _ _ _ h S
  case mapUpdate t x i v =>
    rw [he x (by simp), he i (by simp), he v (by simp)]
    exact mapUpdateK_loc t _ _ _ h S
  case build t ps =>
    rw [pairs ps (by simpa using he)]
    exact h
  case buildSlice t n ps =>
    rw [pairs ps (by simpa using he)]
    repeat' (split at h)
    all_goals try (simp at h; done)
    all_goals
      simp only [Option.some.injEq] at h
      subst h
      simp only [List.cons_append, List.nil_append, List.append_nil, List.map_nil, List.map_cons, List.mem_cons, List.not_mem_nil, or_false, forall_eq, forall_eq_or_imp] at q q2
      first
        | (simp only [*, ↓reduceIte]; done)
        | simp_all
  case call c =>
    have ea : c.args.toList.map e' = c.args.toList.map e := List.map_congr_left fun x hx => he x (by simp [Call.operands]; simp_all)
    rw [ea]
    split at h
    · try simp only [*]
      exact builtinK_loc _ _ _ _ h S
    · rename_i f hf
      have ef : e' f = e f := he f (by simp [Call.operands, hf])
      simp only [hf, ef]
      split at h
      · try simp only [*]
        exact (hΦ _).loc _ _ _ _ _ _ _ h S
      · simp at h
    · simp at h
  case makeFunc fn first caps =>
    have ea : caps.toList.map e' = caps.toList.map e := List.map_congr_left fun x hx => he x (by simpa using Or.inr hx)
    cases fn <;> simp only [ea] at h ⊢ <;> exact h
  case binOp o t x y z =>
    rw [he x (by simp), he y (by simp)]
    exact h
  case unOp o t x =>
    rw [he x (by simp)]
    exact h
  case field t x f =>
    rw [he x (by simp)]
    exact h
  case index t x i =>
    rw [he x (by simp), he i (by simp)]
    exact h
  case alloc t =>
    repeat' (split at h)
    all_goals try (simp at h; done)
    all_goals
      simp only [Option.some.injEq] at h
      subst h
      simp only [List.cons_append, List.nil_append, List.append_nil, List.map_nil, List.map_cons, List.mem_cons, List.not_mem_nil, or_false, forall_eq, forall_eq_or_imp] at q q2
      first
        | (simp only [*, ↓reduceIte]; done)
        | simp_all
  case box t x =>
    rw [he x (by simp)]
    repeat' (split at h)
    all_goals try (simp at h; done)
    all_goals
      simp only [Option.some.injEq] at h
      subst h
      simp only [List.cons_append, List.nil_append, List.append_nil, List.map_nil, List.map_cons, List.mem_cons, List.not_mem_nil, or_false, forall_eq, forall_eq_or_imp] at q q2
      first
        | (simp only [*, ↓reduceIte]; done)
        | simp_all
  all_goals
    (repeat' (split at h))
    all_goals try (simp at h; done)
    all_goals
      try simp only [Option.some.injEq] at h
      try subst h
      try simp only [List.cons_append, List.nil_append, List.append_nil, List.map_nil, List.map_cons, List.mem_cons, List.not_mem_nil, or_false, forall_eq, forall_eq_or_imp] at q q2
      first
        | (simp only [*, ↓reduceIte]; done)
        | simp_all
end
end Go.Fx
end
