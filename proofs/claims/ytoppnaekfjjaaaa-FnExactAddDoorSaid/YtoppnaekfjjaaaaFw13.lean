/- The reflective executor, part 13: every operation but calls of functions. -/
import Derived.Test.YtoppnaekfjjaaaaFw12
set_option linter.unusedVariables false
set_option linter.unusedSimpArgs false
set_option autoImplicit false
namespace Go.Fx
open Go
section
variable {P : Program} {w0 : World} {W0 : Nat → Prop} {objs : Nat → Option AO} {φ : Nat → Option (Nat × Nat)} {seen : Nat → Bool} {w : World} {ty : Ty}

/-- A name without memory. -/
theorem Heap.void (H : Heap w0 W0 (G objs φ seen w) w) (m : Nat) (hs : seen m = false) (e : EK) :
    Heap w0 W0 (G (upd objs m (some ⟨false, .row e []⟩)) (upd φ m none) (upd seen m true) w) w ∧ (G objs φ seen w).le (G (upd objs m (some ⟨false, .row e []⟩)) (upd φ m none) (upd seen m true) w) := by
  have hle2 : (G objs φ seen w).le (G (upd objs m (some ⟨false, .row e []⟩)) (upd φ m none) (upd seen m true) w) := by
    refine le_of (fun x hx => ?_) (fun x hx => ?_)
    · show upd seen m true x = true
      rw [upd_eq]; split
      · rfl
      · exact hx
    · have hxn : x ≠ m := fun q => by
        have hx' : seen x = true := hx
        rw [q, hs] at hx'; cases hx'
      show upd objs m _ x = none ∨ _
      rw [upd_ne _ _ hxn]
      cases hx' : objs x with
      | none => exact .inl rfl
      | some y => exact .inr ⟨y, y, hx', by show upd objs m _ x = some y; rw [upd_ne _ _ hxn]; exact hx', AO.like.refl y, by show upd φ _ _ x = φ x; rw [upd_ne _ _ hxn], fun _ _ _ => rfl⟩
  refine ⟨H.step m ⟨false, .row e []⟩ none hle2 rfl rfl rfl (Nat.le_refl _) (fun _ _ _ => rfl) (fun b hb => by cases hb) (fun b hb => by cases hb) (fun _ => rfl)
    (fun x y hxn hy => by
      have hy' : upd objs m (some ⟨false, .row e []⟩) x = some y := hy
      rw [upd_ne _ _ hxn] at hy'
      exact ⟨hy', by show upd φ _ _ x = φ x; rw [upd_ne _ _ hxn], fun b o _ q => by cases q⟩)
    (upd_same _ _ _) (upd_same _ _ _) (.inl ⟨upd_same _ _ _, rfl⟩) (fun b o hb => by
      have hb' : upd φ m none m = some (b, o) := hb
      rw [upd_same] at hb'; cases hb'), hle2⟩

theorem void_rep (m : Nat) (e : EK) {A : Option Addr} : (SV.sl m .all).rep (G (upd objs m (some ⟨false, .row e []⟩)) (upd φ m none) (upd seen m true) w) (.slice A 0 0) := by
  refine ⟨upd_same _ _ _, ⟨_, _, _, rfl⟩, ?_⟩
  simp only [Ctx.slOk, upd_same]
  exact ⟨trivial, A, 0, rfl, ⟨Nat.le_refl _, Nat.zero_le _⟩, Nat.zero_le _, .inl rfl⟩

theorem appendO_does (hT : TyOk P ty) (H : Heap w0 W0 (G objs φ seen w) w) {t u d rt : Nat} {k : EK} {s y : SV} {a b : Value} {e : Eff} (hk : (ty t).kind = .slice u) (hek : (ty u).ek = some k)
    (h : appendO k objs seen d s y some = some e) (rs : s.rep (G objs φ seen w) a) (ry : y.rep (G objs φ seen w) b) :
    Does P w0 W0 objs φ seen w e (do pure (.value (← Builtin.append_ #[t, t] rt #[a, b])) : Sem Next) := by
  unfold appendO at h
  split at h
  · rename_i hh w1 h2 w2
    split at h
    · rename_i e1 l1 ro e2 l2 ho ho2 hseen
      split at h
      · rename_i he
        subst he
        split at h
        · rename_i he2
          subst he2
          split at h
          · rename_i hlen
            simp only [Option.some.injEq] at h
            subst h
            obtain ⟨hs1, ⟨A, n, cap, rfl⟩, hsl⟩ := rs
            obtain ⟨hs2, ⟨B, m, c2, rfl⟩, hsl2⟩ := ry
            obtain ⟨hm, _, _, hrd, hnil, _⟩ := sl_reads H ho2 hsl2
            exact append_main hT H hk hek ho hsl hseen hs1 hm hrd hnil hlen _
          · simp at h
        · simp at h
      · simp at h
    · simp at h
  · rename_i h2 w2
    split at h
    · rename_i ro e2 l2 ho2 hseen
      split at h
      · rename_i he2
        subst he2
        split at h
        · rename_i hlen
          simp only [Option.some.injEq] at h
          subst h
          simp only [SV.rep] at rs
          subst rs
          obtain ⟨hs2, ⟨B, m, c2, rfl⟩, hsl2⟩ := ry
          obtain ⟨hm, hmc, _, hrd, hnil, _⟩ := sl_reads H ho2 hsl2
          have hu := ty_ek hT hek
          have hsz := ek_size hu hek
          obtain ⟨dd, i, z, _, hi, _, hisz, _, hz, _, _, h9⟩ := hu.ok
          obtain ⟨_, _, hbytes, hzero⟩ := h9 e2 hek
          have hzc := zeroOk_cv1 (enc_lits e2 _) hzero
          have hzs : z.cells.size = e2.sz := by rw [← Array.length_toList, hzc, enc_length]
          have his : i.size = e2.sz := by rw [hisz, hsz]
          have ht := ty_slice hT hk
          have hlen : (w2.view l2).length ≤ 4398046511104 := hlen
          have hln : (encAll e2 (w2.view l2)).length = m * i.size := by rw [encAll_length, his, hm]
          by_cases hm0 : m = 0
          · subst hm0
            have hv0 : w2.view l2 = [] := List.eq_nil_of_length_eq_zero hm.symm
            have hrun := append_room (P := P) (w := w) (rt := rt) (c2 := c2) (w' := w) (A := none) (n := 0) (cap := 0) ht hi hln hrd (fun q => by rw [hnil q]; rfl) (by omega) (fun a ha => by cases ha) (fun _ => rfl)
            obtain ⟨q1, q2⟩ := H.void (nm d 0) hseen e2
            refine ⟨_, _, w, upd φ (nm d 0) none, by rw [Sem.run_bind, hrun]; rfl, .inl rfl, ?_, ?_, ?_⟩
            all_goals
              simp only [Af, wrObjs, wrSeen]
              rw [show w2.view (castRow rfl l2) = [] from hv0]
            · exact void_rep _ _
            · exact q1
            · exact q2
          · have hrun := append_grow (P := P) (w := w) (rt := rt) (c2 := c2) (A := none) (n := 0) (cap := 0) (olds := []) ht hi hz (by simp) (fun _ q => by cases q) (fun _ => rfl) hln hrd (fun q => by rw [hnil q]; rfl) (by omega) (by omega) (.inr (by
              have := Nat.mul_le_mul (show 0 + m ≤ 4398046511104 by omega) hbytes
              omega))
            have hge := grownCap_ge w (0 + m) 0 u
            have hcap := grownCap_le_maxLen w (0 + m) 0 u (by unfold maxLen; omega)
            generalize grownCap w (0 + m) 0 u = gc at hrun hge hcap
            have Hd : Heap w0 W0 (G objs φ seen w.drew) w.drew := H.drew
            have hled : (G objs φ seen w).le (G objs φ seen w.drew) := ⟨fun _ q => q, fun _ _ _ _ q => q, fun _ _ _ _ q => q, fun _ _ _ _ _ q => q⟩
            have hsize : ((([] : List Value)).toArray ++ (encAll e2 (w2.view l2)).toArray ++ Builtin.zeroCells z.cells (gc - (0 + m))).size = gc * e2.sz := by
              simp only [Array.size_append, List.size_toArray, size_zeroCells, hzs, hln, his, List.length_nil, Nat.zero_add, ← Nat.add_mul]
              congr 1
              omega
            obtain ⟨q1, q2, q3⟩ := row_new Hd (m := nm d 0) (n := 0 + m) (cap := gc) (T := u) (e := e2) (l := w2.view l2)
              (cur := ([] : List Value).toArray ++ (encAll e2 (w2.view l2)).toArray ++ Builtin.zeroCells z.cells (gc - (0 + m))) hseen (by omega) hge hcap (by rw [hsize]; exact Nat.le_refl _)
              (fun k v hv => by
                have hk2 := (List.getElem?_eq_some_iff.1 hv).1
                rw [Array.getElem?_append_left (by simpa using hk2)]
                simpa using hv)
            exact ⟨_, _, _, _, by rw [Sem.run_bind, hrun]; rfl, .inl rfl, q1, q2, hled.trans q3⟩
        · simp at h
      · simp at h
    · simp at h
  · rename_i hh w1
    split at h
    · rename_i e1 l1 ho
      simp only [Option.some.injEq] at h
      subst h
      have rs' := rs
      obtain ⟨hs1, ⟨A, n, cap, rfl⟩, hsl⟩ := rs
      simp only [SV.rep] at ry
      subst ry
      obtain ⟨hn, hnc, _⟩ := sl_reads H ho hsl
      obtain ⟨dd, i, z, _, hi, _⟩ := (ty_ek hT hek).ok
      have hrun := append_room (P := P) (w := w) (rt := rt) (c2 := 0) (w' := w) (A := A) (n := n) (cap := cap) (B := none) (m := 0) (news := []) (ty_slice hT hk) hi (by simp) (fun _ q => by cases q) (fun _ => rfl) (by omega) (fun a ha => rfl) (fun _ => rfl)
      exact does_pure H (by rw [Sem.run_bind, hrun]; rfl) rfl rs'
    · simp at h
  · simp at h

theorem lenOf_ok {x : SV} {a : Value} {n : Nat} (h : lenOf objs x = some n) (r : x.rep (G objs φ seen w) a) : ∃ A c, a = .slice A n c := by
  unfold lenOf at h
  split at h
  · split at h
    · rename_i ro e l ho
      simp only [Option.some.injEq] at h
      subst h
      obtain ⟨_, _, hp⟩ := r
      simp only [Ctx.slOk, ho] at hp
      obtain ⟨_, A, cap, rfl, _⟩ := hp
      exact ⟨A, cap, by rw [view_length]⟩
    · simp at h
  · simp only [Option.some.injEq] at h
    subst h
    simp only [SV.rep] at r
    exact ⟨none, 0, r⟩
  · simp at h

/-- A row, a window of which is cleared. -/
theorem clrL_eq (e : EK) (l : List e.den) (w : Win) (h : w.ok l.length) : clrL e l w = l.take w.off ++ List.replicate (w.len l.length) e.dflt ++ l.drop (w.off + w.len l.length) := by
  cases w with
  | all => simp [clrL, Win.off, Win.len]
  | drop i =>
    have hi : i ≤ l.length := h
    have : l.drop (i + (l.length - i)) = [] := List.drop_eq_nil_of_le (by omega)
    simp [clrL, Win.off, Win.len, this]
  | take k => simp [clrL, Win.off, Win.len]
  | sub i k => simp [clrL, Win.off, Win.len]
theorem zeroCells_enc {e : EK} {zc : Array Value} (hzc : zc.toList = e.enc e.dflt) (n : Nat) : (Builtin.zeroCells zc n).toList = encAll e (List.replicate n e.dflt) := by
  have hzs : zc.size = e.sz := by rw [← Array.length_toList, hzc, enc_length]
  apply List.ext_getElem?
  intro k
  have hl : (encAll e (List.replicate n e.dflt)).length = n * e.sz := by rw [encAll_length]; simp
  by_cases hk : k < n * e.sz
  · have hv : (encAll e (List.replicate n e.dflt))[k]? = some ((encAll e (List.replicate n e.dflt))[k]'(by omega)) := List.getElem?_eq_getElem (by omega)
    obtain ⟨_, h2⟩ := replicate_get hv
    rw [hv]
    have hmod := Nat.mod_lt k (sz_pos e)
    simp only [Builtin.zeroCells, Array.getElem?_toList, Array.getElem?_map, hzs]
    rw [Array.getElem?_eq_getElem (by simpa using hk)]
    simp only [Array.getElem_range, Option.map_some]
    rw [getElem!_pos zc (k % e.sz) (by rw [hzs]; exact hmod)]
    rw [← hzc, Array.getElem?_toList, Array.getElem?_eq_getElem (by rw [hzs]; exact hmod)] at h2
    exact h2
  · have hl2 : (Builtin.zeroCells zc n).toList.length = n * e.sz := by rw [Array.length_toList, size_zeroCells, hzs]
    rw [List.getElem?_eq_none (by omega : (encAll e (List.replicate n e.dflt)).length ≤ k), List.getElem?_eq_none (by omega : (Builtin.zeroCells zc n).toList.length ≤ k)]
theorem clear_does (hT : TyOk P ty) (H : Heap w0 W0 (G objs φ seen w) w) {t rt : Nat} {x : SV} {v : Value} {e : Eff} (h : clearK ty t x objs some = some e) (r : x.rep (G objs φ seen w) v) :
    Does P w0 W0 objs φ seen w e (do pure (.value (← Builtin.clear_ #[t] rt #[v])) : Sem Next) := by
  unfold clearK at h
  split at h
  · rename_i u hh win hk
    split at h
    · rename_i e1 l k ho hek
      split at h
      · rename_i hek2
        subst hek2
        simp only [Option.some.injEq] at h
        subst h
        have hu := ty_ek hT hek
        have hsz := ek_size hu hek
        obtain ⟨dd, i, z, _, hi, _, hisz, _, hz, _, _, h9⟩ := hu.ok
        obtain ⟨_, _, hbytes, hzero⟩ := h9 e1 hek
        have hzc := zeroOk_cv1 (enc_lits e1 _) hzero
        have ht := ty_slice hT hk
        obtain ⟨r1, ⟨A, n, cap, rfl⟩, r3⟩ := r
        have hok : win.ok l.length := by
          simp only [Ctx.slOk, ho] at r3
          exact r3.1
        obtain ⟨hn, hnc, hcm, hread, hnil, hloc⟩ := sl_reads H ho r3
        have hsl : l.take win.off ++ List.replicate (win.len l.length) e1.dflt ++ l.drop (win.off + win.len l.length) = clrL e1 l win := (clrL_eq e1 l win hok).symm
        have hle := len_le win l.length hok
        rw [view_length] at hn
        by_cases h0 : n = 0
        · -- nothing to clear
          have hsame : clrL e1 l win = l := by
            rw [clrL_eq e1 l win hok, ← hn, h0]
            simp
          rw [hsame]
          have eo : upd objs hh (some ⟨false, .row e1 l⟩) = objs := by
            funext y
            by_cases e : y = hh
            · subst e; rw [upd_same, ho]
            · rw [upd_ne _ _ e]
          have es : upd seen hh true = seen := by
            funext y
            by_cases e : y = hh
            · subst e; rw [upd_same]; exact (H.sn y _ ho).symm
            · rw [upd_ne _ _ e]
          refine ⟨_, .tuple #[], w, φ, ?_, .inl rfl, ⟨[], rfl, rfl⟩, ?_, ?_⟩
          · rw [h0]
            cases A <;> simp [Builtin.clear_, run_underlying ht]
          · simp only [Af, wrObjs, wrSeen, eo, es]; exact H
          · simp only [Af, wrObjs, wrSeen, eo, es]; exact Ctx.le.refl _
        · obtain ⟨b, o, hφ, rfl, hbnd⟩ := hloc.resolve_left (by omega)
          rcases H.obj hh _ ho with ⟨hnn, _⟩ | ⟨b', o', hp', hcell, hw⟩
          · simp [hφ] at hnn
          · have hp2 : φ hh = some (b', o') := hp'
            rw [hφ] at hp2
            simp only [Option.some.injEq, Prod.mk.injEq] at hp2
            obtain ⟨rfl, rfl⟩ := hp2
            obtain ⟨cur, T, hcur, hcsz⟩ := hw rfl
            have hus : (Builtin.zeroCells z.cells n).toList = encAll e1 (List.replicate (win.len l.length) e1.dflt) := by
              rw [zeroCells_enc hzc, hn]
            have hul : (encAll e1 (List.replicate (win.len l.length) e1.dflt)).length = win.len l.length * e1.sz := by rw [encAll_length]; simp
            have hmul : (win.off + win.len l.length) * e1.sz ≤ l.length * e1.sz := Nat.mul_le_mul_right _ hle
            rw [Nat.add_mul] at hmul
            have hfit : o + win.off * e1.sz + (encAll e1 (List.replicate (win.len l.length) e1.dflt)).length ≤ cur.size := by omega
            have hst := storeCells_ok (P := P) (o := o + win.off * e1.sz) hcur (encAll e1 (List.replicate (win.len l.length) e1.dflt)) hfit (encAll_one e1 _)
            have hclen : (clrL e1 l win).length = l.length := by rw [← hsl]; simp; omega
            obtain ⟨q1, q2⟩ := H.write ho rfl hφ (like_row false e1 l (clrL e1 l win) hclen.symm) hcur (cur' := (cur.toList.take (o + win.off * e1.sz) ++ encAll e1 (List.replicate (win.len l.length) e1.dflt) ++ cur.toList.drop (o + win.off * e1.sz + (encAll e1 (List.replicate (win.len l.length) e1.dflt)).length)).toArray) (by simp; omega) (fun Γ' hle hp' => .inr ⟨b, o, hp', (fun m v hv => by
                rw [cell_setRow_same w b (o + m) cur _ T (0, 0) hcur]
                rw [List.getElem?_toArray, splice_get _ _ _ _ (by simpa using hfit)]
                rw [← hsl, encAll_append, encAll_append, encAll_take, encAll_drop] at hv
                have e3 : (win.off + win.len l.length) * e1.sz = win.off * e1.sz + (encAll e1 (List.replicate (win.len l.length) e1.dflt)).length := by rw [hul, Nat.add_mul]
                rw [e3, splice_get _ _ _ _ (by rw [hul, encAll_length]; omega)] at hv
                split at hv
                · rename_i hr
                  rw [if_pos ⟨by omega, by omega⟩, ← hv]
                  congr 1
                  omega
                · rename_i hr
                  rw [if_neg (by omega)]
                  have := hcell m v hv
                  simpa [World.cell?, hcur] using this), fun _ => ⟨_, T, setRow_heap w b cur _ T (0, 0) hcur, by rw [hclen]; simp; omega⟩⟩)
            refine ⟨_, .tuple #[], _, φ, ?_, .inl rfl, ⟨[], rfl, rfl⟩, q1, q2⟩
            have hzv : ∀ w', (zeroValue u).run P w' = .ok z w' := by
              intro w'
              simp [zeroValue, typeInfo, hi, hz]
            obtain ⟨m, rfl⟩ : ∃ m, n = m + 1 := ⟨n - 1, by omega⟩
            simp only [Builtin.clear_, Sem.run_bind]
            simp [run_underlying ht, hzv, hus, hst]
      · simp at h
    · simp at h
  · simp at h

/-- A later part of a row is appended to its front part. -/
theorem appendS_does (hT : TyOk P ty) (H : Heap w0 W0 (G objs φ seen w) w) {t u rt hh i j : Nat} {k : EK} {a b : Value} {e : Eff} (hk : (ty t).kind = .slice u) (hek : (ty u).ek = some k)
    (h : appendS k objs hh i j some = some e) (rs : (SV.sl hh (.take i)).rep (G objs φ seen w) a) (ry : (SV.sl hh (.drop j)).rep (G objs φ seen w) b) :
    Does P w0 W0 objs φ seen w e (do pure (.value (← Builtin.append_ #[t, t] rt #[a, b])) : Sem Next) := by
  unfold appendS at h
  split at h
  · rename_i e1 l ho
    split at h
    · rename_i hee
      subst hee
      split at h
      · rename_i hij
        simp only [Option.some.injEq] at h
        subst h
        have hu := ty_ek hT hek
        have hsz := ek_size hu hek
        obtain ⟨dd, i0, z, _, hi, _, hisz, _, hz, _, _, h9⟩ := hu.ok
        obtain ⟨_, _, hbytes, hzero⟩ := h9 e1 hek
        have ht := ty_slice hT hk
        have his : i0.size = e1.sz := by rw [hisz, hsz]
        obtain ⟨r1, ⟨A, n, cap, rfl⟩, r3⟩ := rs
        obtain ⟨y1, ⟨B, m, c2, rfl⟩, y3⟩ := ry
        obtain ⟨hn, hnc, hcm, hread, hnil, hloc⟩ := sl_reads H ho r3
        obtain ⟨hm, _, _, hrn, hn0, _⟩ := sl_reads H ho y3
        have hi1 : i ≤ l.length ∧ l.length ≤ cap := by
          simp only [Ctx.slOk, ho] at r3
          obtain ⟨q1, A', cap', q2, q3, _⟩ := r3
          cases q2
          exact ⟨q1, by simpa [Win.off] using q3.2⟩
        have hj1 : j ≤ l.length := by
          simp only [Ctx.slOk, ho] at y3
          exact y3.1
        have hv1 : Win.view (.take i) l = l.take i := rfl
        have hv2 : Win.view (.drop j) l = l.drop j := rfl
        rw [hv1, List.length_take] at hn
        rw [hv2, List.length_drop] at hm
        rw [hv2] at hrn hn0
        have hg : n + m ≤ cap := by omega
        have hln : (encAll e1 (l.drop j)).length = m * i0.size := by rw [encAll_length, his, List.length_drop, hm]
        have hl1 : (l.take i ++ l.drop j ++ l.drop (i + (l.length - j))).length = l.length := by simp; omega
        by_cases hz0 : cap = 0
        · have hl0 : l = [] := List.length_eq_zero_iff.1 (by omega)
          have hrun := append_room (P := P) (w := w) (rt := rt) (c2 := c2) (w' := w) (A := A) (n := n) (cap := cap) ht hi hln hrn (fun q => by rw [hn0 q]; rfl) hg (fun a ha => by
            rw [hl0]; simp [encAll]; rfl) (fun _ => rfl)
          subst hl0
          have eo : upd objs hh (some ⟨false, .row e1 (([] : List e1.den).take i ++ ([] : List e1.den).drop j ++ ([] : List e1.den).drop (i + (([] : List e1.den).length - j)))⟩) = objs := by
            funext y
            by_cases e : y = hh
            · subst e; rw [upd_same, ho]; simp
            · rw [upd_ne _ _ e]
          have es : upd seen hh true = seen := by
            funext y
            by_cases e : y = hh
            · subst e; rw [upd_same]; exact (H.sn y _ ho).symm
            · rw [upd_ne _ _ e]
          have ei : i + (([] : List e1.den).length - j) = 0 := by
            have := hi1.1
            simp only [List.length_nil] at *
            omega
          refine ⟨_, .slice A (n + m) cap, w, φ, by rw [Sem.run_bind, hrun]; rfl, .inl rfl, ?_, ?_, ?_⟩
          · simp only [Af, wrObjs, wrSeen, eo, es]
            refine ⟨r1, ⟨_, _, _, rfl⟩, ?_⟩
            have en : n + m = 0 := by omega
            rw [ei, en]
            simp only [Ctx.slOk, ho]
            exact ⟨Nat.zero_le _, A, cap, by simp [Win.len], ⟨by simp [Win.len], by simp [Win.off]⟩, hcm, .inl hz0⟩
          · simp only [Af, wrObjs, wrSeen, eo, es]; exact H
          · simp only [Af, wrObjs, wrSeen, eo, es]; exact Ctx.le.refl _
        · obtain ⟨b, o, hφ, rfl, hbnd⟩ := hloc.resolve_left hz0
          have hoff : o + Win.off (.take i) * e1.sz = o := by simp [Win.off]
          rw [hoff] at r3 hread ⊢
          rcases H.obj hh _ ho with ⟨hnn, _⟩ | ⟨b', o', hp', hcell, hw⟩
          · simp [hφ] at hnn
          · have hp2 : φ hh = some (b', o') := hp'
            rw [hφ] at hp2
            simp only [Option.some.injEq, Prod.mk.injEq] at hp2
            obtain ⟨rfl, rfl⟩ := hp2
            obtain ⟨cur, T, hcur, hcsz⟩ := hw rfl
            have hbs : bsOf w b = cur.size := by unfold bsOf; rw [hcur]
            have hni : n = i := by omega
            have hyl : (encAll e1 (l.drop j)).length = m * e1.sz := by rw [hln, his]
            have hmul : (n + m) * e1.sz ≤ l.length * e1.sz := Nat.mul_le_mul_right _ (by omega)
            rw [Nat.add_mul] at hmul
            have hmul2 : i * e1.sz + m * e1.sz ≤ l.length * e1.sz := by rw [← hni]; exact hmul
            have hfit : o + n * e1.sz + (encAll e1 (l.drop j)).length ≤ cur.size := by omega
            have hst := storeCells_ok (P := P) (o := o + n * e1.sz) hcur (encAll e1 (l.drop j)) hfit (encAll_one e1 _)
            have hrun := append_room (P := P) (w := w) (rt := rt) (c2 := c2) (A := some ⟨b, o, none⟩) (n := n) (cap := cap) ht hi hln hrn (fun q => by rw [hn0 q]; rfl) hg
              (fun a ha => by cases ha; rw [add_spot, his]; exact hst) (fun q => by cases q)
            obtain ⟨q1, q2⟩ := H.write ho rfl hφ (like_row false e1 l (l.take i ++ l.drop j ++ l.drop (i + (l.length - j))) hl1.symm) hcur (cur' := (cur.toList.take (o + n * e1.sz) ++ encAll e1 (l.drop j) ++ cur.toList.drop (o + n * e1.sz + (encAll e1 (l.drop j)).length)).toArray) (by simp; omega) (fun Γ' hle hp' => .inr ⟨b, o, hp', (fun m' v hv => by
                rw [cell_setRow_same w b (o + m') cur _ T (0, 0) hcur]
                rw [List.getElem?_toArray, splice_get _ _ _ _ (by simpa using hfit)]
                rw [encAll_append, encAll_append, encAll_take, encAll_drop (i := i + (l.length - j))] at hv
                have e3 : (i + (l.length - j)) * e1.sz = i * e1.sz + (encAll e1 (l.drop j)).length := by rw [hyl, Nat.add_mul, hm]
                rw [e3, splice_get _ _ _ _ (by rw [hyl, encAll_length]; omega)] at hv
                split at hv
                · rename_i hr
                  rw [if_pos ⟨by rw [hni]; omega, by rw [hni]; omega⟩, ← hv]
                  congr 1
                  rw [hni]
                  omega
                · rename_i hr
                  rw [if_neg (by rw [hni]; omega)]
                  have := hcell m' v hv
                  simpa [World.cell?, hcur] using this), fun _ => ⟨_, T, setRow_heap w b cur _ T (0, 0) hcur, by rw [hl1]; simp; omega⟩⟩)
            refine ⟨_, .slice (some ⟨b, o, none⟩) (n + m) cap, _, φ, by rw [Sem.run_bind, hrun]; rfl, .inl rfl, ?_, q1, q2⟩
            refine ⟨upd_same _ _ _, ⟨_, _, _, rfl⟩, ?_⟩
            simp only [Ctx.slOk, wrObjs, upd_same]
            have ho0 : Win.off (.take (i + (l.length - j))) = 0 := rfl
            have hlw : Win.len (.take (i + (l.length - j))) (l.take i ++ l.drop j ++ l.drop (i + (l.length - j))).length = n + m := by
              rw [hl1]; simp only [Win.len]; omega
            refine ⟨by show _ ≤ _; rw [hl1]; omega, some ⟨b, o, none⟩, cap, by rw [hlw], ⟨by rw [hlw]; exact hg, by rw [hl1, ho0]; omega⟩, hcm, .inr ⟨b, o, hφ, by rw [ho0, Nat.zero_mul, Nat.add_zero], fun _ => ?_⟩⟩
            rw [bsOf_setRow hcur (by simp; omega) b]
            have := hbnd rfl
            rw [ho0]
            simpa [Win.off] using this
      · simp at h
    · simp at h
  · simp at h

theorem appendK_does (hT : TyOk P ty) (H : Heap w0 W0 (G objs φ seen w) w) {t u d rt : Nat} {k : EK} {s y : SV} {a b : Value} {e : Eff} (hk : (ty t).kind = .slice u) (hek : (ty u).ek = some k)
    (h : appendK k objs seen d s y some = some e) (rs : s.rep (G objs φ seen w) a) (ry : y.rep (G objs φ seen w) b) :
    Does P w0 W0 objs φ seen w e (do pure (.value (← Builtin.append_ #[t, t] rt #[a, b])) : Sem Next) := by
  unfold appendK at h
  split at h
  · rename_i hh i j hs
    unfold sameRow at hs
    split at hs
    · rename_i h1 i1 h2 j1
      cases hb : Nat.beq h1 h2 with
      | false => rw [hb] at hs; cases hs
      | true =>
        rw [hb] at hs
        have := Nat.eq_of_beq_eq_true hb
        subst this
        simp only [Option.some.injEq, Prod.mk.injEq] at hs
        obtain ⟨rfl, rfl, rfl⟩ := hs
        exact appendS_does hT H hk hek h rs ry
    · cases hs
  · exact appendO_does hT H hk hek h rs ry

theorem builtin_does (hT : TyOk P ty) (H : Heap w0 W0 (G objs φ seen w) w) {slots : Nat → SV} {a : Act} (hev : ∀ x, (ev slots x).rep (G objs φ seen w) (a.eval x)) {b : Builtin} {c : Call} {rt d : Nat} {e : Eff} (hc : c.callee = .builtin b)
    (h : builtinK ty b c.argTypes.toList (c.args.toList.map (ev slots)) objs seen d some = some e) :
    Does P w0 W0 objs φ seen w e (do let x ← resolve a.eval c rt; invoke x.target x.args : Sem Next) := by
  have hargs : (c.args.map a.eval) = (c.args.toList.map a.eval).toArray := by
    apply Array.ext'
    rw [Array.toList_map]
  have hres : (do let x ← resolve a.eval c rt; invoke x.target x.args : Sem Next) = builtin b c.argTypes rt (c.args.map fun | .const _ => true | _ => false) (c.args.map a.eval) := by
    simp only [resolve, hc]
    rfl
  rw [hres, hargs]
  have hat : c.argTypes = c.argTypes.toList.toArray := by simp
  rw [hat]
  generalize c.argTypes.toList = ats at h ⊢
  generalize (c.args.map fun | .const _ => true | _ => false) = cs
  generalize c.args.toList = args at h ⊢
  unfold builtinK at h
  split at h
  · rename_i x t hx
    match args, hx with
    | [o], hx =>
      simp only [List.map_cons, List.map_nil, List.cons.injEq, and_true] at hx
      have hr := hev o
      rw [hx] at hr
      simp only [List.map_cons, List.map_nil]
      split at h
      · have hk := ‹(ty t).kind = TK.str›
        simp only [Option.some.injEq] at h
        subst h
        simp only [SV.rep] at hr
        refine does_pure H ?_ rfl rfl
        simp [builtin, Builtin.len_, run_underlying (ty_str hT hk), hr, goInt]
      · have hk := ‹(ty t).kind = TK.slice _›
        split at h
        · rename_i n hn
          simp only [Option.some.injEq] at h
          subst h
          obtain ⟨A, c', ha⟩ := lenOf_ok hn hr
          refine does_pure H ?_ rfl rfl
          simp [builtin, Builtin.len_, run_underlying (ty_slice hT hk), ha, goInt]
        · simp at h
      · have hk := ‹(ty t).kind = TK.arr _ _›
        simp only [Option.some.injEq] at h
        subst h
        refine does_pure H ?_ rfl rfl
        simp [builtin, Builtin.len_, run_underlying (ty_arr hT hk), goInt]
      · simp at h
  · rename_i s y t u hx
    match args, hx with
    | [o1, o2], hx =>
      simp only [List.map_cons, List.map_nil, List.cons.injEq, and_true] at hx
      have hr1 := hev o1
      have hr2 := hev o2
      rw [hx.1] at hr1
      rw [hx.2] at hr2
      simp only [List.map_cons, List.map_nil]
      split at h
      · rename_i ue htu hk
        have htu := Nat.eq_of_beq_eq_true htu
        subst htu
        split at h
        · rename_i k hek
          exact appendK_does hT H hk hek h hr1 hr2
        · simp at h
      · simp at h
  · rename_i x y hx
    match args, hx with
    | [o1, o2], hx =>
      simp only [List.map_cons, List.map_nil, List.cons.injEq, and_true] at hx
      have hr1 := hev o1
      have hr2 := hev o2
      rw [hx.1] at hr1
      rw [hx.2] at hr2
      simp only [List.map_cons, List.map_nil]
      unfold minK at h
      split at h
      · simp only [Option.some.injEq] at h
        subst h
        simp only [SV.rep] at hr1 hr2
        refine does_pure H ?_ rfl rfl
        simp only [builtin, hr1, hr2]
        rw [Sem.run_bind, run_min_int2]
        rfl
      · simp at h
  · rename_i x y hx
    match args, hx with
    | [o1, o2], hx =>
      simp only [List.map_cons, List.map_nil, List.cons.injEq, and_true] at hx
      have hr1 := hev o1
      have hr2 := hev o2
      rw [hx.1] at hr1
      rw [hx.2] at hr2
      simp only [List.map_cons, List.map_nil]
      unfold maxK at h
      split at h
      · simp only [Option.some.injEq] at h
        subst h
        simp only [SV.rep] at hr1 hr2
        refine does_pure H ?_ rfl rfl
        simp only [builtin, hr1, hr2]
        rw [Sem.run_bind, run_max_int2]
        rfl
      · simp at h
  · rename_i x t hx
    match args, hx with
    | [o], hx =>
      simp only [List.map_cons, List.map_nil, List.cons.injEq, and_true] at hx
      have hr := hev o
      rw [hx] at hr
      simp only [List.map_cons, List.map_nil]
      exact clear_does hT H h hr
  · simp at h

end
end Go.Fx
