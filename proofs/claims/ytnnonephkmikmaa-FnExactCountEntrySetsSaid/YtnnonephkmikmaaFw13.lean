/- The reflective executor, part 13: every operation but calls of functions. -/
import Derived.Test.YtnnonephkmikmaaFw12
set_option linter.unusedVariables false
set_option linter.unusedSimpArgs false
set_option autoImplicit false
namespace Go.Fx
open Go
section
variable {P : Program} {w0 : World} {W0 : Nat → Prop} {objs : Nat → Option AO} {φ : Nat → Option (Nat × Nat)} {seen : Nat → Bool} {w : World} {ty : Ty}

/-- A name without memory. -/
theorem Heap.void (H : Heap w0 W0 (G objs φ seen w) w) (m : Nat) (hs : seen m = false) (e : EK) :
    Heap w0 W0 (G (upd objs m (some ⟨false, .row e []⟩)) (upd φ m none) (upd seen m true) w) w ∧ (G objs φ seen w).le (G (upd objs m (some ⟨false, .row e []⟩)) (upd φ m none) (upd seen m true) w) := by
  have hle2 : (G objs φ seen w).le (G (upd objs m (some ⟨false, .row e []⟩)) (upd φ m none) (upd seen m true) w) := by
    refine le_of (fun x hx => ?_) (fun x hx => ?_)
    · show upd seen m true x = true
      rw [upd_eq]; split
      · rfl
      · exact hx
    · have hxn : x ≠ m := fun q => by
        have hx' : seen x = true := hx
        rw [q, hs] at hx'; cases hx'
      show upd objs m _ x = none ∨ _
      rw [upd_ne _ _ hxn]
      cases hx' : objs x with
      | none => exact .inl rfl
      | some y => exact .inr ⟨y, y, hx', by show upd objs m _ x = some y; rw [upd_ne _ _ hxn]; exact hx', AO.like.refl y, by show upd φ _ _ x = φ x; rw [upd_ne _ _ hxn], fun _ _ _ => rfl⟩
  refine ⟨H.step m ⟨false, .row e []⟩ none hle2 rfl rfl rfl (Nat.le_refl _) (fun _ _ _ => rfl) (fun b hb => by cases hb) (fun b hb => by cases hb) (fun _ => rfl)
    (fun x y hxn hy => by
      have hy' : upd objs m (some ⟨false, .row e []⟩) x = some y := hy
      rw [upd_ne _ _ hxn] at hy'
      exact ⟨hy', by show upd φ _ _ x = φ x; rw [upd_ne _ _ hxn], fun b o _ q => by cases q⟩)
    (upd_same _ _ _) (upd_same _ _ _) (.inl ⟨upd_same _ _ _, rfl⟩) (fun b o hb => by
      have hb' : upd φ m none m = some (b, o) := hb
      rw [upd_same] at hb'; cases hb'), hle2⟩

theorem void_rep (m : Nat) (e : EK) {A : Option Addr} : (SV.sl m .all).rep (G (upd objs m (some ⟨false, .row e []⟩)) (upd φ m none) (upd seen m true) w) (.slice A 0 0) := by
  refine ⟨upd_same _ _ _, ⟨_, _, _, rfl⟩, ?_⟩
  simp only [Ctx.slOk, upd_same]
  exact ⟨trivial, A, 0, rfl, Nat.le_refl _, Nat.zero_le _, .inl rfl⟩

theorem appendK_does (hT : TyOk P ty) (H : Heap w0 W0 (G objs φ seen w) w) {t u d rt : Nat} {k : EK} {s y : SV} {a b : Value} {e : Eff} (hk : (ty t).kind = .slice u) (hek : (ty u).ek = some k)
    (h : appendK k objs seen d s y some = some e) (rs : s.rep (G objs φ seen w) a) (ry : y.rep (G objs φ seen w) b) :
    Does P w0 W0 objs φ seen w e (do pure (.value (← Builtin.append_ #[t, t] rt #[a, b])) : Sem Next) := by
  unfold appendK at h
  split at h
  · rename_i hh w1 h2 w2
    split at h
    · rename_i e1 l1 ro e2 l2 ho ho2 hseen
      split at h
      · rename_i he
        subst he
        split at h
        · rename_i he2
          subst he2
          split at h
          · rename_i hlen
            simp only [Option.some.injEq] at h
            subst h
            obtain ⟨hs1, ⟨A, n, cap, rfl⟩, hsl⟩ := rs
            obtain ⟨hs2, ⟨B, m, c2, rfl⟩, hsl2⟩ := ry
            obtain ⟨hm, _, _, hrd, hnil, _⟩ := sl_reads H ho2 hsl2
            exact append_main hT H hk hek ho hsl hseen hs1 hm hrd hnil hlen _
          · simp at h
        · simp at h
      · simp at h
    · simp at h
  · rename_i h2 w2
    split at h
    · rename_i ro e2 l2 ho2 hseen
      split at h
      · rename_i he2
        subst he2
        split at h
        · rename_i hlen
          simp only [Option.some.injEq] at h
          subst h
          simp only [SV.rep] at rs
          subst rs
          obtain ⟨hs2, ⟨B, m, c2, rfl⟩, hsl2⟩ := ry
          obtain ⟨hm, hmc, _, hrd, hnil, _⟩ := sl_reads H ho2 hsl2
          have hu := ty_ek hT hek
          have hsz := ek_size hu hek
          obtain ⟨dd, i, z, _, hi, _, hisz, _, hz, _, _, h9⟩ := hu.ok
          obtain ⟨_, _, hbytes, hzero⟩ := h9 e2 hek
          have hzc := zeroOk_cv1 (enc_lits e2 _) hzero
          have hzs : z.cells.size = e2.sz := by rw [← Array.length_toList, hzc, enc_length]
          have his : i.size = e2.sz := by rw [hisz, hsz]
          have ht := ty_slice hT hk
          have hlen : (w2.view l2).length ≤ 4398046511104 := hlen
          have hln : (encAll e2 (w2.view l2)).length = m * i.size := by rw [encAll_length, his, hm]
          by_cases hm0 : m = 0
          · subst hm0
            have hv0 : w2.view l2 = [] := List.eq_nil_of_length_eq_zero hm.symm
            have hrun := append_room (P := P) (w := w) (rt := rt) (c2 := c2) (w' := w) (A := none) (n := 0) (cap := 0) ht hi hln hrd (fun q => by rw [hnil q]; rfl) (by omega) (fun a ha => by cases ha) (fun _ => rfl)
            obtain ⟨q1, q2⟩ := H.void (nm d 0) hseen e2
            refine ⟨_, _, w, upd φ (nm d 0) none, by rw [Sem.run_bind, hrun]; rfl, .inl rfl, ?_, ?_, ?_⟩
            all_goals
              simp only [Af, wrObjs, wrSeen]
              rw [show w2.view (castRow rfl l2) = [] from hv0]
            · exact void_rep _ _
            · exact q1
            · exact q2
          · have hrun := append_grow (P := P) (w := w) (rt := rt) (c2 := c2) (A := none) (n := 0) (cap := 0) (olds := []) ht hi hz (by simp) (fun _ q => by cases q) (fun _ => rfl) hln hrd (fun q => by rw [hnil q]; rfl) (by omega) (by omega) (.inr (by
              have := Nat.mul_le_mul (show 0 + m ≤ 4398046511104 by omega) hbytes
              omega))
            have hge := grownCap_ge w (0 + m) 0 u
            have hcap := grownCap_le_maxLen w (0 + m) 0 u (by unfold maxLen; omega)
            generalize grownCap w (0 + m) 0 u = gc at hrun hge hcap
            have Hd : Heap w0 W0 (G objs φ seen w.drew) w.drew := H.drew
            have hled : (G objs φ seen w).le (G objs φ seen w.drew) := ⟨fun _ q => q, fun _ _ _ _ q => q, fun _ _ _ _ q => q, fun _ _ _ _ _ q => q⟩
            have hsize : ((([] : List Value)).toArray ++ (encAll e2 (w2.view l2)).toArray ++ Builtin.zeroCells z.cells (gc - (0 + m))).size = gc * e2.sz := by
              simp only [Array.size_append, List.size_toArray, size_zeroCells, hzs, hln, his, List.length_nil, Nat.zero_add, ← Nat.add_mul]
              congr 1
              omega
            obtain ⟨q1, q2, q3⟩ := row_new Hd (m := nm d 0) (n := 0 + m) (cap := gc) (T := u) (e := e2) (l := w2.view l2)
              (cur := ([] : List Value).toArray ++ (encAll e2 (w2.view l2)).toArray ++ Builtin.zeroCells z.cells (gc - (0 + m))) hseen (by omega) hge hcap (by rw [hsize]; exact Nat.le_refl _)
              (fun k v hv => by
                have hk2 := (List.getElem?_eq_some_iff.1 hv).1
                rw [Array.getElem?_append_left (by simpa using hk2)]
                simpa using hv)
            exact ⟨_, _, _, _, by rw [Sem.run_bind, hrun]; rfl, .inl rfl, q1, q2, hled.trans q3⟩
        · simp at h
      · simp at h
    · simp at h
  · rename_i hh w1
    split at h
    · rename_i e1 l1 ho
      simp only [Option.some.injEq] at h
      subst h
      have rs' := rs
      obtain ⟨hs1, ⟨A, n, cap, rfl⟩, hsl⟩ := rs
      simp only [SV.rep] at ry
      subst ry
      obtain ⟨hn, hnc, _⟩ := sl_reads H ho hsl
      obtain ⟨dd, i, z, _, hi, _⟩ := (ty_ek hT hek).ok
      have hrun := append_room (P := P) (w := w) (rt := rt) (c2 := 0) (w' := w) (A := A) (n := n) (cap := cap) (B := none) (m := 0) (news := []) (ty_slice hT hk) hi (by simp) (fun _ q => by cases q) (fun _ => rfl) (by omega) (fun a ha => rfl) (fun _ => rfl)
      exact does_pure H (by rw [Sem.run_bind, hrun]; rfl) rfl rs'
    · simp at h
  · simp at h

theorem lenOf_ok {x : SV} {a : Value} {n : Nat} (h : lenOf objs x = some n) (r : x.rep (G objs φ seen w) a) : ∃ A c, a = .slice A n c := by
  unfold lenOf at h
  split at h
  · split at h
    · rename_i ro e l ho
      simp only [Option.some.injEq] at h
      subst h
      obtain ⟨_, _, hp⟩ := r
      simp only [Ctx.slOk, ho] at hp
      obtain ⟨_, A, cap, rfl, _⟩ := hp
      exact ⟨A, cap, by rw [view_length]⟩
    · simp at h
  · simp only [Option.some.injEq] at h
    subst h
    simp only [SV.rep] at r
    exact ⟨none, 0, r⟩
  · simp at h

theorem builtin_does (hT : TyOk P ty) (H : Heap w0 W0 (G objs φ seen w) w) {slots : Nat → SV} {a : Act} (hev : ∀ x, (ev slots x).rep (G objs φ seen w) (a.eval x)) {b : Builtin} {c : Call} {rt d : Nat} {e : Eff} (hc : c.callee = .builtin b)
    (h : builtinK ty b c.argTypes.toList (c.args.toList.map (ev slots)) objs seen d some = some e) :
    Does P w0 W0 objs φ seen w e (do let x ← resolve a.eval c rt; invoke x.target x.args : Sem Next) := by
  have hargs : (c.args.map a.eval) = (c.args.toList.map a.eval).toArray := by
    apply Array.ext'
    rw [Array.toList_map]
  have hres : (do let x ← resolve a.eval c rt; invoke x.target x.args : Sem Next) = builtin b c.argTypes rt (c.args.map fun | .const _ => true | _ => false) (c.args.map a.eval) := by
    simp only [resolve, hc]
    rfl
  rw [hres, hargs]
  have hat : c.argTypes = c.argTypes.toList.toArray := by simp
  rw [hat]
  generalize c.argTypes.toList = ats at h ⊢
  generalize (c.args.map fun | .const _ => true | _ => false) = cs
  generalize c.args.toList = args at h ⊢
  unfold builtinK at h
  split at h
  · rename_i x t hx
    match args, hx with
    | [o], hx =>
      simp only [List.map_cons, List.map_nil, List.cons.injEq, and_true] at hx
      have hr := hev o
      rw [hx] at hr
      simp only [List.map_cons, List.map_nil]
      split at h
      · have hk := ‹(ty t).kind = TK.str›
        simp only [Option.some.injEq] at h
        subst h
        simp only [SV.rep] at hr
        refine does_pure H ?_ rfl rfl
        simp [builtin, Builtin.len_, run_underlying (ty_str hT hk), hr, goInt]
      · have hk := ‹(ty t).kind = TK.slice _›
        split at h
        · rename_i n hn
          simp only [Option.some.injEq] at h
          subst h
          obtain ⟨A, c', ha⟩ := lenOf_ok hn hr
          refine does_pure H ?_ rfl rfl
          simp [builtin, Builtin.len_, run_underlying (ty_slice hT hk), ha, goInt]
        · simp at h
      · have hk := ‹(ty t).kind = TK.arr _ _›
        simp only [Option.some.injEq] at h
        subst h
        refine does_pure H ?_ rfl rfl
        simp [builtin, Builtin.len_, run_underlying (ty_arr hT hk), goInt]
      · simp at h
  · rename_i s y t u hx
    match args, hx with
    | [o1, o2], hx =>
      simp only [List.map_cons, List.map_nil, List.cons.injEq, and_true] at hx
      have hr1 := hev o1
      have hr2 := hev o2
      rw [hx.1] at hr1
      rw [hx.2] at hr2
      simp only [List.map_cons, List.map_nil]
      split at h
      · rename_i ue htu hk
        have htu := Nat.eq_of_beq_eq_true htu
        subst htu
        split at h
        · rename_i k hek
          exact appendK_does hT H hk hek h hr1 hr2
        · simp at h
      · simp at h
  · rename_i x y hx
    match args, hx with
    | [o1, o2], hx =>
      simp only [List.map_cons, List.map_nil, List.cons.injEq, and_true] at hx
      have hr1 := hev o1
      have hr2 := hev o2
      rw [hx.1] at hr1
      rw [hx.2] at hr2
      simp only [List.map_cons, List.map_nil]
      unfold minK at h
      split at h
      · simp only [Option.some.injEq] at h
        subst h
        simp only [SV.rep] at hr1 hr2
        refine does_pure H ?_ rfl rfl
        simp only [builtin, hr1, hr2]
        rw [Sem.run_bind, run_min_int2]
        rfl
      · simp at h
  · rename_i x y hx
    match args, hx with
    | [o1, o2], hx =>
      simp only [List.map_cons, List.map_nil, List.cons.injEq, and_true] at hx
      have hr1 := hev o1
      have hr2 := hev o2
      rw [hx.1] at hr1
      rw [hx.2] at hr2
      simp only [List.map_cons, List.map_nil]
      unfold maxK at h
      split at h
      · simp only [Option.some.injEq] at h
        subst h
        simp only [SV.rep] at hr1 hr2
        refine does_pure H ?_ rfl rfl
        simp only [builtin, hr1, hr2]
        rw [Sem.run_bind, run_max_int2]
        rfl
      · simp at h
  · simp at h

end
end Go.Fx
