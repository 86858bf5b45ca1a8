/- The reflective executor, part 12: append. -/
import Derived.Test.YtoppnaekfjjaaaaFw11
set_option linter.unusedVariables false
set_option linter.unusedSimpArgs false
set_option autoImplicit false
namespace Go.Fx
open Go
section
variable {P : Program} {w0 : World} {W0 : Nat → Prop} {objs : Nat → Option AO} {φ : Nat → Option (Nat × Nat)} {seen : Nat → Bool} {w : World} {ty : Ty}

theorem Heap.kill (H : Heap w0 W0 (G objs φ seen w) w) (h : Nat) :
    Heap w0 W0 (G (upd objs h none) φ (upd seen h true) w) w ∧ (G objs φ seen w).le (G (upd objs h none) φ (upd seen h true) w) := by
  have hle : (G objs φ seen w).le (G (upd objs h none) φ (upd seen h true) w) := by
    refine le_of (fun x hx => ?_) (fun x hx => ?_)
    · show upd seen h true x = true
      rw [upd_eq]; split
      · rfl
      · exact hx
    · by_cases e : x = h
      · subst e; exact .inl (upd_same _ _ _)
      · show upd objs h none x = none ∨ _
        rw [upd_ne _ _ e]
        cases hx' : objs x with
        | none => exact .inl rfl
        | some y => exact .inr ⟨y, y, hx', by show upd objs h none x = some y; rw [upd_ne _ _ e]; exact hx', AO.like.refl y, rfl, fun _ _ _ => rfl⟩
  have old : ∀ x y, upd objs h none x = some y → x ≠ h ∧ objs x = some y := by
    intro x y hy
    have hne : x ≠ h := fun e => by subst e; rw [upd_same] at hy; cases hy
    rw [upd_ne _ _ hne] at hy
    exact ⟨hne, hy⟩
  refine ⟨⟨H.os, H.tape, H.output, H.size, H.keep, H.kind, fun _ => rfl, ?_, ?_, ?_, ?_, ?_⟩, hle⟩
  · intro x y hy
    exact oRep_le hle rfl (fun _ _ _ => rfl) (H.obj x y (old x y hy).2)
  · intro x y hy
    exact hle.seen x (H.sn x y (old x y hy).2)
  · intro x y b o hy hb
    exact H.lt x y b o (old x y hy).2 hb
  · intro x x' y y' b o o' hy hy' hb hb' hne
    exact H.sep x x' y y' b o o' (old x y hy).2 (old x' y' hy').2 hb hb' hne
  · intro x y b o hy hr hb
    exact H.own x y b o (old x y hy).2 hr hb

/-- What a slice value holds is read. -/
theorem sl_reads (H : Heap w0 W0 (G objs φ seen w) w) {h : Nat} {win : Win} {ro : Bool} {e : EK} {l : List e.den} {A : Option Addr} {n cap : Nat} (ho : objs h = some ⟨ro, .row e l⟩) (hs : (G objs φ seen w).slOk h win (.slice A n cap)) :
    n = (win.view l).length ∧ n ≤ cap ∧ cap ≤ maxLen ∧
    (∀ ad, A = some ad → ∀ j v, (encAll e (win.view l))[j]? = some v → w.cell? (ad.add j) = some v) ∧ (A = none → win.view l = []) ∧
    (cap = 0 ∨ ∃ b o, φ h = some (b, o) ∧ A = some ⟨b, o + win.off * e.sz, none⟩ ∧ (ro = false → o + (win.off + cap) * e.sz ≤ bsOf w b)) := by
  simp only [Ctx.slOk, ho] at hs
  obtain ⟨hok, A', cap', he, hlc, hcm, hc⟩ := hs
  cases he
  refine ⟨(view_length win l).symm, hlc.1, hcm, ?_, ?_, hc⟩
  · intro ad hA j v hv
    have hj : j < win.len l.length * e.sz := by
      have := (List.getElem?_eq_some_iff.1 hv).1
      rw [encAll_length, view_length] at this
      exact this
    have hpos : 0 < win.len l.length := by
      rcases Nat.eq_zero_or_pos (win.len l.length) with h0 | h0
      · rw [h0] at hj; omega
      · exact h0
    obtain ⟨b, o, hφ, hA', _⟩ := hc.resolve_left (by omega)
    rw [hA] at hA'
    cases hA'
    rw [add_spot]
    rw [encAll_view, List.getElem?_take, if_pos hj, List.getElem?_drop] at hv
    rcases H.obj h _ ho with ⟨hn, _⟩ | ⟨b', o', hp', hcell, _⟩
    · simp [hφ] at hn
    · have hp2 : φ h = some (b', o') := hp'
      rw [hφ] at hp2
      simp only [Option.some.injEq, Prod.mk.injEq] at hp2
      obtain ⟨rfl, rfl⟩ := hp2
      have := hcell _ v hv
      rw [← Nat.add_assoc] at this
      exact this
  · intro hA
    apply List.eq_nil_of_length_eq_zero
    rw [view_length]
    rcases Nat.eq_zero_or_pos (win.len l.length) with h0 | h0
    · exact h0
    · obtain ⟨b, o, hφ, hA', _⟩ := hc.resolve_left (by omega)
      rw [hA] at hA'
      cases hA'

theorem firstCells_run {A : Option Addr} {n cap size : Nat} {cs : List Value} (hl : cs.length = n * size) (hr : ∀ ad, A = some ad → ∀ j v, cs[j]? = some v → w.cell? (ad.add j) = some v) (h0 : A = none → cs = []) :
    (Builtin.firstCells size n (.slice A n cap)).run P w = .ok cs.toArray w := by
  cases A with
  | none => rw [h0 rfl]; exact run_firstCells_none w size n n cap
  | some ad => exact run_firstCells_some w size n ad n cap cs hl (hr ad rfl)

theorem append_grow {t u : Nat} {i : TypeInfo} {z : Value} (ht : P.underlying t = some (.slice u)) (hi : P.info? u = some i) (hz : i.zero = some z) {A B : Option Addr} {n cap m c2 : Nat} {olds news : List Value} {rt : Nat}
    (hlo : olds.length = n * i.size) (hro : ∀ ad, A = some ad → ∀ j v, olds[j]? = some v → w.cell? (ad.add j) = some v) (ho0 : A = none → olds = [])
    (hln : news.length = m * i.size) (hrn : ∀ ad, B = some ad → ∀ j v, news[j]? = some v → w.cell? (ad.add j) = some v) (hn0 : B = none → news = [])
    (hg : cap < n + m) (h63 : n + m ≤ 8796093022208) (hb : i.bytes ≤ 16 ∨ (n + m) * i.bytes ≤ 140737488355328) :
    (Builtin.append_ #[t, t] rt #[.slice A n cap, .slice B m c2]).run P w =
      .ok (.slice (some ⟨w.heap.size, 0, none⟩) (n + m) (grownCap w (n + m) cap u)) (w.drew.alloc (.cells (olds.toArray ++ news.toArray ++ Builtin.zeroCells z.cells (grownCap w (n + m) cap u - (n + m))) u)) := by
  have hbytes : (n + m) * i.bytes ≤ 140737488355328 := by
    rcases hb with h | h
    · have := Nat.mul_le_mul h63 h; omega
    · exact h
  have hfit := growslice_fits hg hbytes
  have hn : ¬ (n + m ≤ cap) := by omega
  have h63' : ¬ (9223372036854775807 < ((n : Int) + (m : Int))) := by omega
  have h48' : ¬ (281474976710656 < Builtin.nextslicecap (n + m) cap * i.bytes) := by omega
  have hf : (Builtin.firstCells i.size m (.slice B m c2)).run P w.drew = .ok news.toArray w.drew := firstCells_run hln (by simpa using hrn) hn0
  have hfo : (Builtin.firstCells i.size n (.slice A n cap)).run P w.drew = .ok olds.toArray w.drew := firstCells_run hlo (by simpa using hro) ho0
  simp [Builtin.append_, run_underlying ht, sizeOf, typeInfo, zeroValue, hi, hz, Builtin.lenOf, hn, h63', h48', Question.forced, hf, hfo, newRow, grownCap]
  congr 2
  apply Array.ext'
  simp [List.append_assoc]

theorem append_room {t u : Nat} {i : TypeInfo} (ht : P.underlying t = some (.slice u)) (hi : P.info? u = some i) {A B : Option Addr} {n cap m c2 : Nat} {news : List Value} {rt : Nat} {w' : World}
    (hln : news.length = m * i.size) (hrn : ∀ ad, B = some ad → ∀ j v, news[j]? = some v → w.cell? (ad.add j) = some v) (hn0 : B = none → news = [])
    (hg : n + m ≤ cap) (hst : ∀ a, A = some a → (storeCells (a.add (n * i.size)) news).run P w = .ok () w') (hnone : A = none → w' = w) :
    (Builtin.append_ #[t, t] rt #[.slice A n cap, .slice B m c2]).run P w = .ok (.slice A (n + m) cap) w' := by
  have hf : (Builtin.firstCells i.size m (.slice B m c2)).run P w = .ok news.toArray w := firstCells_run hln hrn hn0
  cases A with
  | none =>
    have := hnone rfl
    subst this
    simp [Builtin.append_, run_underlying ht, sizeOf, typeInfo, hi, Builtin.lenOf, hg, hf]
  | some a =>
    have hst' := hst a rfl
    simp [Builtin.append_, run_underlying ht, sizeOf, typeInfo, hi, Builtin.lenOf, hg, hf, hst']

theorem enc_one (e : EK) (x : e.den) : ∀ u ∈ e.enc x, u.oneCell' = true := by
  cases e <;> simp [EK.enc, Value.oneCell']
theorem encAll_one (e : EK) (l : List e.den) : ∀ u ∈ encAll e l, u.oneCell' = true := by
  intro u hu
  simp only [encAll, List.mem_flatMap] at hu
  obtain ⟨x, _, hx⟩ := hu
  exact enc_one e x u hx

/-- A row more, where one is gone: what append leaves. -/
theorem append_main (hT : TyOk P ty) (H : Heap w0 W0 (G objs φ seen w) w) {h d t u rt : Nat} {win : Win} {e : EK} {l ys : List e.den} {A B : Option Addr} {n cap m c2 : Nat}
    (hk : (ty t).kind = .slice u) (hek : (ty u).ek = some e) (ho : objs h = some ⟨false, .row e l⟩) (hs : (G objs φ seen w).slOk h win (.slice A n cap)) (hseen : seen (nm d 0) = false) (hsh : seen h = true)
    (hm : m = ys.length) (hrn : ∀ ad, B = some ad → ∀ j v, (encAll e ys)[j]? = some v → w.cell? (ad.add j) = some v) (hn0 : B = none → ys = [])
    (hlen : (win.view l).length + ys.length ≤ 4398046511104) (tch : List Nat) :
    Does P w0 W0 objs φ seen w ⟨.sl (nm d 0) .all, [(h, none), (nm d 0, some ⟨false, .row e (win.view l ++ ys)⟩)], tch⟩ (do pure (.value (← Builtin.append_ #[t, t] rt #[.slice A n cap, .slice B m c2])) : Sem Next) := by
  have hu := ty_ek hT hek
  have hsz := ek_size hu hek
  obtain ⟨dd, i, z, _, hi, _, hisz, _, hz, _, _, h9⟩ := hu.ok
  obtain ⟨_, _, hbytes, hzero⟩ := h9 e hek
  have hzc := zeroOk_cv1 (enc_lits e _) hzero
  have hzs : z.cells.size = e.sz := by rw [← Array.length_toList, hzc, enc_length]
  have ht := ty_slice hT hk
  obtain ⟨hn, hnc, hcm, hread, hnil, hloc⟩ := sl_reads H ho hs
  have his : i.size = e.sz := by rw [hisz, hsz]
  have hne : nm d 0 ≠ h := fun q => by rw [q, hsh] at hseen; cases hseen
  obtain ⟨H1, hle1⟩ := H.kill h
  have hs1 : upd seen h true (nm d 0) = false := by rw [upd_ne _ _ hne]; exact hseen
  have hlo : (encAll e (win.view l)).length = n * i.size := by rw [encAll_length, his, hn]
  have hln : (encAll e ys).length = m * i.size := by rw [encAll_length, his, hm]
  by_cases hg : n + m ≤ cap
  · by_cases hz0 : cap = 0
    · -- nothing at all
      have hn' : n = 0 := by omega
      have hm' : m = 0 := by omega
      have hy0 : ys = [] := List.eq_nil_of_length_eq_zero (by omega)
      have hv0 : win.view l = [] := List.eq_nil_of_length_eq_zero (by omega)
      have hrun := append_room (P := P) (w := w) (rt := rt) (c2 := c2) (w' := w) (A := A) (n := n) (cap := cap) ht hi hln hrn (fun q => by rw [hn0 q]; rfl) hg (fun a ha => by
        rw [hy0]; rfl) (fun _ => rfl)
      have hle2 : (G (upd objs h none) φ (upd seen h true) w).le (G (upd (upd objs h none) (nm d 0) (some ⟨false, .row e (win.view l ++ ys)⟩)) (upd φ (nm d 0) none) (upd (upd seen h true) (nm d 0) true) w) := by
        refine le_of (fun x hx => ?_) (fun x hx => ?_)
        · show upd (upd seen h true) (nm d 0) true x = true
          rw [upd_eq]; split
          · rfl
          · exact hx
        · have hxn : x ≠ nm d 0 := fun q => by
            have hx' : upd seen h true x = true := hx
            rw [q, hs1] at hx'; cases hx'
          show upd (upd objs h none) (nm d 0) _ x = none ∨ _
          rw [upd_ne _ _ hxn]
          cases hx' : upd objs h none x with
          | none => exact .inl rfl
          | some y => exact .inr ⟨y, y, hx', by show upd (upd objs h none) (nm d 0) _ x = some y; rw [upd_ne _ _ hxn]; exact hx', AO.like.refl y, by show upd φ _ _ x = φ x; rw [upd_ne _ _ hxn], fun _ _ _ => rfl⟩
      have H2 := H1.step (nm d 0) ⟨false, .row e (win.view l ++ ys)⟩ none hle2 rfl rfl rfl (Nat.le_refl _) (fun _ _ _ => rfl) (fun b hb => by cases hb) (fun b hb => by cases hb) (fun _ => rfl)
        (fun x y hxn hy => by
          have hy' : upd (upd objs h none) (nm d 0) (some ⟨false, .row e (win.view l ++ ys)⟩) x = some y := hy
          rw [upd_ne _ _ hxn] at hy'
          exact ⟨hy', by show upd φ _ _ x = φ x; rw [upd_ne _ _ hxn], fun b o _ q => by cases q⟩)
        (upd_same _ _ _) (upd_same _ _ _) (.inl ⟨upd_same _ _ _, by rw [hy0, hv0]; rfl⟩) (fun b o hb => by
          have hb' : upd φ (nm d 0) none (nm d 0) = some (b, o) := hb
          rw [upd_same] at hb'; cases hb')
      refine ⟨_, .slice A (n + m) cap, w, upd φ (nm d 0) none, by rw [Sem.run_bind, hrun]; rfl, .inl rfl, ?_, H2, hle1.trans hle2⟩
      refine ⟨upd_same _ _ _, ⟨_, _, _, rfl⟩, ?_⟩
      simp only [Ctx.slOk, wrObjs, upd_same]
      exact ⟨trivial, A, cap, by simp [Win.len, hy0, hv0, hn', hm'], by simp [Win.len, Win.off, hy0, hv0], hcm, .inl hz0⟩
    · -- in place
      obtain ⟨b, o, hφ, rfl, hbnd⟩ := hloc.resolve_left hz0
      have hbnd := hbnd rfl
      rcases H.obj h _ ho with ⟨hnn, _⟩ | ⟨b', o', hp', hcell, hw⟩
      · simp [hφ] at hnn
      · have hp2 : φ h = some (b', o') := hp'
        rw [hφ] at hp2
        simp only [Option.some.injEq, Prod.mk.injEq] at hp2
        obtain ⟨rfl, rfl⟩ := hp2
        obtain ⟨cur, T, hcur, hcsz⟩ := hw rfl
        have hbs : bsOf w b = cur.size := by unfold bsOf; rw [hcur]
        rw [hbs] at hbnd
        have hmul : (n + m) * e.sz ≤ cap * e.sz := Nat.mul_le_mul_right _ hg
        have e1 : (win.off + cap) * e.sz = win.off * e.sz + cap * e.sz := Nat.add_mul _ _ _
        have e2 : (n + m) * e.sz = n * e.sz + m * e.sz := Nat.add_mul _ _ _
        have hyl : (encAll e ys).length = m * e.sz := by rw [hln, his]
        have hfit : o + win.off * e.sz + n * e.sz + (encAll e ys).length ≤ cur.size := by omega
        have hst := storeCells_ok (P := P) (o := o + win.off * e.sz + n * e.sz) hcur (encAll e ys) hfit (encAll_one e ys)
        have hrun := append_room (P := P) (w := w) (rt := rt) (c2 := c2) (A := some ⟨b, o + win.off * e.sz, none⟩) (n := n) (cap := cap) ht hi hln hrn (fun q => by rw [hn0 q]; rfl) hg
          (fun a ha => by cases ha; rw [add_spot, his]; exact hst) (fun q => by cases q)
        have hle2 : (G (upd objs h none) φ (upd seen h true) w).le (G (upd (upd objs h none) (nm d 0) (some ⟨false, .row e (win.view l ++ ys)⟩)) (upd φ (nm d 0) (some (b, o + win.off * e.sz))) (upd (upd seen h true) (nm d 0) true)
            (w.setRow b (cur.toList.take (o + win.off * e.sz + n * e.sz) ++ encAll e ys ++ cur.toList.drop (o + win.off * e.sz + n * e.sz + (encAll e ys).length)).toArray)) := by
          refine le_of (fun x hx => ?_) (fun x hx => ?_)
          · show upd (upd seen h true) (nm d 0) true x = true
            rw [upd_eq]; split
            · rfl
            · exact hx
          · have hxn : x ≠ nm d 0 := fun q => by
              have hx' : upd seen h true x = true := hx
              rw [q, hs1] at hx'; cases hx'
            show upd (upd objs h none) (nm d 0) _ x = none ∨ _
            rw [upd_ne _ _ hxn]
            cases hx' : upd objs h none x with
            | none => exact .inl rfl
            | some y => exact .inr ⟨y, y, hx', by show upd (upd objs h none) (nm d 0) _ x = some y; rw [upd_ne _ _ hxn]; exact hx', AO.like.refl y, by show upd φ _ _ x = φ x; rw [upd_ne _ _ hxn], fun b' o' _ => bsOf_setRow hcur (by simp; omega) b'⟩
        have hown := H.own h _ b o ho rfl hφ
        have H2 := H1.step (w' := w.setRow b (cur.toList.take (o + win.off * e.sz + n * e.sz) ++ encAll e ys ++ cur.toList.drop (o + win.off * e.sz + n * e.sz + (encAll e ys).length)).toArray) (nm d 0) ⟨false, .row e (win.view l ++ ys)⟩ (some b) hle2 rfl rfl rfl (by simp) (fun b' _ q => setRow_other w b b' _ (fun q' => q (by rw [q']))) (fun b' hb => by cases hb; exact hown) (fun b' e => by cases e; exact ⟨cur, _, T, hcur, setRow_heap w b cur _ T (0, 0) hcur, by simp; omega⟩) (fun _ => rfl)
          (fun x y hxn hy => by
            have hy' : upd (upd objs h none) (nm d 0) (some ⟨false, .row e (win.view l ++ ys)⟩) x = some y := hy
            rw [upd_ne _ _ hxn] at hy'
            refine ⟨hy', by show upd φ _ _ x = φ x; rw [upd_ne _ _ hxn], fun b' o' hb' q => ?_⟩
            cases q
            have hxh : x ≠ h := fun q => by rw [q, upd_same] at hy'; cases hy'
            rw [upd_ne _ _ hxh] at hy'
            have := (H.sep x h y _ b o' o hy' ho hb' hφ hxh).2
            cases this)
          (upd_same _ _ _) (upd_same _ _ _) (.inr ⟨b, _, upd_same _ _ _, fun k v hv => by
            rw [cell_setRow_same w b _ _ _ T (0, 0) hcur]
            rw [List.getElem?_toArray, splice_get _ _ _ _ (by simpa using hfit)]
            rw [encAll_append] at hv
            have hvl : (encAll e (win.view l)).length = n * e.sz := by rw [hlo, his]
            by_cases hkn : k < n * e.sz
            · rw [if_neg (by omega)]
              rw [List.getElem?_append_left (by omega)] at hv
              have := hread _ rfl k v hv
              rw [add_spot] at this
              simpa [World.cell?, hcur] using this
            · rw [List.getElem?_append_right (by omega)] at hv
              have hk2 := (List.getElem?_eq_some_iff.1 hv).1
              rw [if_pos ⟨by omega, by omega⟩]
              rw [← hv, hvl]
              congr 1
              omega, fun _ => ⟨_, T, setRow_heap w b cur _ T (0, 0) hcur, by
                have : (win.view l ++ ys).length * e.sz = n * e.sz + m * e.sz := by rw [List.length_append, ← hn, ← hm, Nat.add_mul]
                rw [this]
                simp
                omega⟩⟩)
          (fun b' o' hb' => by
            have hb'' : upd φ (nm d 0) (some (b, o + win.off * e.sz)) (nm d 0) = some (b', o') := hb'
            rw [upd_same] at hb''
            cases hb''
            refine ⟨by simpa using H.lt h _ b o ho hφ, fun x y o'' hxn hy hbb => ?_, fun _ => hown⟩
            have hy' : upd (upd objs h none) (nm d 0) (some ⟨false, .row e (win.view l ++ ys)⟩) x = some y := hy
            rw [upd_ne _ _ hxn] at hy'
            have hxh : x ≠ h := fun q => by rw [q, upd_same] at hy'; cases hy'
            rw [upd_ne _ _ hxh] at hy'
            have := (H.sep x h y _ b o'' o hy' ho hbb hφ hxh).2
            cases this)
        refine ⟨_, .slice (some ⟨b, o + win.off * e.sz, none⟩) (n + m) cap, _, upd φ (nm d 0) (some (b, o + win.off * e.sz)), by rw [Sem.run_bind, hrun]; rfl, .inl rfl, ?_, H2, hle1.trans hle2⟩
        refine ⟨upd_same _ _ _, ⟨_, _, _, rfl⟩, ?_⟩
        simp only [Ctx.slOk, wrObjs, upd_same]
        have ho0 : Win.off .all = 0 := rfl
        refine ⟨trivial, some ⟨b, o + win.off * e.sz, none⟩, cap, by simp [Win.len, ← hn, ← hm], by simp [Win.len, Win.off, ← hn, ← hm]; omega, hcm, .inr ⟨b, o + win.off * e.sz, rfl, by rw [ho0, Nat.zero_mul, Nat.add_zero], fun _ => ?_⟩⟩
        rw [show bsOf (w.setRow b (cur.toList.take (o + win.off * e.sz + n * e.sz) ++ encAll e ys ++ cur.toList.drop (o + win.off * e.sz + n * e.sz + (encAll e ys).length)).toArray) b = bsOf w b from
          bsOf_setRow hcur (by simp; omega) b, hbs]
        rw [ho0, Nat.zero_add]
        omega
  · -- a new array
    have hg' : cap < n + m := by omega
    have hrun := append_grow (P := P) (w := w) (rt := rt) (c2 := c2) ht hi hz hlo hread (fun q => by rw [hnil q]; rfl) hln hrn (fun q => by rw [hn0 q]; rfl) hg' (by omega) (.inr (by
      have := Nat.mul_le_mul (show n + m ≤ 4398046511104 by omega) hbytes
      omega))
    have hge := grownCap_ge w (n + m) cap u
    have hcap := grownCap_le_maxLen w (n + m) cap u (by unfold maxLen; omega)
    have Hd : Heap w0 W0 (G (upd objs h none) φ (upd seen h true) w.drew) w.drew := H1.drew
    have hled : (G (upd objs h none) φ (upd seen h true) w).le (G (upd objs h none) φ (upd seen h true) w.drew) := ⟨fun _ q => q, fun _ _ _ _ q => q, fun _ _ _ _ q => q, fun _ _ _ _ _ q => q⟩
    have hsize : ((encAll e (win.view l)).toArray ++ (encAll e ys).toArray ++ Builtin.zeroCells z.cells (grownCap w (n + m) cap u - (n + m))).size = grownCap w (n + m) cap u * e.sz := by
      simp only [Array.size_append, List.size_toArray, size_zeroCells, hzs, hlo, hln, his, ← Nat.add_mul]
      congr 1
      omega
    have hlen2 : (win.view l ++ ys).length = n + m := by rw [List.length_append, ← hn, ← hm]
    obtain ⟨q1, q2, q3⟩ := row_new (objs := upd objs h none) (seen := upd seen h true) Hd (m := nm d 0) (n := n + m) (cap := grownCap w (n + m) cap u) (T := u) (e := e) (l := win.view l ++ ys)
      (cur := (encAll e (win.view l)).toArray ++ (encAll e ys).toArray ++ Builtin.zeroCells z.cells (grownCap w (n + m) cap u - (n + m))) hs1 hlen2.symm hge hcap (by rw [hsize]; exact Nat.le_refl _)
      (fun k v hv => by
        have hk2 := (List.getElem?_eq_some_iff.1 hv).1
        rw [encAll_append] at hv
        rw [Array.getElem?_append_left (by
          rw [encAll_append] at hk2
          simpa using hk2)]
        simpa using hv)
    exact ⟨_, _, _, _, by rw [Sem.run_bind, hrun]; rfl, .inl rfl, q1, q2, (hle1.trans hled).trans q3⟩

end
end Go.Fx
