/- The reflective executor, part 17: drawn orders. -/
import Derived.Test.YtoppnaekfjjaaaaFw16
set_option linter.unusedVariables false
set_option linter.unusedSimpArgs false
set_option autoImplicit false
namespace Go.Fx
open Go

/-! ### 1. What is apart can change places -/
theorem St.ext' {s t : St} (h1 : ∀ i, s.slots i = t.slots i) (h2 : ∀ i, s.objs i = t.objs i) (h3 : ∀ i, s.seen i = t.seen i) : s = t := by
  cases s; cases t
  simp only [St.mk.injEq]
  exact ⟨funext h1, funext h2, funext h3⟩

theorem wrObjs_ne : ∀ (l : List (Nat × Option AO)) (f : Nat → Option AO) (h : Nat), h ∉ l.map (·.1) → wrObjs l f h = f h
  | [], f, h, _ => rfl
  | (k, a) :: l, f, h, hn => by
    simp only [List.map_cons, List.mem_cons, not_or] at hn
    simp only [wrObjs]
    rw [wrObjs_ne l _ h hn.2, upd_ne _ _ hn.1]
theorem wrObjs_in : ∀ (l : List (Nat × Option AO)) (f g : Nat → Option AO) (h : Nat), h ∈ l.map (·.1) → wrObjs l f h = wrObjs l g h
  | (k, a) :: l, f, g, h, hn => by
    simp only [wrObjs]
    by_cases hl : h ∈ l.map (·.1)
    · exact wrObjs_in l _ _ h hl
    · have hk : h = k := by
        simp only [List.map_cons, List.mem_cons] at hn
        exact hn.resolve_right hl
      subst hk
      rw [wrObjs_ne l _ h hl, wrObjs_ne l _ h hl, upd_same, upd_same]
theorem wrSeen_ne : ∀ (l : List (Nat × Option AO)) (f : Nat → Bool) (h : Nat), h ∉ l.map (·.1) → wrSeen l f h = f h
  | [], f, h, _ => rfl
  | (k, a) :: l, f, h, hn => by
    simp only [List.map_cons, List.mem_cons, not_or] at hn
    simp only [wrSeen]
    rw [wrSeen_ne l _ h hn.2, upd_ne _ _ hn.1]
theorem wrSeen_in : ∀ (l : List (Nat × Option AO)) (f g : Nat → Bool) (h : Nat), h ∈ l.map (·.1) → wrSeen l f h = wrSeen l g h
  | (k, a) :: l, f, g, h, hn => by
    simp only [wrSeen]
    by_cases hl : h ∈ l.map (·.1)
    · exact wrSeen_in l _ _ h hl
    · have hk : h = k := by
        simp only [List.map_cons, List.mem_cons] at hn
        exact hn.resolve_right hl
      subst hk
      rw [wrSeen_ne l _ h hl, wrSeen_ne l _ h hl, upd_same, upd_same]

theorem disj_spec {xs ys : List Nat} (h : disj xs ys = true) : ∀ x ∈ xs, ∀ y ∈ ys, x ≠ y := by
  intro x hx y hy
  have h1 := List.all_eq_true.1 (List.all_eq_true.1 h x hx) y hy
  intro e
  subst e
  simp at h1

structure Apart (x y : Rec) : Prop where
  dr : ∀ d, x.dst = some d → d ∉ y.reads
  dd : ∀ d, x.dst = some d → y.dst ≠ some d
  rd : ∀ d, y.dst = some d → d ∉ x.reads
  kt : ∀ h ∈ x.keys, h ∉ y.e.touch ∧ h ∉ y.keys
  tk : ∀ h ∈ y.keys, h ∉ x.e.touch

theorem apart_spec {x y : Rec} (h : x.apart y = true) : Apart x y := by
  simp only [Rec.apart, Bool.and_eq_true] at h
  obtain ⟨⟨⟨h1, h2⟩, h3⟩, h4⟩ := h
  have h1 := disj_spec h1
  have h2 := disj_spec h2
  have h3 := disj_spec h3
  have h4 := disj_spec h4
  refine ⟨?_, ?_, ?_, ?_, ?_⟩
  · intro d hd hm
    exact h1 d (by simp [hd]) d (by simp [hm]) rfl
  · intro d hd hm
    exact h1 d (by simp [hd]) d (by simp [hm]) rfl
  · intro d hd hm
    exact h2 d (by simp [hd]) d hm rfl
  · intro k hk
    exact ⟨fun hm => h3 k hk k (by simp [hm]) rfl, fun hm => h3 k hk k (by simp [hm]) rfl⟩
  · intro k hk hm
    exact h4 k hk k hm rfl

theorem apply_slots (r : Rec) (st : St) (i : Nat) : (r.apply st).slots i = if r.dst = some i then r.e.val else st.slots i := by
  unfold Rec.apply
  simp only
  cases h : r.dst with
  | none => simp
  | some d =>
    simp only [upd_eq]
    by_cases hi : i = d
    · simp [hi]
    · have : d ≠ i := fun e => hi e.symm
      simp [hi, this]

theorem apply_comm {x y : Rec} (h : Apart x y) (st : St) : x.apply (y.apply st) = y.apply (x.apply st) := by
  apply St.ext'
  · intro i
    simp only [apply_slots]
    by_cases h1 : x.dst = some i
    · rw [if_pos h1, if_neg (h.dd i h1), if_pos h1]
    · rw [if_neg h1, if_neg h1]
  · intro i
    show wrObjs x.e.wr (wrObjs y.e.wr st.objs) i = wrObjs y.e.wr (wrObjs x.e.wr st.objs) i
    by_cases h1 : i ∈ x.keys
    · have h2 := (h.kt i h1).2
      rw [wrObjs_ne y.e.wr _ i h2]
      exact wrObjs_in _ _ _ _ h1
    · rw [wrObjs_ne x.e.wr _ i h1]
      by_cases h2 : i ∈ y.keys
      · exact wrObjs_in _ _ _ _ h2
      · rw [wrObjs_ne y.e.wr _ i h2, wrObjs_ne y.e.wr _ i h2, wrObjs_ne x.e.wr _ i h1]
  · intro i
    show wrSeen x.e.wr (wrSeen y.e.wr st.seen) i = wrSeen y.e.wr (wrSeen x.e.wr st.seen) i
    by_cases h1 : i ∈ x.keys
    · have h2 := (h.kt i h1).2
      rw [wrSeen_ne y.e.wr _ i h2]
      exact wrSeen_in _ _ _ _ h1
    · rw [wrSeen_ne x.e.wr _ i h1]
      by_cases h2 : i ∈ y.keys
      · exact wrSeen_in _ _ _ _ h2
      · rw [wrSeen_ne y.e.wr _ i h2, wrSeen_ne y.e.wr _ i h2, wrSeen_ne x.e.wr _ i h1]

section
variable {ty : Ty} {N : Nat} {np : List Nat} {Φ : Nat → PFn} {ops : List Oper}

theorem guardOf_loc {o : Oper} {st st' : St} (h : ∀ t ∈ opReads ops o, st'.slots t = st.slots t) : guardOf ops o st' = guardOf ops o st := by
  unfold guardOf
  cases hg : o.guard with
  | none => rfl
  | some gw =>
    obtain ⟨j, want⟩ := gw
    simp only
    cases ht : (ops[j]?).bind (·.dst) with
    | none => rfl
    | some t =>
      simp only
      rw [h t (by simp [opReads, hg, ht])]

theorem stepA_dst {i : Nat} {st : St} {r : Rec} (h : stepA ty Φ N np ops i st = some r) : r.i = i ∧ ∃ o, ops[i]? = some o ∧ r.dst = o.dst ∧ r.reads = opReads ops o := by
  unfold stepA at h
  split at h
  · simp at h
  · rename_i o ho
    split at h
    · simp only [Option.some.injEq] at h; subst h; exact ⟨rfl, o, ho, rfl, rfl⟩
    · cases he : opK ty Φ (ev st.slots) st.objs st.seen (o.dst.getD N) o.op some with
      | none => simp [he] at h
      | some e =>
        rw [he, Option.bind_some] at h
        split at h
        · simp only [Option.some.injEq] at h; subst h; exact ⟨rfl, o, ho, rfl, rfl⟩
        · split at h
          · simp only [Option.some.injEq] at h; subst h; exact ⟨rfl, o, ho, rfl, rfl⟩
          · simp at h
    · simp at h

/-- A step is the same where all that it looks at is the same. -/
theorem stepA_loc (hΦ : ∀ g, (Φ g).Local) {i : Nat} {st st' : St} {r : Rec} (h : stepA ty Φ N np ops i st = some r) (h1 : ∀ t ∈ r.reads, st'.slots t = st.slots t)
    (h2 : ∀ k, k ∈ r.e.touch ++ r.keys → st'.objs k = st.objs k) (h3 : ∀ k, k ∈ r.keys → st'.seen k = st.seen k) : stepA ty Φ N np ops i st' = some r := by
  obtain ⟨_, o, ho, _, hr⟩ := stepA_dst h
  rw [hr] at h1
  unfold stepA at h ⊢
  rw [ho] at h ⊢
  simp only at h ⊢
  rw [guardOf_loc h1]
  split at h
  · exact h
  · rename_i hd hg
    cases he : opK ty Φ (ev st.slots) st.objs st.seen (o.dst.getD N) o.op some with
    | none => simp [he] at h
    | some e =>
      rw [he, Option.bind_some] at h
      have S : Same st.objs st'.objs st.seen st'.seen e := by
        split at h
        · simp only [Option.some.injEq] at h; subst h; exact ⟨h2, h3⟩
        · split at h
          · simp only [Option.some.injEq] at h; subst h; exact ⟨h2, h3⟩
          · simp at h
      have hops : ∀ x ∈ o.op.operands, ev st'.slots x = ev st.slots x := by
        intro x hx
        cases x with
        | tmp t => exact h1 t (by
            unfold opReads
            exact List.mem_append_left _ (List.mem_filterMap.2 ⟨.tmp t, by simpa using hx, rfl⟩))
        | _ => rfl
      rw [opK_loc hΦ hops he S, Option.bind_some]
      exact h
  · simp at h

theorem apply_same {x : Rec} {st : St} {r : Rec} (h : (∀ d, x.dst = some d → d ∉ r.reads) ∧ ∀ k ∈ x.keys, k ∉ r.e.touch ∧ k ∉ r.keys) :
    (∀ t ∈ r.reads, (x.apply st).slots t = st.slots t) ∧ (∀ k, k ∈ r.e.touch ++ r.keys → (x.apply st).objs k = st.objs k) ∧ (∀ k, k ∈ r.keys → (x.apply st).seen k = st.seen k) := by
  refine ⟨?_, ?_, ?_⟩
  · intro t ht
    rw [apply_slots]
    by_cases hx : x.dst = some t
    · exact absurd ht (h.1 t hx)
    · rw [if_neg hx]
  · intro k hk
    refine wrObjs_ne _ _ _ fun hm => ?_
    have := h.2 k hm
    rcases List.mem_append.1 hk with h1 | h1
    · exact this.1 h1
    · exact this.2 h1
  · intro k hk
    exact wrSeen_ne _ _ _ fun hm => (h.2 k hm).2 hk

theorem Apart.sym {x y : Rec} (h : Apart x y) : Apart y x :=
  ⟨h.rd, fun d hd e => h.dd d e hd, h.dr, fun k hk => ⟨h.tk k hk, fun hm => (h.kt k hm).2 hk⟩, fun k hk => (h.kt k hk).1⟩

/-- Two steps that are apart change places. -/
theorem swap (hΦ : ∀ g, (Φ g).Local) {i j : Nat} {st : St} {x y : Rec} (hx : stepA ty Φ N np ops i st = some x) (hy : stepA ty Φ N np ops j (x.apply st) = some y) (h : Apart x y) :
    stepA ty Φ N np ops j st = some y ∧ stepA ty Φ N np ops i (y.apply st) = some x := by
  have hy0 : stepA ty Φ N np ops j st = some y := by
    obtain ⟨a, b, c⟩ := apply_same (x := x) (st := st) (r := y) ⟨h.dr, h.kt⟩
    exact stepA_loc hΦ hy (fun t ht => (a t ht).symm) (fun k hk => (b k hk).symm) (fun k hk => (c k hk).symm)
  refine ⟨hy0, ?_⟩
  obtain ⟨a, b, c⟩ := apply_same (x := y) (st := st) (r := x) ⟨h.sym.dr, h.sym.kt⟩
  exact stepA_loc hΦ hx a b c

theorem runL_cons {i : Nat} {L : List Nat} {st : St} {rs : List Rec} {s : St} : runL ty Φ N np ops (i :: L) st = some (rs, s) ↔
    ∃ r rs1, stepA ty Φ N np ops i st = some r ∧ runL ty Φ N np ops L (r.apply st) = some (rs1, s) ∧ rs = r :: rs1 := by
  simp only [runL]
  constructor
  · intro h
    split at h
    · simp at h
    · rename_i r hr
      split at h
      · simp at h
      · rename_i rs1 s1 h1
        simp only [Option.some.injEq, Prod.mk.injEq] at h
        obtain ⟨rfl, rfl⟩ := h
        exact ⟨r, rs1, hr, h1, rfl⟩
  · rintro ⟨r, rs1, h1, h2, rfl⟩
    simp [h1, h2]

theorem runL_idx : ∀ {L : List Nat} {st : St} {rs : List Rec} {s : St}, runL ty Φ N np ops L st = some (rs, s) → rs.map (·.i) = L
  | [], st, rs, s, h => by
    simp only [runL, Option.some.injEq, Prod.mk.injEq] at h
    simp [h.1.symm]
  | i :: L, st, rs, s, h => by
    obtain ⟨r, rs1, h1, h2, rfl⟩ := runL_cons.1 h
    simp [(stepA_dst h1).1, runL_idx h2]

/-- The first step goes to its place. -/
theorem front (hΦ : ∀ g, (Φ g).Local) {i : Nat} : ∀ (L1 L2 : List Nat) (st : St) (x : Rec) (rs : List Rec) (s : St), stepA ty Φ N np ops i st = some x → runL ty Φ N np ops (L1 ++ L2) (x.apply st) = some (rs, s) →
    (∀ y ∈ rs, y.i ∈ L1 → Apart x y) → L2.all (fun l => !L1.contains l) = true → ∃ rs', runL ty Φ N np ops (L1 ++ i :: L2) st = some (rs', s) ∧ rs'.Perm (x :: rs)
  | [], L2, st, x, rs, s, hx, h, _, _ => ⟨x :: rs, runL_cons.2 ⟨x, rs, hx, h, rfl⟩, .refl _⟩
  | l :: L1, L2, st, x, rs, s, hx, h, hap, hd => by
    rw [List.cons_append] at h
    obtain ⟨y, rs1, h1, h2, rfl⟩ := runL_cons.1 h
    have hyi := (stepA_dst h1).1
    have hxy : Apart x y := hap y (by simp) (by simp [hyi])
    obtain ⟨k1, k2⟩ := swap hΦ hx h1 hxy
    rw [← apply_comm hxy] at h2
    obtain ⟨rs', q1, q2⟩ := front hΦ L1 L2 (y.apply st) x rs1 s k2 h2 (fun z hz hzi => hap z (by simp [hz]) (by simp [hzi]))
      (List.all_eq_true.2 fun l' hl' => by
        have := List.all_eq_true.1 hd l' hl'
        simp at this ⊢
        exact this.2)
    exact ⟨y :: rs', by rw [List.cons_append]; exact runL_cons.2 ⟨y, rs', k1, q1, rfl⟩, (List.Perm.cons y q2).trans (List.Perm.swap x y rs1)⟩

/-- Any order that keeps the binding edges does the same. -/
theorem runL_perm (hΦ : ∀ g, (Φ g).Local) (must : Nat → Nat → Prop) : ∀ (R : List Nat), R.Pairwise (· < ·) → ∀ (L : List Nat), L.Perm R → L.Pairwise (fun x y => ¬ must y x) →
    ∀ (st : St) (rs : List Rec) (s : St), runL ty Φ N np ops R st = some (rs, s) → (∀ x ∈ rs, ∀ y ∈ rs, x.i < y.i → must x.i y.i ∨ Apart x y) →
      ∃ rs', runL ty Φ N np ops L st = some (rs', s) ∧ rs'.Perm rs
  | [], _, L, hL, _, st, rs, s, h, _ => by
    have : L = [] := List.perm_nil.1 hL
    subst this
    exact ⟨rs, h, .refl _⟩
  | i :: R, hR, L, hL, hp, st, rs, s, h, hap => by
    obtain ⟨x, rs1, h1, h2, rfl⟩ := runL_cons.1 h
    have hi : i ∈ L := hL.symm.subset (by simp)
    obtain ⟨L1, L2, rfl⟩ := List.append_of_mem hi
    have hL' : (L1 ++ L2).Perm R := List.Perm.cons_inv (List.perm_middle.symm.trans hL)
    rw [List.pairwise_cons] at hR
    have hp' : (L1 ++ L2).Pairwise (fun x y => ¬ must y x) := hp.sublist (List.Sublist.append (List.Sublist.refl L1) (List.sublist_cons_self i L2))
    obtain ⟨rs2, q1, q2⟩ := runL_perm hΦ must R hR.2 (L1 ++ L2) hL' hp' (x.apply st) rs1 s h2 (fun a ha b hb hab => hap a (by simp [ha]) b (by simp [hb]) hab)
    have hxi := (stepA_dst h1).1
    have hnd : (L1 ++ L2).Nodup := hL'.nodup_iff.2 (hR.2.imp fun h => Nat.ne_of_lt h)
    obtain ⟨rs3, p1, p2⟩ := front hΦ L1 L2 st x rs2 s h1 q1 (fun y hy hyl => by
      have hyR : y.i ∈ R := hL'.subset (List.mem_append_left _ hyl)
      rcases hap x (by simp) y (List.mem_cons_of_mem _ (q2.subset hy)) (by rw [hxi]; exact hR.1 _ hyR) with hm | ha
      · rw [hxi] at hm
        have := (List.pairwise_append.1 hp).2.2 y.i hyl i (by simp)
        exact absurd hm this
      · exact ha)
      (List.all_eq_true.2 fun l hl => by
        have := (List.nodup_append.1 hnd).2.2
        simp only [Bool.not_eq_true', List.contains_eq_mem, decide_eq_false_iff_not]
        intro hm
        exact this l hm l hl rfl)
    exact ⟨rs3, p1, p2.trans (List.Perm.cons x q2)⟩
end

/-! ### 2. The orders that are drawn -/
def Pre (ops : Array Oper) (p x : Nat) : Prop := ∃ o, ops[x]? = some o ∧ ∃ e ∈ o.after, Region.binds .any e = true ∧ e.on = p
def Closed (pre : Nat → Nat → Prop) : List Nat → List Nat → Prop
  | _, [] => True
  | S, x :: L => x ∉ S ∧ (∀ p, pre p x → p ∈ S) ∧ Closed pre (x :: S) L

theorem closed_pairwise {pre must : Nat → Nat → Prop} (hm : ∀ y x, must y x → ∃ p, pre p x ∧ (y = p ∨ must y p)) : ∀ (L S : List Nat), Closed pre S L → (∀ x ∈ S, ∀ y, must y x → y ∈ S) →
    L.Pairwise (fun x y => ¬ must y x) ∧ L.Nodup ∧ ∀ y ∈ L, y ∉ S
  | [], S, _, _ => ⟨.nil, .nil, by simp⟩
  | x :: L, S, h, hS => by
    obtain ⟨h1, h2, h3⟩ := h
    have hx : ∀ y, must y x → y ∈ S := by
      intro y hy
      obtain ⟨p, hp, hyp⟩ := hm y x hy
      rcases hyp with rfl | hyp
      · exact h2 _ hp
      · exact hS p (h2 p hp) y hyp
    obtain ⟨q1, q2, q3⟩ := closed_pairwise hm L (x :: S) h3 (fun z hz y hy => by
      rcases List.mem_cons.1 hz with rfl | hz
      · exact List.mem_cons_of_mem _ (hx y hy)
      · exact List.mem_cons_of_mem _ (hS z hz y hy))
    refine ⟨List.pairwise_cons.2 ⟨fun y hy hmy => ?_, q1⟩, List.nodup_cons.2 ⟨fun hxl => q3 x hxl (by simp), q2⟩, ?_⟩
    · exact q3 y hy (List.mem_cons_of_mem _ (hx y hmy))
    · intro y hy
      rcases List.mem_cons.1 hy with rfl | hy
      · exact h1
      · exact fun hs => q3 y hy (List.mem_cons_of_mem _ hs)

theorem binds_any (m : Region.Mode) (e : Edge) (h : Region.binds .any e = true) : Region.binds m e = true := by
  unfold Region.binds at *
  split at h <;> simp_all

theorem go_closed (md : Region.Mode) (ops : Array Oper) : ∀ (fuel t : Nat) (listed : Array Bool) (S : List Nat), listed.size = ops.size → (∀ j, j < ops.size → (listed.getD j false = true ↔ j ∈ S)) → (∀ j ∈ S, j < ops.size) →
    Closed (Pre ops) S (Region.linearise.go md ops fuel t listed []) ∧ ∀ j ∈ Region.linearise.go md ops fuel t listed [], j < ops.size
  | 0, t, listed, S, hs, hl, hb => by simp [Region.linearise.go, Closed]
  | fuel + 1, t, listed, S, hs, hl, hb => by
    simp only [Region.linearise.go]
    change Closed (Pre ops) S (match (Region.ready md ops listed)[t % (Region.ready md ops listed).length]? with
      | some i => Region.linearise.go md ops fuel (t / (Region.ready md ops listed).length) (listed.setIfInBounds i true) [i]
      | none => [].reverse) ∧ ∀ j ∈ (match (Region.ready md ops listed)[t % (Region.ready md ops listed).length]? with
      | some i => Region.linearise.go md ops fuel (t / (Region.ready md ops listed).length) (listed.setIfInBounds i true) [i]
      | none => [].reverse), j < ops.size
    cases hi : (Region.ready md ops listed)[t % (Region.ready md ops listed).length]? with
    | none => simp [Closed]
    | some i =>
      simp only
      rw [linearise_go_acc]
      have hr := mem_ready.1 (List.mem_of_getElem? hi)
      obtain ⟨h0, o, ho, hall⟩ := hr
      have hlt : i < ops.size := (Array.getElem?_eq_some_iff.1 ho).1
      have hin : listed.getD i false = false := by
        have : i < listed.size := by omega
        simpa [this] using h0
      obtain ⟨c1, c2⟩ := go_closed md ops fuel (t / (Region.ready md ops listed).length) (listed.setIfInBounds i true) (i :: S) (by simpa using hs)
        (fun j hj => by
          by_cases hji : i = j
          · subst hji
            have : i < listed.size := by omega
            simp [this]
          · rw [getD_set_ne false hji, hl j hj]
            simp only [List.mem_cons]
            constructor
            · exact fun h => .inr h
            · rintro (h | h)
              · exact absurd h.symm hji
              · exact h)
        (fun j hj => by
          rcases List.mem_cons.1 hj with rfl | hj
          · exact hlt
          · exact hb j hj)
      refine ⟨⟨fun hS => ?_, ?_, c1⟩, ?_⟩
      · have := (hl i hlt).2 hS
        rw [hin] at this
        cases this
      · rintro p ⟨o', ho', e, he, hbe, rfl⟩
        rw [ho] at ho'
        cases ho'
        have hon := hall e he (binds_any md e hbe)
        have hlt' : e.on < ops.size := by
          rcases Nat.lt_or_ge e.on ops.size with h | h
          · exact h
          · have : listed.size ≤ e.on := by omega
            simp [this] at hon
        exact (hl e.on hlt').1 hon
      · intro j hj
        simp only [List.reverse_singleton, List.singleton_append, List.mem_cons] at hj
        rcases hj with rfl | hj
        · exact hlt
        · exact c2 j hj

theorem countP_lt {α : Type} {p p' : α → Bool} : ∀ {l : List α} {i : α}, (∀ j ∈ l, p' j = true → p j = true) → i ∈ l → p i = true → p' i = false → l.countP p' < l.countP p
  | x :: l, i, h, hi, h1, h2 => by
    have hle : l.countP p' ≤ l.countP p := List.countP_mono_left fun j hj hp => h j (List.mem_cons_of_mem _ hj) hp
    rw [List.countP_cons, List.countP_cons]
    rcases List.mem_cons.1 hi with rfl | hi
    · simp [h1, h2]
      omega
    · have := countP_lt (l := l) (fun j hj hp => h j (List.mem_cons_of_mem _ hj) hp) hi h1 h2
      by_cases hx : p' x = true
      · simp [hx, h x (by simp) hx, this]
      · by_cases hpx : p x = true
        · simp [hx, hpx]
          omega
        · simp [hx, hpx, this]

/-- An order that is stuck has all operations. -/
def Full (md : Region.Mode) (ops : Array Oper) : Prop := ∀ listed : Array Bool, listed.size = ops.size → Region.ready md ops listed = [] → ∀ j, j < ops.size → listed.getD j false = true

theorem go_full (md : Region.Mode) (ops : Array Oper) (hfull : Full md ops) : ∀ (fuel t : Nat) (listed : Array Bool), listed.size = ops.size →
    (List.range ops.size).countP (fun j => !listed.getD j false) ≤ fuel → ∀ j, j < ops.size → listed.getD j false = true ∨ j ∈ Region.linearise.go md ops fuel t listed []
  | 0, t, listed, hs, hc, j, hj => by
    left
    cases hq : listed.getD j false with
    | true => rfl
    | false =>
      have : 0 < (List.range ops.size).countP (fun j => !listed.getD j false) := List.countP_pos_iff.2 ⟨j, List.mem_range.2 hj, by simpa using hq⟩
      omega
  | fuel + 1, t, listed, hs, hc, j, hj => by
    simp only [Region.linearise.go]
    change listed.getD j false = true ∨ j ∈ (match (Region.ready md ops listed)[t % (Region.ready md ops listed).length]? with
      | some i => Region.linearise.go md ops fuel (t / (Region.ready md ops listed).length) (listed.setIfInBounds i true) [i]
      | none => [].reverse)
    cases hi : (Region.ready md ops listed)[t % (Region.ready md ops listed).length]? with
    | none =>
      left
      have hnil : Region.ready md ops listed = [] := by
        cases hr : Region.ready md ops listed with
        | nil => rfl
        | cons x xs =>
          rw [hr] at hi
          have hlt : t % (x :: xs).length < (x :: xs).length := Nat.mod_lt _ (by simp)
          simp at hi
          simp at hlt
          omega
      exact hfull listed hs hnil j hj
    | some i =>
      simp only
      rw [linearise_go_acc]
      obtain ⟨h0, o, ho, hall⟩ := mem_ready.1 (List.mem_of_getElem? hi)
      have hlt : i < ops.size := (Array.getElem?_eq_some_iff.1 ho).1
      have hil : i < listed.size := by omega
      have hin : listed.getD i false = false := by simpa [hil] using h0
      have hc' : (List.range ops.size).countP (fun j => !(listed.setIfInBounds i true).getD j false) ≤ fuel := by
        have := countP_lt (p := fun j => !listed.getD j false) (p' := fun j => !(listed.setIfInBounds i true).getD j false) (l := List.range ops.size) (i := i)
          (fun j hj hp => by
            by_cases hji : i = j
            · subst hji; simp [hil] at hp
            · rw [getD_set_ne false hji] at hp
              exact hp) (List.mem_range.2 hlt) (by simpa using hin) (by simp [hil])
        omega
      rcases go_full md ops hfull fuel (t / (Region.ready md ops listed).length) (listed.setIfInBounds i true) (by simpa using hs) hc' j hj with h | h
      · by_cases hji : i = j
        · subst hji
          right
          simp
        · left
          rwa [getD_set_ne false hji] at h
      · right
        simp [h]

theorem predBits_mem {m : Region.Mode} {e : Edge} : ∀ (es : List Edge) (s : Nat), (Nat.testBit s e.on = true ∨ (e ∈ es ∧ Region.binds m e = true)) →
    Nat.testBit (es.foldl (fun s e => match Region.binds m e with | true => Nat.lor s (2 ^ e.on) | false => s) s) e.on = true
  | [], s, h => by simpa using h
  | x :: es, s, h => by
    rw [List.foldl_cons]
    refine predBits_mem es _ ?_
    rcases h with h | ⟨h, hb⟩
    · left
      split
      · show Nat.testBit (s ||| 2 ^ x.on) e.on = true
        rw [Nat.testBit_or, h]
        rfl
      · exact h
    · rcases List.mem_cons.1 h with rfl | h
      · left
        rw [hb]
        show Nat.testBit (s ||| 2 ^ e.on) e.on = true
        rw [Nat.testBit_or, Nat.testBit_two_pow]
        simp
      · exact .inr ⟨h, hb⟩

theorem pickIx_spec {mask : Nat} : ∀ {ps : List Nat} {i j : Nat}, pickIx mask ps i = some j → ∃ p, i ≤ j ∧ ps[j - i]? = some p ∧ Nat.land p mask = p
  | [], i, j, h => by simp [pickIx] at h
  | p :: ps, i, j, h => by
    have step : pickIx mask ps (i + 1) = some j → ∃ q, i ≤ j ∧ (p :: ps)[j - i]? = some q ∧ Nat.land q mask = q := by
      intro h
      obtain ⟨q, h1, h2, h3⟩ := pickIx_spec h
      refine ⟨q, by omega, ?_, h3⟩
      have : j - i = (j - (i + 1)) + 1 := by omega
      rw [this, List.getElem?_cons_succ]
      exact h2
    simp only [pickIx] at h
    split at h
    · exact step h
    · split at h
      · rename_i hb
        simp only [Option.some.injEq] at h
        subst h
        exact ⟨p, Nat.le_refl _, by simp, Nat.eq_of_beq_eq_true hb⟩
      · exact step h

theorem fillUp_listed {md : Region.Mode} {ops : Array Oper} {ps : List Nat} (hps : ∀ (i p : Nat) (o : Oper), ops[i]? = some o → ps[i]? = some p → ∀ e ∈ o.after, Region.binds md e = true → Nat.testBit p e.on = true) (hlen : ps.length = ops.size)
    {listed : Array Bool} (hs : listed.size = ops.size) (hr : Region.ready md ops listed = []) : ∀ (n mask : Nat), (∀ j, Nat.testBit mask j = true → listed.getD j false = true) → ∀ j, Nat.testBit (fillUp ps n mask) j = true → listed.getD j false = true
  | 0, mask, hm, j, h => hm j h
  | n + 1, mask, hm, j, h => by
    simp only [fillUp] at h
    split at h
    · rename_i i hi
      refine fillUp_listed hps hlen hs hr n _ ?_ j h
      intro k hk
      have hk' : Nat.testBit (mask ||| 2 ^ i) k = true := hk
      rw [Nat.testBit_or, Nat.testBit_two_pow] at hk'
      simp only [Bool.or_eq_true, decide_eq_true_eq] at hk'
      rcases hk' with h1 | rfl
      · exact hm k h1
      · obtain ⟨p, _, h2, h3⟩ := pickIx_spec hi
        have hlt : i < ops.size := by
          have := (List.getElem?_eq_some_iff.1 h2).1
          omega
        cases hq : listed.getD i false with
        | true => rfl
        | false =>
          have hil : i < listed.size := by omega
          have : i ∈ Region.ready md ops listed := mem_ready.2 ⟨by simpa [hil] using hq, ops[i], by simp [hlt], fun e he hb => by
            have hb1 := hps i p ops[i] (by simp [hlt]) (by simpa using h2) e he hb
            refine hm e.on ?_
            have h3' : p &&& mask = p := h3
            rw [← h3', Nat.testBit_and] at hb1
            simp only [Bool.and_eq_true] at hb1
            exact hb1.2⟩
          rw [hr] at this
          cases this
    · exact hm j h

theorem ordersEnd_full {ops : Array Oper} (h : ordersEnd ops.toList = true) (md : Region.Mode) : Full md ops := by
  have key : ∀ m : Region.Mode, (∀ e, Region.binds md e = true → Region.binds m e = true) → Nat.beq (fillUp (ops.toList.map (predBits m)) ops.toList.length 0) (2 ^ ops.toList.length - 1) = true → Full md ops := by
    intro m hm hb listed hs hr j hj
    have he := Nat.eq_of_beq_eq_true hb
    refine fillUp_listed (md := md) (ps := ops.toList.map (predBits m)) ?_ (by simp) hs hr ops.toList.length 0 (by simp) j ?_
    · intro i p o ho hp e hme hbe
      rw [List.getElem?_map] at hp
      have ho' : ops.toList[i]? = some o := by simpa using ho
      rw [ho'] at hp
      simp only [Option.map_some, Option.some.injEq] at hp
      subst hp
      exact predBits_mem _ _ (.inr ⟨by simpa using hme, hm e hbe⟩)
    · rw [he, Nat.testBit_two_pow_sub_one]
      simpa using hj
  simp only [ordersEnd, Bool.and_eq_true] at h
  cases md with
  | text => exact key .text (fun _ h => h) h.1
  | gc => exact key .gc (fun _ h => h) h.2
  | any => exact key .text (fun e h => binds_any .text e h) h.1

theorem schedule_perm {mixed : Bool} {ops : Array Oper} (hfull : ∀ md, Full md ops) {must : Nat → Nat → Prop} (hm : ∀ y x, must y x → ∃ p, Pre ops p x ∧ (y = p ∨ must y p)) (t : Nat) :
    (Region.schedule mixed ops t).Perm (List.range ops.size) ∧ (Region.schedule mixed ops t).Pairwise (fun x y => ¬ must y x) := by
  have key : ∀ md t, (Region.linearise md ops t).Perm (List.range ops.size) ∧ (Region.linearise md ops t).Pairwise (fun x y => ¬ must y x) := by
    intro md t
    have hz : ∀ j, (Array.replicate ops.size false).getD j false = false := by
      intro j
      by_cases h : j < ops.size <;> simp [h]
    obtain ⟨c1, c2⟩ := go_closed md ops ops.size t (Array.replicate ops.size false) [] (by simp) (fun j _ => by rw [hz]; simp) (by simp)
    obtain ⟨p1, p2, _⟩ := closed_pairwise hm _ _ c1 (by simp)
    refine ⟨(List.perm_ext_iff_of_nodup p2 List.nodup_range).2 fun j => ⟨fun h => List.mem_range.2 (c2 j h), fun h => ?_⟩, p1⟩
    rcases go_full md ops (hfull md) ops.size t (Array.replicate ops.size false) (by simp) (by
      refine Nat.le_trans (List.countP_le_length) (by simp)) j (List.mem_range.1 h) with h1 | h1
    · rw [hz] at h1
      cases h1
    · exact h1
  unfold Region.schedule
  split
  · exact key _ _
  · exact key _ _

/-! ### 3. The table of the binding edges -/
def ancStep (acc : List Nat) (o : Oper) : Nat := o.after.toList.foldl (fun s e => match Region.binds .any e with | true => Nat.lor (Nat.lor s (2 ^ e.on)) (acc.getD e.on 0) | false => s) 0
theorem ancs_cons (o : Oper) (os : List Oper) (acc : List Nat) : ancs (o :: os) acc = ancs os (acc ++ [ancStep acc o]) := rfl
theorem ancs_prefix : ∀ (os : List Oper) (acc : List Nat), ∃ l, ancs os acc = acc ++ l
  | [], acc => ⟨[], by simp [ancs]⟩
  | o :: os, acc => by
    obtain ⟨l, hl⟩ := ancs_prefix os (acc ++ [ancStep acc o])
    exact ⟨ancStep acc o :: l, by rw [ancs_cons, hl]; simp⟩
theorem foldl_bits (acc : List Nat) (y : Nat) : ∀ (es : List Edge) (s : Nat), Nat.testBit (es.foldl (fun s e => match Region.binds .any e with | true => Nat.lor (Nat.lor s (2 ^ e.on)) (acc.getD e.on 0) | false => s) s) y = true →
    Nat.testBit s y = true ∨ ∃ e ∈ es, Region.binds .any e = true ∧ (y = e.on ∨ Nat.testBit (acc.getD e.on 0) y = true)
  | [], s, h => .inl h
  | e :: es, s, h => by
    rw [List.foldl_cons] at h
    rcases foldl_bits acc y es _ h with h1 | ⟨e', he', hb, hy⟩
    · cases hb : Region.binds .any e with
      | false => rw [hb] at h1; exact .inl h1
      | true =>
        rw [hb] at h1
        have h1' : Nat.testBit (s ||| 2 ^ e.on ||| acc.getD e.on 0) y = true := h1
        rw [Nat.testBit_or, Nat.testBit_or, Nat.testBit_two_pow] at h1'
        simp only [Bool.or_eq_true, decide_eq_true_eq] at h1'
        rcases h1' with (h | h) | h
        · exact .inl h
        · exact .inr ⟨e, by simp, hb, .inl h.symm⟩
        · exact .inr ⟨e, by simp, hb, .inr h⟩
    · exact .inr ⟨e', by simp [he'], hb, hy⟩
theorem ancs_spec (all : List Oper) : ∀ (os : List Oper) (acc : List Nat), all.drop acc.length = os → ∀ x, acc.length ≤ x → ∀ y, Nat.testBit ((ancs os acc).getD x 0) y = true →
    ∃ p, Pre all.toArray p x ∧ (y = p ∨ Nat.testBit ((ancs os acc).getD p 0) y = true)
  | [], acc, hd, x, hx, y, h => by
    have : (ancs [] acc).getD x 0 = 0 := by simp [ancs, hx]
    rw [this] at h
    simp at h
  | o :: os, acc, hd, x, hx, y, h => by
    have ho : all[acc.length]? = some o := by
      have := congrArg (fun l => l[0]?) hd
      simpa using this
    have hd' : all.drop (acc ++ [ancStep acc o]).length = os := by
      rw [List.length_append, List.length_singleton, ← List.drop_drop, hd]
      rfl
    rw [ancs_cons] at h ⊢
    by_cases hxx : x = acc.length
    · subst hxx
      obtain ⟨l, hl⟩ := ancs_prefix os (acc ++ [ancStep acc o])
      have e1 : (ancs os (acc ++ [ancStep acc o])).getD acc.length 0 = ancStep acc o := by
        rw [hl]
        simp
      rw [e1] at h
      rcases foldl_bits acc y _ _ h with h0 | ⟨e, he, hb, hy⟩
      · simp at h0
      · refine ⟨e.on, ⟨o, by simpa using ho, e, by simpa using he, hb, rfl⟩, ?_⟩
        rcases hy with hy | hy
        · exact .inl hy
        · right
          have hlt : e.on < acc.length := by
            rcases Nat.lt_or_ge e.on acc.length with h | h
            · exact h
            · have : acc.getD e.on 0 = 0 := by simp [h]
              rw [this] at hy
              simp at hy
          have e2 : (ancs os (acc ++ [ancStep acc o])).getD e.on 0 = acc.getD e.on 0 := by
            rw [hl]
            simp [List.getElem?_append_left hlt]
          rw [e2]
          exact hy
    · exact ancs_spec all os _ hd' x (by simp; omega) y h

/-! ### 4. Regions -/
section
variable {P : Program} {w0 : World} {W0 : Nat → Prop} {ty : Ty} {N : Nat} {np : List Nat} {pv : Nat → Option Value}
theorem Good.drew {st : St} {φ : Nat → Option (Nat × Nat)} {a : Act} {w : World} (g : Good w0 W0 N pv st φ a w) : Good w0 W0 N pv st φ a { w with drawn := w.drawn + 1 } :=
  ⟨g.defers, g.size, g.par, g.slot, g.heap.drew⟩

theorem region_wp {β : Type} {Φ : Nat → PFn} (hnp : ∀ i V, pv i = some V → i ∈ np) (hT : TyOk P ty) (hΦ : ∀ g, (Φ g).Ok P g) {id : Nat} {ops : Array Oper} {dr : Bool} {st : St} {x : β} {K : St → Option β} {Q : Exit → Act → World → Prop}
    (h : (regK ty Φ N np ops.toList ops.toList 0 st [] fun rs st' =>
      match dr with
      | false => K st'
      | true => match ordersEnd ops.toList && indep (ancs ops.toList []) rs with
        | true => K st'
        | false => none) = some x) {φ : Nat → Option (Nat × Nat)} {a : Act} {w : World} (good : Good w0 W0 N pv st φ a w)
    (hK : ∀ st' φ' a' w', K st' = some x → Good w0 W0 N pv st' φ' a' w' → Q .normal a' w') : (Code.region id ops dr).wp P Q a w := by
  obtain ⟨rs, st', h1, h2⟩ := regK_runL (fun g => (hΦ g).nat) ops.toList 0 st [] _ x (by simp) h
  have hr : List.range' 0 ops.toList.length = List.range ops.size := by simp [List.range_eq_range']
  rw [hr] at h1
  cases dr with
  | false =>
    refine wp_region ?_
    have := runL_wp (Q := Q) hnp hT hΦ _ st rs st' h1 φ a w good fun φ' a' w' g' => hK st' φ' a' w' h2 g'
    simpa using this
  | true =>
    simp only at h2
    split at h2
    · rename_i hc
      simp only [Bool.and_eq_true] at hc
      obtain ⟨hb, hi⟩ := hc
      refine wp_region_draw fun t => ?_
      have hm : ∀ y x, (fun y x => Nat.testBit ((ancs ops.toList []).getD x 0) y = true) y x → ∃ p, Pre ops p x ∧ (y = p ∨ (fun y x => Nat.testBit ((ancs ops.toList []).getD x 0) y = true) y p) := by
        intro y x hyx
        have := ancs_spec ops.toList ops.toList [] rfl x (by simp) y hyx
        simpa using this
      obtain ⟨p1, p2⟩ := schedule_perm (mixed := P.follows .mixedOrders) (ordersEnd_full hb) hm t
      obtain ⟨rs', q1, q2⟩ := runL_perm (fun g => (hΦ g).loc) _ (List.range ops.size) (by exact List.pairwise_lt_range) _ p1 p2 st rs st' h1 (by
        intro x hx y hy hxy
        have h0 : indep (ancs ops.toList []) (rs.reverse ++ []) = true := hi
        have := List.all_eq_true.1 (List.all_eq_true.1 h0 x (by simp [hx])) y (by simp [hy])
        simp only [Bool.or_eq_true] at this
        rcases this with (h | h) | h
        · have := Nat.le_of_ble_eq_true h
          omega
        · exact .inl h
        · exact .inr (apart_spec h))
      have := runL_wp (Q := Q) hnp hT hΦ _ st rs' st' q1 φ a _ good.drew fun φ' a' w' g' => hK st' φ' a' w' h2 g'
      simpa using this
    · simp at h2
end
end Go.Fx
