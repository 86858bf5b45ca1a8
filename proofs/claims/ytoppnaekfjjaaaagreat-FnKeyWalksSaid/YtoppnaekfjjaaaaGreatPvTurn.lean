/- Plain laws: free, barred and repainted mazes, and the fewest steps in them. -/
import Derived.Test.YtoppnaekfjjaaaaGreatPvSim
import Derived.Test.YtoppnaekfjjaaaaGreatPvChg
import Derived.Test.YtoppnaekfjjaaaaGreatPvPaint
import Derived.Test.YtoppnaekfjjaaaaGreatPvNum
set_option linter.unusedVariables false
set_option linter.unusedSimpArgs false
set_option autoImplicit false
namespace Go.Pv
open Go Go.Fx Go.Pf

section
variable {n : Nat} {N : Int} {ds : List Door} {ks : List Int}
/-- Needs and keys turned by g. -/
theorem vm_turn (h : VM N ds ks) {g : Int → Int} (hg : ∀ z : Int, 0 ≤ z → z ≤ 63 → 0 ≤ g z ∧ g z ≤ 63) : VM N (tidyL (ds.map (needD g))) (ks.map g) ∧ ∀ d ∈ ds, needD g d ∈ tidyL (ds.map (needD g)) := by
  have hid : ∀ d ∈ ds, nrm (needD g d) = needD g d := fun d hd => nrm_id (by
    have := h.door d hd
    show d.1 ≤ d.2.1
    omega)
  refine ⟨⟨h.n1, h.n2, ?_, by rw [List.length_map]; exact h.kl, ?_, lexS_at (tidyL_lex _), ?_⟩, fun d hd => tidyL_mem.2 ⟨_, List.mem_map.2 ⟨d, hd, rfl⟩, hid d hd⟩⟩
  · have := tidyL_len (ds.map (needD g))
    rw [List.length_map] at this
    exact Nat.le_trans this h.dl
  · intro e he
    obtain ⟨_, hm, rfl⟩ := tidyL_mem.1 he
    obtain ⟨d, hd, rfl⟩ := List.mem_map.1 hm
    have hr := h.door d hd
    have := hg d.2.2 hr.2.2.2.1 hr.2.2.2.2
    rw [hid d hd]
    exact ⟨hr.1, hr.2.1, hr.2.2.1, this.1, this.2⟩
  · intro k hk
    obtain ⟨k', hk', rfl⟩ := List.mem_map.1 hk
    have := h.keys k' hk'
    exact hg k' this.1 this.2
theorem turn_mem {g : Int → Int} (h : VM N ds ks) {e : Door} (he : e ∈ tidyL (ds.map (needD g))) : ∃ d ∈ ds, e = needD g d := by
  obtain ⟨_, hm, rfl⟩ := tidyL_mem.1 he
  obtain ⟨d, hd, rfl⟩ := List.mem_map.1 hm
  refine ⟨d, hd, nrm_id ?_⟩
  have := h.door d hd
  show d.1 ≤ d.2.1
  omega
theorem map_getD {g : Int → Int} {z : Nat} (hz : z < ks.length) : (ks.map g).getD z 0 = g (ks.getD z 0) := by
  rw [List.getD_eq_getElem?_getD, List.getElem?_map, List.getElem?_eq_getElem hz, List.getD_eq_getElem?_getD, List.getElem?_eq_getElem hz]
  rfl
open Classical in
theorem free_val (hn : 1048578 ≤ n) (h : VM N ds ks) {s : Int} (hs : setB s = true) : impl_FreeColours.F n N ds ks s = some (N, tidyL (ds.map (needD fun z => bitClr .i64 z s)), ks.map (fun z => bitClr .i64 z s), true) := by
  have hd := h.dl
  have h2 := h.n2
  have hkl := h.kl
  have hv : decide (VM N ds ks) = true := by simp [h]
  unfold impl_FreeColours.F
  rw [IsMaze_val (by omega), Option.bind_some, isSet_eq, Option.bind_some, hv, hs]
  simp only [Bool.not_true, Bool.false_eq_true, if_false]
  rw [ch_FreeColours (g := fun z => bitClr .i64 z s) hn (by omega) (by omega) (fun _ _ => rfl) (fun _ _ => rfl), Option.bind_some]
theorem clr_int {s : Int} (hs : 0 ≤ s ∧ s ≤ 63) {z : Int} (hz : 0 ≤ z ∧ z ≤ 63) : bitClr .i64 z s = ((clrN z.toNat s.toNat : Nat) : Int) ∧ clrN z.toNat s.toNat < 64 := by
  have p63 : (2 : Nat) ^ 63 = 9223372036854775808 := by decide
  have e1 : z = ((z.toNat : Nat) : Int) := by omega
  have e2 : s = ((s.toNat : Nat) : Int) := by omega
  refine ⟨?_, clrN_lt (by omega)⟩
  conv => lhs; rw [e1, e2]
  exact bitClr_nat (by omega) (by omega)
theorem clrN_bit' {a b : Nat} (ha : a < 64) (hb : b < 64) (i : Nat) : (clrN a b).testBit i = (a.testBit i && !b.testBit i) := by
  have p63 : (2 : Nat) ^ 63 = 9223372036854775808 := by decide
  exact clrN_bit (by omega) (by omega) i
/-- Free colours make no way longer. -/
theorem free_few (h : VM N ds ks) {s : Int} (hs : 0 ≤ s ∧ s ≤ 63) : VM N (tidyL (ds.map (needD fun z => bitClr .i64 z s))) (ks.map fun z => bitClr .i64 z s) ∧
    ∀ v v' : Int, IsFew N ds ks v → IsFew N (tidyL (ds.map (needD fun z => bitClr .i64 z s))) (ks.map fun z => bitClr .i64 z s) v' → 0 ≤ v → 0 ≤ v' ∧ v' ≤ v := by
  have hkl := h.kl
  obtain ⟨hv, hm⟩ := vm_turn h (g := fun z => bitClr .i64 z s) (fun z h1 h2 => by
    obtain ⟨e1, e2⟩ := clr_int hs ⟨h1, h2⟩
    show 0 ≤ bitClr .i64 z s ∧ bitClr .i64 z s ≤ 63
    omega)
  refine ⟨hv, fun v v' h1 h2 h3 => few_turn h hv (fun a => clrN a s.toNat) ?_ ?_ ?_ ?_ h1 h2 h3⟩
  · intro a b ha hb
    have hab : a ||| b < 64 := Nat.or_lt_two_pow (n := 6) ha hb
    apply Nat.eq_of_testBit_eq
    intro i
    show (clrN (a ||| b) s.toNat).testBit i = (clrN a s.toNat ||| clrN b s.toNat).testBit i
    rw [Nat.testBit_or, clrN_bit' hab (by omega), clrN_bit' ha (by omega), clrN_bit' hb (by omega), Nat.testBit_or]
    cases a.testBit i <;> cases b.testBit i <;> cases s.toNat.testBit i <;> rfl
  · intro a b ha hb hab i hi
    have hi' : (clrN a s.toNat).testBit i = true := hi
    show (clrN b s.toNat).testBit i = true
    rw [clrN_bit' ha (by omega), Bool.and_eq_true] at hi'
    rw [clrN_bit' hb (by omega), Bool.and_eq_true]
    exact ⟨hab i hi'.1, hi'.2⟩
  · intro d hd
    have hr := h.door d hd
    refine ⟨_, hm d hd, fun x y hj => hj, ?_⟩
    show (bitClr .i64 d.2.2 s).toNat = _
    rw [(clr_int hs ⟨hr.2.2.2.1, hr.2.2.2.2⟩).1]
    exact Int.toNat_natCast _
  · intro z hz
    have hzl : z < ks.length := by omega
    have hkr := h.keys _ (getD_mem (d := (0 : Int)) hzl)
    rw [map_getD hzl, (clr_int hs hkr).1]
    exact Int.toNat_natCast _
open Classical in
theorem bar_val (hn : 1048578 ≤ n) (h : VM N ds ks) {s : Int} (hs : setB s = true) : impl_BarColours.F n N ds ks s = some (N, ds.filter (fun d => !barP s d), ks.map (fun z => bitClr .i64 z s), true) := by
  have hd := h.dl
  have h2 := h.n2
  have hkl := h.kl
  have hv : decide (VM N ds ks) = true := by simp [h]
  unfold impl_BarColours.F
  rw [IsMaze_val (by omega), Option.bind_some, isSet_eq, Option.bind_some, hv, hs]
  simp only [Bool.not_true, Bool.false_eq_true, if_false]
  have e3 : slices_Clone_3_int_3_int.F n ds = some ds := by
    unfold slices_Clone_3_int_3_int.F
    rw [if_pos (by simp; omega)]
    rfl
  rw [ch_BarColours (g := fun z => bitClr .i64 z s) hn (by omega) (by omega) (fun _ _ => rfl) (fun _ _ => rfl), e3]
  simp only [Option.bind_some]
  rw [barDel_all hn (by omega)]
  rfl
/-- Barred colours make no way shorter. -/
theorem bar_few (h : VM N ds ks) {s : Int} (hs : 0 ≤ s ∧ s ≤ 63) : VM N (ds.filter fun d => !barP s d) (ks.map fun z => bitClr .i64 z s) ∧
    ∀ v v' : Int, IsFew N ds ks v → IsFew N (ds.filter fun d => !barP s d) (ks.map fun z => bitClr .i64 z s) v' → 0 ≤ v' → 0 ≤ v ∧ v ≤ v' := by
  have hkl := h.kl
  have hv : VM N (ds.filter fun d => !barP s d) (ks.map fun z => bitClr .i64 z s) := by
    refine ⟨h.n1, h.n2, Nat.le_trans (List.length_filter_le _ _) h.dl, by rw [List.length_map]; exact h.kl, fun d hd => h.door d (List.mem_filter.1 hd).1, lexS_at ((lexS_of h.sorted).filter _), fun k hk => ?_⟩
    obtain ⟨k', hk', rfl⟩ := List.mem_map.1 hk
    obtain ⟨e1, e2⟩ := clr_int hs (h.keys k' hk')
    omega
  refine ⟨hv, fun v v' h1 h2 h3 => few_less (ds' := ds.filter fun d => !barP s d) (ks' := ks.map fun z => bitClr .i64 z s) ⟨hv, h, fun d hd => (List.mem_filter.1 hd).1, fun x i hi => ?_⟩ h1 h2 h3⟩
  by_cases hx : x < ks.length
  · have hkr := h.keys _ (getD_mem (d := (0 : Int)) hx)
    rw [map_getD hx, (clr_int hs hkr).1, Int.toNat_natCast, clrN_bit' (by omega) (by omega), Bool.and_eq_true] at hi
    exact hi.1
  · rw [List.getD_eq_getElem?_getD, List.getElem?_eq_none (by simp; omega)] at hi
    simp at hi

/-! ### Repainted mazes -/
theorem paintN_bit {to : List Int} (i : Nat) : ∀ (l : List Int) (a : Nat), (paintN to l a).testBit i = true ↔ a.testBit i = true ∨ ∃ c ∈ l, (to.getD c.toNat 0).toNat = i
  | [], a => by simp [paintN]
  | c :: l, a => by
    have := paintN_bit (to := to) i l (a ||| 2 ^ (to.getD c.toNat 0).toNat)
    show (paintN to l (a ||| 2 ^ (to.getD c.toNat 0).toNat)).testBit i = true ↔ _
    rw [this, Nat.testBit_or, Bool.or_eq_true, Nat.testBit_two_pow, decide_eq_true_eq]
    simp only [List.mem_cons, exists_eq_or_imp, or_assoc]
/-- A set of colours, repainted. -/
def pn (to : List Int) (a : Nat) : Nat := paintN to (memL a) 0
theorem pn_bit {to : List Int} {a : Nat} (ha : a < 64) (i : Nat) : (pn to a).testBit i = true ↔ ∃ c : Nat, a.testBit c = true ∧ (to.getD c 0).toNat = i := by
  unfold pn
  rw [paintN_bit]
  simp only [Nat.zero_testBit, Bool.false_eq_true, false_or]
  constructor
  · rintro ⟨c, hc, e⟩
    obtain ⟨k, rfl, hk⟩ := (memL_mem (Nat.lt_of_lt_of_le ha (by decide))).1 hc
    exact ⟨k, hk, e⟩
  · rintro ⟨c, hc, e⟩
    exact ⟨(c : Int), (memL_mem (Nat.lt_of_lt_of_le ha (by decide))).2 ⟨c, rfl, hc⟩, e⟩
theorem bit_lt {a i : Nat} (ha : a < 64) (h : a.testBit i = true) : i < 6 := by
  rcases Nat.lt_or_ge i 6 with c | c
  · exact c
  · have : a < 2 ^ i := Nat.lt_of_lt_of_le ha (Nat.pow_le_pow_right (n := 2) (by decide) c)
    rw [Nat.testBit_lt_two_pow this] at h
    cases h
theorem ord_inj {to : List Int} (ho : Ord to 6) {a b : Nat} (ha : a < 6) (hb : b < 6) (h : (to.getD a 0).toNat = (to.getD b 0).toNat) : a = b := by
  have ht : to.length = 6 := by have := ho.2; omega
  have hr := ho.range (by omega)
  have r1 := hr _ (getD_mem (d := (0 : Int)) (l := to) (i := a) (by omega))
  have r2 := hr _ (getD_mem (d := (0 : Int)) (l := to) (i := b) (by omega))
  have hnd : to.Nodup := by
    have e := (sortI_up (l := to) (N := 6) (by omega)).2 ho
    have hp : (sortI to).Perm to := by unfold sortI; exact List.mergeSort_perm _ _
    refine hp.nodup_iff.1 ?_
    rw [e]
    decide
  have e : to.getD a 0 = to.getD b 0 := by omega
  rw [List.getD_eq_getElem?_getD, List.getD_eq_getElem?_getD, List.getElem?_eq_getElem (by omega), List.getElem?_eq_getElem (by omega)] at e
  exact (List.getElem_inj hnd).1 (by simpa using e)
theorem pn_or {to : List Int} {a b : Nat} (ha : a < 64) (hb : b < 64) : pn to (a ||| b) = pn to a ||| pn to b := by
  have hab : a ||| b < 64 := Nat.or_lt_two_pow (n := 6) ha hb
  have key : ∀ i, (pn to (a ||| b)).testBit i = true ↔ (pn to a ||| pn to b).testBit i = true := by
    intro i
    rw [Nat.testBit_or, Bool.or_eq_true, pn_bit hab, pn_bit ha, pn_bit hb]
    constructor
    · rintro ⟨c, hc, e⟩
      rw [Nat.testBit_or, Bool.or_eq_true] at hc
      rcases hc with hc | hc
      · exact .inl ⟨c, hc, e⟩
      · exact .inr ⟨c, hc, e⟩
    · rintro (⟨c, hc, e⟩ | ⟨c, hc, e⟩)
      · exact ⟨c, by rw [Nat.testBit_or, hc]; rfl, e⟩
      · exact ⟨c, by rw [Nat.testBit_or, hc, Bool.or_true], e⟩
  apply Nat.eq_of_testBit_eq
  intro i
  exact Bool.eq_iff_iff.2 (key i)
theorem pn_sub {to : List Int} {a b : Nat} (ha : a < 64) (hb : b < 64) (h : Sub a b) : Sub (pn to a) (pn to b) := fun i hi => by
  rw [pn_bit ha] at hi
  obtain ⟨c, hc, e⟩ := hi
  exact (pn_bit hb i).2 ⟨c, h c hc, e⟩
theorem pn_back {to : List Int} (ho : Ord to 6) {a b : Nat} (ha : a < 64) (hb : b < 64) (h : Sub (pn to a) (pn to b)) : Sub a b := fun i hi => by
  have h1 := h _ ((pn_bit ha (to.getD i 0).toNat).2 ⟨i, hi, rfl⟩)
  obtain ⟨c, hc, e⟩ := (pn_bit hb _).1 h1
  have := ord_inj ho (bit_lt hb hc) (bit_lt ha hi) e
  rw [← this]
  exact hc
theorem pn_lt {to : List Int} (ho : Ord to 6) (a : Nat) : pn to a < 64 := paintN_lt (ho.range (by omega)) _ _ (by decide)
/-- A repainted maze is won in as many steps. -/
theorem paint_few (h : VM N ds ks) {to : List Int} (ho : Ord to 6) : VM N (tidyL (ds.map (needD (paintG to)))) (ks.map (paintG to)) ∧
    ∀ v v' : Int, IsFew N ds ks v → IsFew N (tidyL (ds.map (needD (paintG to)))) (ks.map (paintG to)) v' → v = v' := by
  have hkl := h.kl
  have hG : ∀ z : Int, (paintG to z).toNat = pn to z.toNat := fun z => by unfold paintG pn; exact Int.toNat_natCast _
  obtain ⟨hv, hm⟩ := vm_turn h (g := paintG to) (fun z h1 h2 => by
    have := pn_lt ho z.toNat
    have e := hG z
    have : paintG to z = ((pn to z.toNat : Nat) : Int) := rfl
    omega)
  refine ⟨hv, fun v v' h1 h2 => ?_⟩
  have forth := few_turn h hv (pn to) (fun a b ha hb => pn_or ha hb) (fun a b ha hb hs => pn_sub ha hb hs) (fun d hd => ⟨_, hm d hd, fun x y hj => hj, hG d.2.2⟩) (fun z hz => by
    rw [map_getD (by omega)]
    exact hG _) h1 h2
  have back := few_map hv h (fun u u' => Sub u (pn to u')) (v := v') (v' := v) (by
    have hn := h.n1
    unfold k0
    rw [map_getD (by omega), hG]
    exact Sub.refl _) (fun u u' x y hu hu' hR hop => by
      obtain ⟨e, he, hj, hs⟩ := (open_iff hv hu).1 hop
      obtain ⟨d, hd, rfl⟩ := turn_mem h he
      have hr := h.door d hd
      refine (open_iff h hu').2 ⟨d, hd, hj, pn_back ho (by omega) hu' ?_⟩
      have : Sub (paintG to d.2.2).toNat u := hs
      rw [hG] at this
      exact this.trans hR) (fun u u' z hu hu' hz0 hzN hR => by
      have hzl : z.toNat < ks.length := by omega
      have hkr := h.keys _ (getD_mem (d := (0 : Int)) hzl)
      unfold setK
      rw [map_getD hzl, hG, pn_or hu' (by omega)]
      exact Sub.or_mono hR (Sub.refl _)) h2 h1
  rcases h1 with ⟨a1, _⟩ | ⟨a1, _⟩
  · obtain ⟨b1, b2⟩ := forth a1
    obtain ⟨c1, c2⟩ := back b1
    omega
  · rcases h2 with ⟨a2, _⟩ | ⟨a2, _⟩
    · obtain ⟨c1, c2⟩ := back a2
      omega
    · omega
end
end Go.Pv
