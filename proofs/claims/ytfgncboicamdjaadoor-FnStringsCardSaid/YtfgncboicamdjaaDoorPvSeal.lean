/- Plain laws: a changed byte breaks the check sum. -/
import Derived.Test.YtfgncboicamdjaaDoorPvParse
import Derived.Test.YtfgncboicamdjaaDoorPvSplit
set_option linter.unusedVariables false
set_option linter.unusedSimpArgs false
set_option autoImplicit false
namespace Go.Pv
open Go Go.Fx Go.Pf

theorem stepS_mod {s : Int} {b : UInt8} (h : 0 ≤ s ∧ s ≤ 999978) : stepS s b = (41 * s + (b.toNat : Int) + 1) % 999979 := by
  unfold stepS
  have hb : (b.toNat : Int) < 256 := by have := b.toNat_lt; omega
  rw [w64s (x := 41 * s) (by omega) (by omega), w64s (x := (b.toNat : Int)) (by omega) (by omega), w64s (x := 41 * s + (b.toNat : Int)) (by omega) (by omega), w64s (by omega) (by omega), Int.tmod_eq_emod_of_nonneg (by omega)]
theorem stepS_inj {s t : Int} {b : UInt8} (h : 0 ≤ s ∧ s ≤ 999978) (g : 0 ≤ t ∧ t ≤ 999978) (e : stepS s b = stepS t b) : s = t := by
  rw [stepS_mod h, stepS_mod g] at e
  omega
theorem stepS_byte {s : Int} {a b : UInt8} (h : 0 ≤ s ∧ s ≤ 999978) (e : stepS s a = stepS s b) : a = b := by
  rw [stepS_mod h, stepS_mod h] at e
  have h1 := a.toNat_lt
  have h2 := b.toNat_lt
  apply UInt8.toNat_inj.1
  omega
theorem sum_inj : ∀ (l : List UInt8) {s t : Int}, 0 ≤ s ∧ s ≤ 999978 → 0 ≤ t ∧ t ≤ 999978 → sumF s l = sumF t l → s = t
  | [], s, t, _, _, e => e
  | b :: l, s, t, h, g, e => stepS_inj h g (sum_inj l (stepS_range h) (stepS_range g) e)
theorem sum_set : ∀ (l : List UInt8) (k : Nat) (v : UInt8) {s : Int}, 0 ≤ s ∧ s ≤ 999978 → k < l.length → v ≠ l.getD k 0 → sumF s (l.set k v) ≠ sumF s l
  | [], k, v, s, _, hk, _ => by simp at hk
  | b :: l, 0, v, s, h, _, hv => by
    intro e
    have e' : sumF (stepS s v) l = sumF (stepS s b) l := e
    exact hv (stepS_byte h (sum_inj l (stepS_range h) (stepS_range h) e'))
  | b :: l, k + 1, v, s, h, hk, hv => by
    intro e
    exact sum_set l k v (stepS_range h) (by simpa using hk) (by simpa using hv) e
theorem hash_at {p E : List UInt8} (hp : 35 ∉ p) (hE : 35 ∉ E) (i : Nat) : (p ++ 35 :: E)[i]? = some 35 ↔ i = p.length := by
  constructor
  · intro h
    rcases Nat.lt_trichotomy i p.length with c | c | c
    · rw [List.getElem?_append_left c] at h
      exact absurd (List.mem_of_getElem? h) hp
    · exact c
    · rw [List.getElem?_append_right (by omega), show i - p.length = (i - p.length - 1) + 1 by omega, List.getElem?_cons_succ] at h
      exact absurd (List.mem_of_getElem? h) hE
  · rintro rfl
    simp
theorem itoa_free (l : List UInt8) : 35 ∉ Lib.itoa (sumF 7 l) := by
  have h7 := sum7 l
  unfold Lib.itoa
  rw [if_neg (by omega)]
  intro h
  have := (dec_digs (sumF 7 l).toNat).1 35 h
  have e : (35 : UInt8).toNat = 35 := rfl
  omega
theorem seal_broken {x p : List UInt8} (hx : 35 ∉ x) (hp : 35 ∉ p) {k : Nat} {v : UInt8} (hk : k < (sealF x).length) (hv : v ≠ (sealF x).getD k 0) : (sealF x).set k v ≠ sealF p := by
  intro h
  have qx := hash_at hx (itoa_free x)
  have qp := hash_at hp (itoa_free p)
  have gx : ∀ i, i ≠ k → (sealF p)[i]? = (sealF x)[i]? := by
    intro i hi
    rw [← h, List.getElem?_set_ne (Ne.symm hi)]
  have gk : (sealF p)[k]? = some v := by rw [← h, List.getElem?_set_self hk]
  by_cases c : k = x.length
  · have hv35 : (sealF x).getD k 0 = 35 := by
      have := (qx k).2 c
      show ((sealF x)[k]?).getD 0 = 35
      unfold sealF
      rw [this]
      rfl
    have hpl := (qp p.length).2 rfl
    by_cases d : p.length = k
    · have : (sealF p)[p.length]? = some 35 := hpl
      rw [d, gk] at this
      cases this
      exact hv hv35.symm
    · have : (sealF p)[p.length]? = some 35 := hpl
      rw [gx _ d] at this
      have := (qx p.length).1 this
      omega
  · have hxl : (sealF x)[x.length]? = some 35 := (qx x.length).2 rfl
    rw [← gx x.length (fun e => c e.symm)] at hxl
    have hl : x.length = p.length := (qp x.length).1 hxl
    have hx1 : sealF x = x ++ 35 :: Lib.itoa (sumF 7 x) := rfl
    have hp1 : sealF p = p ++ 35 :: Lib.itoa (sumF 7 p) := rfl
    rcases Nat.lt_or_gt_of_ne c with c | c
    · rw [hx1, List.set_append_left _ _ c, hp1] at h
      obtain ⟨h1, h2⟩ := List.append_inj h (by simp [hl])
      simp only [List.cons.injEq, true_and] at h2
      have s1 := sum7 x
      have s2 := sum7 p
      have e := itoa_inj (by omega) (by omega) h2
      rw [← h1] at e
      refine sum_set x k v (s := 7) (by omega) c ?_ e.symm
      intro e2
      apply hv
      rw [e2, hx1]
      simp only [List.getD_eq_getElem?_getD]
      rw [List.getElem?_append_left c]
    · have hpx : p = x := by
        have h' := h
        rw [hx1, List.set_append_right _ _ (by omega), hp1] at h'
        exact (List.append_inj h' hl).1.symm
      rw [hpx] at gk
      apply hv
      simp only [List.getD_eq_getElem?_getD]
      rw [gk]
      rfl

/-- What is told of a text with a seal. -/
def headF (s : ByteArray) : ByteArray := ⟨((by_ s).takeWhile fun b => b != 35).toArray⟩
theorem implVerify_val {n : Nat} (hn : 1048600 ≤ n) {s : ByteArray} (hs : s.size ≤ 1048576) : impl_VerifyChecksum.F n s = some (if (appF (headF s)).2 = true ∧ (appF (headF s)).1 = s then (headF s, true) else (ByteArray.empty, false)) := by
  have hle : (headF s).size ≤ s.size := by
    rw [by_size, by_size]
    exact (List.takeWhile_sublist _).length_le
  have hcut : strCut.F n s (⟨#[35]⟩ : ByteArray) = some (headF s, ⟨(Lib.cut (by_ s) [35]).2.1.toArray⟩, (Lib.cut (by_ s) [35]).2.2) := by
    unfold strCut.F
    rw [if_pos (by omega)]
    show some ((⟨(Lib.cut (by_ s) [35]).1.toArray⟩ : ByteArray), _, _) = _
    rw [cut_one]
    rfl
  unfold impl_VerifyChecksum.F
  rw [hcut, Option.bind_some]
  show (impl_AppendChecksum.F n (headF s)).bind _ = _
  rw [implAppend_val (by omega) hn, Option.bind_some]
  by_cases c1 : (appF (headF s)).2 = true
  · rw [if_neg (by simp [c1]), eq_bytes]
    by_cases c2 : (appF (headF s)).1 = s
    · rw [if_neg (by simp [c2]), if_pos ⟨c1, c2⟩]
    · rw [if_pos (by simp [c2]), if_neg (fun h => c2 h.2)]
  · rw [if_pos (by simpa using c1), if_neg (fun h => c1 h.1)]
theorem takeW (x E : List UInt8) (hx : 35 ∉ x) : (x ++ 35 :: E).takeWhile (fun b => b != 35) = x := by
  induction x with
  | nil => simp
  | cons b x ih =>
    have hb : b ≠ 35 := fun e => hx (by simp [e])
    rw [List.cons_append, List.takeWhile_cons, if_pos (by simpa using hb), ih (fun h => hx (List.mem_cons_of_mem _ h))]
theorem appF_true {s : ByteArray} (h : (appF s).2 = true) : 35 ∉ by_ s ∧ (appF s).1 = ⟨(sealF (by_ s)).toArray⟩ ∧ s.size ≤ 4000 ∧ (sealF (by_ s)).length ≤ 4000 := by
  unfold appF at h ⊢
  split at h
  · cases h
  · rename_i c
    simp only [not_or] at c
    rw [if_neg (by simp only [not_or]; exact c)]
    exact ⟨c.2.1, rfl, by omega, by omega⟩
/-- A sealed text stands. -/
theorem verify_sealed {n : Nat} (hn : 1048600 ≤ n) {x : ByteArray} (h : (appF x).2 = true) : impl_VerifyChecksum.F n (appF x).1 = some (x, true) := by
  obtain ⟨h1, h2, h3, h4⟩ := appF_true h
  have hh : headF (appF x).1 = x := by
    apply ba_ext
    rw [h2]
    show by_ (⟨((by_ ⟨(sealF (by_ x)).toArray⟩).takeWhile fun b => b != 35).toArray⟩ : ByteArray) = _
    rw [by_mk, by_mk]
    exact takeW _ _ h1
  rw [implVerify_val hn (by rw [h2, size_mk (sealF _)]; omega), hh, if_pos ⟨h, rfl⟩]
/-- A sealed text with one other byte does not. -/
theorem verify_broken {n : Nat} (hn : 1048600 ≤ n) {x t : ByteArray} (h : (appF x).2 = true) {k : Nat} {v : UInt8} (hk : k < (appF x).1.size) (hv : v ≠ (by_ (appF x).1).getD k 0) (ht : by_ t = (by_ (appF x).1).set k v) :
    ∃ r, impl_VerifyChecksum.F n t = some r ∧ r.2 = false := by
  obtain ⟨h1, h2, h3, h4⟩ := appF_true h
  have hy : by_ (appF x).1 = sealF (by_ x) := by rw [h2, by_mk]
  rw [by_size, hy] at hk
  rw [hy] at hv ht
  have hts : t.size ≤ 4000 := by rw [by_size, ht, List.length_set]; exact h4
  refine ⟨_, implVerify_val hn (by omega), ?_⟩
  split
  · rename_i c
    obtain ⟨g1, g2, _, _⟩ := appF_true c.1
    exfalso
    have e : by_ t = sealF (by_ (headF t)) := by
      have e := congrArg by_ c.2
      rw [g2, by_mk] at e
      exact e.symm
    exact seal_broken h1 g1 hk hv (ht.symm.trans e)
  · rfl
end Go.Pv
