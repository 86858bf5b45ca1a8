/- The plain law of FnStrings. -/
import Derived.Test.YtfgncboicamdjaaDoorPvSeal
import Derived.Test.YtfgncboicamdjaaDoorPvMText
set_option linter.unusedVariables false
set_option linter.unusedSimpArgs false
set_option autoImplicit false
namespace Go.Pv
open Go Go.Fx Go.Pf

/-! ### Numbers as texts, both ways -/
def fmtF (x : Int) : ByteArray × Bool := if -999999 ≤ x ∧ x ≤ 999999 then (itoaB x, true) else (ByteArray.empty, false)
theorem specFormat_val {n : Nat} (hn : 20 ≤ n) (x : Int) : spec_FormatInt.F n x = some (fmtF x) := by
  unfold spec_FormatInt.F fmtF
  rw [in_val, Option.bind_some]
  by_cases c : -999999 ≤ x ∧ x ≤ 999999
  · rw [if_neg (by simp [c]), num_B hn c, if_pos c]
    rfl
  · rw [if_pos (by simp; omega), if_neg c]
theorem implFormat_val {n : Nat} (x : Int) : impl_FormatInt.F n x = some (fmtF x) := by
  unfold impl_FormatInt.F fmtF
  by_cases c1 : x < -999999
  · rw [if_pos (by simpa using c1), if_neg (by omega)]
  · rw [if_neg (by simpa using c1)]
    by_cases c2 : x > 999999
    · rw [if_pos (by simpa using c2), if_neg (by omega)]
    · rw [if_neg (by simpa using c2), itoa_B (by omega), if_pos (by omega)]
      rfl
theorem specParse_val {n : Nat} (hn : 100 ≤ n) {s : ByteArray} (hs : s.size ≤ 1048576) : ∃ r, spec_ParseInt.F n s = some r ∧ strParse.F n s = some r := by
  unfold spec_ParseInt.F
  rw [read_eq hn hs]
  cases h : strParse.F n s with
  | none =>
    exfalso
    unfold strParse.F at h
    rw [if_pos hs] at h
    cases h
  | some r => exact ⟨r, rfl, rfl⟩

/-! ### What is drawn -/
section
variable {n : Nat} {cd : List Int}
theorem drawFormat_ok (hb : Bytes cd) : ∃ x, spec_DrawFormatInt.F n cd = some x := by
  unfold spec_DrawFormatInt.F
  obtain ⟨a1, s1, v1, e1, h1, h2, h3⟩ := pick_ok (n := n) (s := 0) hb (Int.le_refl 0) (by omega) 1000
  rw [e1, Option.bind_some]
  obtain ⟨a2, s2, v2, e2, _⟩ := among_ok (n := n) (s := s1) (a := a1) hb (by omega) (by omega) (l := [(0 : Int), (1 : Int), (-1 : Int), (10 : Int), (999999 : Int), (-999999 : Int), (1000000 : Int), (-1000000 : Int), IntKind.wrap .i64 (v1 - (500 : Int))]) (by simp)
  simp only [e2, Option.bind_some]
  exact ⟨_, rfl⟩
theorem drawParse_ok (hn : 20 ≤ n) (hb : Bytes cd) : ∃ x, spec_DrawParseInt.F n cd = some x ∧ x.size ≤ 1048576 := by
  unfold spec_DrawParseInt.F
  obtain ⟨a1, s1, v1, e1, h1, h2, h3⟩ := one_ok (n := n) (s := 0) hb (Int.le_refl 0) (by omega) 2
  rw [e1, Option.bind_some]
  by_cases c : v1 = true
  · obtain ⟨a2, s2, v2, e2, _, _, h4⟩ := of_ok (n := n) (s := s1) (a := a1) hb (by omega) (by omega) (l := [ByteArray.empty, (⟨#[45]⟩ : ByteArray), (⟨#[45, 48]⟩ : ByteArray), (⟨#[48, 48]⟩ : ByteArray), (⟨#[48, 49]⟩ : ByteArray), (⟨#[45, 45, 49]⟩ : ByteArray), (⟨#[49, 120]⟩ : ByteArray), (⟨#[57, 57, 57, 57, 57, 57]⟩ : ByteArray), (⟨#[49, 48, 48, 48, 48, 48, 48]⟩ : ByteArray), (⟨#[45, 57, 57, 57, 57, 57, 57]⟩ : ByteArray), (⟨#[49, 56, 52, 52, 54, 55, 52, 52, 48, 55, 51, 55, 48, 57, 53, 53, 49, 54, 49, 55]⟩ : ByteArray)]) (by simp)
    rw [if_pos c]
    simp only [e2, Option.bind_some]
    refine ⟨v2, rfl, ?_⟩
    have hall : ∀ x ∈ [ByteArray.empty, (⟨#[45]⟩ : ByteArray), (⟨#[45, 48]⟩ : ByteArray), (⟨#[48, 48]⟩ : ByteArray), (⟨#[48, 49]⟩ : ByteArray), (⟨#[45, 45, 49]⟩ : ByteArray), (⟨#[49, 120]⟩ : ByteArray), (⟨#[57, 57, 57, 57, 57, 57]⟩ : ByteArray), (⟨#[49, 48, 48, 48, 48, 48, 48]⟩ : ByteArray), (⟨#[45, 57, 57, 57, 57, 57, 57]⟩ : ByteArray), (⟨#[49, 56, 52, 52, 54, 55, 52, 52, 48, 55, 51, 55, 48, 57, 53, 53, 49, 54, 49, 55]⟩ : ByteArray)], x.size ≤ 1048576 := by
      intro x hx
      simp only [List.mem_cons, List.mem_nil_iff, or_false] at hx
      rcases hx with rfl | rfl | rfl | rfl | rfl | rfl | rfl | rfl | rfl | rfl | rfl <;> decide
    exact hall v2 h4
  · rw [if_neg c]
    obtain ⟨a2, s2, v2, e2, _, _, h4⟩ := pick_ok (n := n) (s := s1) (a := a1) hb (by omega) (by omega) 2000
    simp only [e2, Option.bind_some]
    have hv : 0 ≤ v2 ∧ v2 < 2000 := ⟨h4.1, h4.2.1 (by omega)⟩
    rw [w64 (by omega) (by omega), num_B hn (by omega), Option.bind_some]
    refine ⟨_, rfl, ?_⟩
    have := itoa_len (x := v2 - 1000) (by omega)
    rw [itoaB_size]
    omega
theorem drawAppend_ok (hb : Bytes cd) : ∃ x, spec_DrawAppendChecksum.F n cd = some x ∧ x.size ≤ 1048576 := by
  unfold spec_DrawAppendChecksum.F
  obtain ⟨a1, s1, v1, e1, h1, h2, h3⟩ := one_ok (n := n) (s := 0) hb (Int.le_refl 0) (by omega) 20
  rw [e1, Option.bind_some]
  by_cases c : v1 = true
  · rw [if_pos c]
    obtain ⟨a2, s2, v2, e2, _, _, h4⟩ := pick_ok (n := n) (s := s1) (a := a1) hb (by omega) (by omega) 10
    simp only [e2, Option.bind_some]
    have hv : 0 ≤ v2 ∧ v2 < 10 := ⟨h4.1, h4.2.1 (by omega)⟩
    rw [w64s (x := 3990 + v2) (by omega) (by omega), if_pos ⟨by omega, by omega, by omega⟩]
    refine ⟨_, rfl, ?_⟩
    rw [strOfInts_size, List.length_replicate]
    omega
  · rw [if_neg c]
    obtain ⟨a2, s2, v2, e2, _, _, h4⟩ := any1_ok (n := n) (s := s1) (a := a1) hb (by omega) (by omega)
    simp only [e2, Option.bind_some]
    exact ⟨v2, rfl, by omega⟩
theorem vAt_ok (hl : cd.length ≤ 65536) (hb : Bytes cd) {i : Int} (h0 : 0 ≤ i) (h1 : i ≤ 100) : ∃ v, laws_vAt.F n cd i = some v ∧ 0 ≤ v ∧ v ≤ 255 := by
  unfold laws_vAt.F
  by_cases c : i < (cd.length : Int)
  · rw [if_pos (by simpa using c), if_pos ⟨h0, c⟩]
    have hm : cd.getD i.toNat 0 ∈ cd := getD_mem (by omega)
    have hv := hb _ hm
    rw [w64 (by omega) (by omega)]
    exact ⟨_, rfl, hv.1, hv.2⟩
  · rw [if_neg (by simpa using c), w64s (x := i * 7) (by omega) (by omega), w64s (by omega) (by omega), Int.tmod_eq_emod_of_nonneg (by omega)]
    exact ⟨_, rfl, by omega, by omega⟩
end

/-! ### A byte is changed -/
theorem u8_small {x : Int} (h : 0 ≤ x ∧ x ≤ 255) : IntKind.wrap .u8 x = x := by
  have e : x % 256 = x := by omega
  simp [IntKind.wrap, IntKind.signed, IntKind.bits, e]
theorem xor_byte {a d : Int} (ha : 0 ≤ a ∧ a ≤ 255) (hd : 1 ≤ d ∧ d ≤ 255) : 0 ≤ bitXor .u8 a d ∧ bitXor .u8 a d ≤ 255 ∧ bitXor .u8 a d ≠ a := by
  unfold bitXor
  have hb : IntKind.bits .u8 = 8 := rfl
  have hw : ∀ x : BitVec 8, IntKind.wrap .u8 (x.toNat : Int) = (x.toNat : Int) := by
    intro x
    have := x.isLt
    exact u8_small (by omega)
  show 0 ≤ IntKind.wrap .u8 (((BitVec.ofInt 8 a ^^^ BitVec.ofInt 8 d).toNat : Nat) : Int) ∧ IntKind.wrap .u8 (((BitVec.ofInt 8 a ^^^ BitVec.ofInt 8 d).toNat : Nat) : Int) ≤ 255 ∧ IntKind.wrap .u8 (((BitVec.ofInt 8 a ^^^ BitVec.ofInt 8 d).toNat : Nat) : Int) ≠ a
  rw [hw]
  have hlt := (BitVec.ofInt 8 a ^^^ BitVec.ofInt 8 d).isLt
  refine ⟨by omega, by omega, fun e => ?_⟩
  have ea : ((BitVec.ofInt 8 a).toNat : Int) = a := by rw [BitVec.toNat_ofInt]; omega
  have ed : ((BitVec.ofInt 8 d).toNat : Int) = d := by rw [BitVec.toNat_ofInt]; omega
  have e2 : BitVec.ofInt 8 a ^^^ BitVec.ofInt 8 d = BitVec.ofInt 8 a := by
    apply BitVec.eq_of_toNat_eq
    omega
  have e3 : BitVec.ofInt 8 d = 0#8 := by
    have : BitVec.ofInt 8 a ^^^ (BitVec.ofInt 8 a ^^^ BitVec.ofInt 8 d) = BitVec.ofInt 8 d := by
      rw [← BitVec.xor_assoc, BitVec.xor_self, BitVec.zero_xor]
    rw [e2, BitVec.xor_self] at this
    exact this.symm
  rw [e3] at ed
  simp at ed
  omega
theorem changed_bytes (y : ByteArray) (k : Nat) (v : Int) (hv : 0 ≤ v ∧ v ≤ 255) : by_ (strOfInts ((intsOfStr y).set k v)) = (by_ y).set k (UInt8.ofNat v.toNat) := by
  show (((y.data.toList.map fun b => (b.toNat : Int)).set k v).map fun n => UInt8.ofNat n.toNat) = y.data.toList.set k (UInt8.ofNat v.toNat)
  rw [List.map_set, List.map_map]
  congr 1
  conv => rhs; rw [← List.map_id y.data.toList]
  apply List.map_congr_left
  intro b _
  simp

theorem lawStrings (cd : List Int) (hw : ∀ x ∈ cd, (Lit.int .u8 x).wf = true) : ∃ n, laws_FnStrings.F n cd = some true := by
  refine ⟨1048600, ?_⟩
  have hb : Bytes cd := fun x hx => by
    have := hw x hx
    simp [Lit.wf, IntKind.min, IntKind.max, IntKind.signed, IntKind.bits] at this
    omega
  unfold laws_FnStrings.F laws_vBig.F
  rw [Option.bind_some]
  by_cases c0 : cd.length > 65536
  · rw [if_pos (by simp; omega)]
  rw [if_neg (by simp; omega)]
  obtain ⟨x, hx⟩ := drawFormat_ok (n := 1048600) hb
  obtain ⟨t, ht, hts⟩ := drawParse_ok (n := 1048600) (by omega) hb
  obtain ⟨r, hr1, hr2⟩ := specParse_val (n := 1048600) (by omega) hts
  obtain ⟨z, hz, hzs⟩ := drawAppend_ok (n := 1048600) hb
  rw [hx, Option.bind_some, implFormat_val, Option.bind_some, specFormat_val (by omega), Option.bind_some, ht, Option.bind_some, hr2, Option.bind_some]
  unfold laws_FnStrings.c8
  rw [hr1, Option.bind_some, hz, Option.bind_some, implAppend_val hzs (by omega), Option.bind_some, specAppend_val hzs (by omega), Option.bind_some]
  have hself : ∀ s : ByteArray, (!(s.toList == s.toList)) = false := fun s => by rw [eq_bytes]; simp
  rw [hself, if_neg (by simp), if_neg (by simp), if_neg (by simp), if_neg (by simp), hself, if_neg (by simp), if_neg (by simp)]
  unfold laws_FnStrings.c14
  have h17 : laws_FnStrings.c17 1048600 cd z (appF z).1 (appF z).2 = some true := by
    unfold laws_FnStrings.c17
    by_cases c1 : (appF z).2 = true
    · rw [if_neg (by simp [c1]), verify_sealed (by omega) c1, Option.bind_some]
      obtain ⟨u, hu, u1, u2⟩ := vAt_ok (n := 1048600) (cd := cd) (i := 9) (by omega) hb (by omega) (by omega)
      obtain ⟨v, hv, v1, v2⟩ := vAt_ok (n := 1048600) (cd := cd) (i := 10) (by omega) hb (by omega) (by omega)
      obtain ⟨g1, g2, g3, g4⟩ := appF_true c1
      have hlen : (intsOfStr (appF z).1).length = (appF z).1.size := by simp [intsOfStr]
      have hpos : 0 < (appF z).1.size := by
        rw [g2, size_mk (sealF _)]
        have := (sealF_length (by_ z)).1
        omega
      rw [hu, Option.bind_some, hlen, if_neg (by omega), Int.tmod_eq_emod_of_nonneg u1]
      have hk := Int.emod_lt_of_pos u (show (0 : Int) < ((appF z).1.size : Int) by omega)
      have hk0 := Int.emod_nonneg u (show ((appF z).1.size : Int) ≠ 0 by omega)
      have hc : 0 ≤ u % ((appF z).1.size : Int) ∧ u % ((appF z).1.size : Int) < ((appF z).1.size : Int) := ⟨hk0, hk⟩
      rw [if_pos hc, hv, Option.bind_some, if_pos hc, Int.tmod_eq_emod_of_nonneg v1, w64s (x := 1 + v % 255) (by omega) (by omega)]
      have wd : IntKind.wrap .u8 (1 + v % 255) = 1 + v % 255 := u8_small (by omega)
      rw [wd]
      generalize hkk : (u % ((appF z).1.size : Int)).toNat = k
      have hklt : k < (appF z).1.size := by omega
      have hget : (intsOfStr (appF z).1).getD k 0 = (((by_ (appF z).1).getD k 0).toNat : Int) := by
        show ((((appF z).1.data.toList.map fun b => (b.toNat : Int)))[k]?).getD 0 = ((((appF z).1.data.toList)[k]?.getD 0).toNat : Int)
        rw [List.getElem?_map]
        cases (appF z).1.data.toList[k]? <;> rfl
      have hb8 := ((by_ (appF z).1).getD k 0).toNat_lt
      obtain ⟨q1, q2, q3⟩ := xor_byte (a := (intsOfStr (appF z).1).getD k 0) (d := 1 + v % 255) (by rw [hget]; omega) (by omega)
      have hcb := changed_bytes (appF z).1 k (bitXor .u8 ((intsOfStr (appF z).1).getD k 0) (1 + v % 255)) ⟨q1, q2⟩
      obtain ⟨w, hw1, hw2⟩ := verify_broken (n := 1048600) (by omega) c1 hklt (v := UInt8.ofNat (bitXor .u8 ((intsOfStr (appF z).1).getD k 0) (1 + v % 255)).toNat) (by
        intro e
        apply q3
        have e2 := congrArg UInt8.toNat e
        rw [UInt8.toNat_ofNat', Nat.mod_eq_of_lt (by omega)] at e2
        rw [hget] at q1 q2 e2 ⊢
        omega) hcb
      rw [hw1, Option.bind_some, if_pos rfl, if_pos (by rw [eq_bytes]; simp), hw2]
      rfl
    · rw [if_pos (by simpa using c1), eq_bytes]
      unfold appF at c1 ⊢
      split
      · simp
      · rename_i c
        rw [if_neg c] at c1
        simp at c1
  by_cases cx : -999999 ≤ x ∧ x ≤ 999999
  · have hf : fmtF x = (itoaB x, true) := by unfold fmtF; rw [if_pos cx]
    have hs7 := itoa_len cx
    rw [hf]
    have hp : strParse.F 1048600 (itoaB x) = some (x, true) := implParse_yes (by rw [itoaB_size]; omega) ⟨cx, rfl⟩
    show (strParse.F 1048600 (itoaB x)).bind _ = _
    rw [hp, Option.bind_some, if_pos rfl, if_neg (by simp), if_neg (by simp)]
    exact h17
  · have hf : fmtF x = (ByteArray.empty, false) := by unfold fmtF; rw [if_neg cx]
    rw [hf]
    obtain ⟨r2, _, hr⟩ := specParse_val (n := 1048600) (s := ByteArray.empty) (by omega) (by decide)
    show (strParse.F 1048600 ByteArray.empty).bind _ = _
    rw [hr, Option.bind_some, if_neg (by simp)]
    exact h17
end Go.Pv
