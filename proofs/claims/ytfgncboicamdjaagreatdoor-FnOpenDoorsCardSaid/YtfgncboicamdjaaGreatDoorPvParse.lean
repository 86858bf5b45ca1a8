/- Plain laws of texts: a number that is read. -/
import Derived.Test.YtfgncboicamdjaaGreatDoorPvStr
import Derived.Lib.AtoiAllCases
set_option linter.unusedVariables false
set_option linter.unusedSimpArgs false
set_option autoImplicit false
namespace Go.Pv
open Go Go.Fx Go.Pf

abbrev Digs (l : List UInt8) : Prop := ∀ b ∈ l, 48 ≤ b.toNat ∧ b.toNat ≤ 57
def valF (a : Nat) (l : List UInt8) : Nat := l.foldl (fun a b => 10 * a + (b.toNat - 48)) a
theorem dec_digs : ∀ (u : Nat), Digs (Lib.decDigits u) ∧ valF 0 (Lib.decDigits u) = u ∧ Lib.decDigits u ≠ [] := by
  intro u
  induction u using Nat.strongRecOn with
  | _ u ih =>
    have hd : ∀ d : Nat, d < 10 → (UInt8.ofNat (48 + d)).toNat = 48 + d := fun d h => by
      rw [UInt8.toNat_ofNat']
      omega
    by_cases h : u < 10
    · rw [Lib.decDigits, dif_pos h]
      refine ⟨fun b hb => ?_, ?_, by simp⟩
      · simp only [List.mem_singleton] at hb
        subst hb
        rw [hd u h]
        omega
      · show 10 * 0 + ((UInt8.ofNat (48 + u)).toNat - 48) = u
        rw [hd u h]
        omega
    · obtain ⟨i1, i2, i3⟩ := ih (u / 10) (by omega)
      rw [Lib.decDigits, dif_neg h]
      refine ⟨fun b hb => ?_, ?_, by simp⟩
      · rcases List.mem_append.1 hb with hb | hb
        · exact i1 b hb
        · simp only [List.mem_singleton] at hb
          subst hb
          rw [hd _ (Nat.mod_lt _ (by omega))]
          omega
      · unfold valF at i2 ⊢
        rw [List.foldl_append, i2]
        show 10 * (u / 10) + ((UInt8.ofNat (48 + u % 10)).toNat - 48) = u
        rw [hd _ (Nat.mod_lt _ (by omega))]
        omega
theorem valF_lt : ∀ (l : List UInt8) (a k : Nat), Digs l → a < 10 ^ k → valF a l < 10 ^ (k + l.length)
  | [], a, k, _, h => h
  | b :: l, a, k, hd, h => by
    have hb := hd b (by simp)
    have := valF_lt l (10 * a + (b.toNat - 48)) (k + 1) (fun z hz => hd z (by simp [hz])) (by rw [Nat.pow_succ]; omega)
    show valF (10 * a + (b.toNat - 48)) l < _
    rw [List.length_cons, show k + (l.length + 1) = k + 1 + l.length by omega]
    exact this
theorem parse_digs : ∀ (l : List UInt8) (a k : Nat), Digs l → a < 10 ^ k → k + l.length ≤ 18 → Lib.parseUint10 a l = .ok (valF a l)
  | [], a, k, _, h, _ => rfl
  | b :: l, a, k, hd, h, hl => by
    have hb := hd b (by simp)
    rw [List.length_cons] at hl
    have h18 : 10 ^ (k + 1) ≤ 10 ^ 18 := Nat.pow_le_pow_right (by omega) (by omega)
    have h18' : (10 : Nat) ^ 18 = 1000000000000000000 := by decide
    have hk : 10 ^ (k + 1) = 10 ^ k * 10 := Nat.pow_succ ..
    have ih := parse_digs l (10 * a + (b.toNat - 48)) (k + 1) (fun z hz => hd z (by simp [hz])) (by omega) (by omega)
    rw [Lib.parseUint10, if_pos hb, if_neg (by omega), if_neg (by omega), Nat.mul_comm a 10, ih]
    rfl
theorem dec_len {u : Nat} (h : u ≤ 999999) : (Lib.decDigits u).length ≤ 6 := (num_nat 5 6 u (by omega) (by omega) (by omega)).2
theorem dec_first {u : Nat} : ∃ c r, Lib.decDigits u = c :: r ∧ c.toNat ≠ 43 ∧ c.toNat ≠ 45 := by
  obtain ⟨h1, _, h3⟩ := dec_digs u
  cases h : Lib.decDigits u with
  | nil => exact absurd h h3
  | cons c r =>
    have := h1 c (by rw [h]; simp)
    exact ⟨c, r, rfl, by omega, by omega⟩
/-- The library reads what it writes. -/
theorem atoi_itoa {v : Int} (h : -999999 ≤ v ∧ v ≤ 999999) : Lib.atoiAll (Lib.itoa v) = .ok v := by
  unfold Lib.itoa
  by_cases c : v < 0
  · obtain ⟨h1, h2, h3⟩ := dec_digs v.natAbs
    have hl := dec_len (u := v.natAbs) (by omega)
    rw [if_pos c, Lib.atoiAll_minus]
    unfold Lib.parseMag
    rw [if_neg h3, parse_digs _ 0 0 h1 (by decide) (by omega), h2]
    simp only [Lib.signed]
    rw [if_neg (by omega), show -((v.natAbs : Nat) : Int) = v by omega]
  · obtain ⟨h1, h2, h3⟩ := dec_digs v.toNat
    have hl := dec_len (u := v.toNat) (by omega)
    obtain ⟨d, r, e, g1, g2⟩ := dec_first (u := v.toNat)
    rw [if_neg c, e, Lib.atoiAll_plain d r g1 g2, ← e]
    unfold Lib.parseMag
    rw [if_neg h3, parse_digs _ 0 0 h1 (by decide) (by omega), h2]
    simp only [Lib.signless]
    rw [if_neg (by omega), show ((v.toNat : Nat) : Int) = v by omega]
theorem itoa_inj {v w : Int} (h1 : -999999 ≤ v ∧ v ≤ 999999) (h2 : -999999 ≤ w ∧ w ≤ 999999) (h : Lib.itoa v = Lib.itoa w) : v = w := by
  have a := atoi_itoa h1
  rw [h, atoi_itoa h2] at a
  cases a
  rfl
/-- What is told of a text that is read. -/
def Canon (s : ByteArray) (v : Int) : Prop := (-999999 ≤ v ∧ v ≤ 999999) ∧ Lib.itoa v = by_ s
theorem implParse_yes {n : Nat} {s : ByteArray} (hs : s.size ≤ 1048576) {v : Int} (h : Canon s v) : strParse.F n s = some (v, true) := by
  unfold strParse.F
  rw [if_pos hs]
  have e : Lib.atoiAll s.data.toList = .ok v := by
    have := atoi_itoa h.1
    rw [h.2] at this
    exact this
  rw [e]
  simp only
  rw [if_pos ⟨h.1, h.2⟩]
theorem implParse_no {n : Nat} {s : ByteArray} (hs : s.size ≤ 1048576) (h : ∀ v, ¬ Canon s v) : strParse.F n s = some (0, false) := by
  unfold strParse.F
  rw [if_pos hs]
  congr 1
  split
  · rename_i v _
    rw [if_neg (show ¬ ((-999999 ≤ v ∧ v ≤ 999999) ∧ Lib.itoa v = s.data.toList) from fun q => h v q)]
  · rfl
section
variable {n : Nat} {x0 x4 : ByteArray} {K : ByteArray → ByteArray → Int → Option (Int × Bool)}
theorem digit_step {a : Nat} (ha : a ≤ 100000000) {b : UInt8} (hb : 48 ≤ b.toNat ∧ b.toNat ≤ 57) : (IntKind.wrap .i64 ((IntKind.wrap .i64 ((10 : Int) * (a : Int))) + (IntKind.wrap .i64 (IntKind.wrap .u8 ((b.toNat : Int) - (48 : Int)))))) = ((10 * a + (b.toNat - 48) : Nat) : Int) := by
  have e : IntKind.wrap .u8 ((b.toNat : Int) - 48) = (b.toNat : Int) - 48 := by rw [IntKind.wrap_u8]; omega
  rw [e, w64s (x := 10 * (a : Int)) (by omega) (by omega), w64s (x := (b.toNat : Int) - 48) (by omega) (by omega), w64s (by omega) (by omega)]
  omega
theorem by_drop {s : ByteArray} {i : Nat} (h : i < s.size) : (by_ s).drop i = (by_ s).getD i 0 :: (by_ s).drop (i + 1) := drop_get (by rw [← by_size]; exact h)
theorem l1Read_l0 (hz : x4.size ≤ 6) : ∀ (j i a : Nat), x4.size - i < j → i ≤ x4.size → a < 10 ^ i → spec_l1Read.l0 n K j x0 x4 a i = if ∀ b ∈ (by_ x4).drop i, 48 ≤ b.toNat ∧ b.toNat ≤ 57 then K x0 x4 (valF a ((by_ x4).drop i) : Nat) else some ((0 : Int), false)
  | 0, i, a, h, _, _ => by omega
  | j + 1, i, a, h, hi, ha => by
    unfold spec_l1Read.l0
    by_cases q : (i : Int) < (x4.size : Int)
    · have hp : 10 ^ i ≤ 10 ^ 6 := Nat.pow_le_pow_right (by omega) (by omega)
      have hp' : (10 : Nat) ^ 6 = 1000000 := by decide
      rw [if_pos (by simpa using q), by_drop (i := i) (by omega)]
      simp only [List.mem_cons, forall_eq_or_imp, Int.toNat_natCast, bAt_by]
      rw [if_pos ⟨by omega, q⟩]
      generalize hb : (by_ x4).getD i 0 = b
      by_cases c1 : (b.toNat : Int) < 48
      · rw [if_pos (by simpa using c1), if_neg (by omega)]
      · rw [if_neg (by simpa using c1), if_pos ⟨by omega, q⟩]
        by_cases c2 : (b.toNat : Int) > 57
        · rw [if_pos (by simpa using c2), if_neg (by omega)]
        · rw [if_neg (by simpa using c2), if_pos ⟨by omega, q⟩, digit_step (by omega) (by omega), w64s (by omega) (by omega), show ((i : Int) + 1) = ((i + 1 : Nat) : Int) by omega]
          rw [l1Read_l0 hz j (i + 1) _ (by omega) (by omega) (by rw [Nat.pow_succ]; omega)]
          have key : (∀ b ∈ (by_ x4).drop (i + 1), 48 ≤ b.toNat ∧ b.toNat ≤ 57) ↔ ((48 ≤ b.toNat ∧ b.toNat ≤ 57) ∧ ∀ b ∈ (by_ x4).drop (i + 1), 48 ≤ b.toNat ∧ b.toNat ≤ 57) :=
            ⟨fun h => ⟨⟨by omega, by omega⟩, h⟩, fun h => h.2⟩
          by_cases g : ∀ b ∈ (by_ x4).drop (i + 1), 48 ≤ b.toNat ∧ b.toNat ≤ 57
          · rw [if_pos g, if_pos (key.1 g)]
            rfl
          · rw [if_neg g, if_neg fun h => g h.2]
    · rw [if_neg (by simpa using q), List.drop_of_length_le (by rw [← by_size]; omega), if_pos (by simp)]
      rfl
end
/-- The end of the reading. -/
def endR (s t : ByteArray) : Int × Bool :=
  if (t.size = 0 ∨ 6 < t.size) ∨ ¬ Digs (by_ t) then (0, false)
  else if t.size < s.size then (if Lib.itoa (-(valF 0 (by_ t) : Int)) = by_ s then (-(valF 0 (by_ t) : Int), true) else (0, false))
  else (if Lib.itoa (valF 0 (by_ t) : Int) = by_ s then ((valF 0 (by_ t) : Int), true) else (0, false))
theorem mk_eq_iff {l : List UInt8} {s : ByteArray} : (⟨l.toArray⟩ : ByteArray) = s ↔ l = by_ s :=
  ⟨fun h => by rw [← h, by_mk], fun h => ba_ext (by rw [by_mk]; exact h)⟩
theorem l1Read_tail {n : Nat} (hn : 100 ≤ n) (s t : ByteArray) :
    ((spec_l1In.F n (t.size : Int) (1 : Int) (6 : Int)).bind fun r1 =>
    if (!r1) = true then
      some ((0 : Int), false)
    else
      spec_l1Read.l0 n (fun y2 y3 y4 =>
        if (decide ((y3.size : Int) < (y2.size : Int))) = true then
          (spec_l1Num.F n (IntKind.wrap .i64 (-y4))).bind fun r5 =>
          if (!(r5.toList == y2.toList)) = true then
            some ((0 : Int), false)
          else
            some (IntKind.wrap .i64 (-y4), true)
        else
          (spec_l1Num.F n y4).bind fun r6 =>
          if (!(r6.toList == y2.toList)) = true then
            some ((0 : Int), false)
          else
            some (y4, true)) n s t (0 : Int) (0 : Int)) = some (endR s t) := by
  unfold endR
  rw [in_val, Option.bind_some]
  by_cases c : t.size = 0 ∨ 6 < t.size
  · rw [if_pos (by simp only [Bool.not_eq_true', decide_eq_false_iff_not]; omega), if_pos (.inl c)]
  · rw [if_neg (by simp only [Bool.not_eq_true', decide_eq_false_iff_not]; omega)]
    have hl := l1Read_l0 (n := n) (x0 := s) (x4 := t) (K := fun y2 y3 y4 =>
        if (decide ((y3.size : Int) < (y2.size : Int))) = true then
          (spec_l1Num.F n (IntKind.wrap .i64 (-y4))).bind fun r5 =>
          if (!(r5.toList == y2.toList)) = true then
            some ((0 : Int), false)
          else
            some (IntKind.wrap .i64 (-y4), true)
        else
          (spec_l1Num.F n y4).bind fun r6 =>
          if (!(r6.toList == y2.toList)) = true then
            some ((0 : Int), false)
          else
            some (y4, true)) (by omega) n 0 0 (by omega) (by omega) (by decide)
    rw [List.drop_zero] at hl
    refine hl.trans ?_
    by_cases d : Digs (by_ t)
    · have hv := valF_lt (by_ t) 0 0 d (by decide)
      have hz := by_size t
      have hp : 10 ^ (0 + (by_ t).length) ≤ 10 ^ 6 := Nat.pow_le_pow_right (by omega) (by omega)
      have hp' : (10 : Nat) ^ 6 = 1000000 := by decide
      rw [if_pos d, if_neg (show ¬ ((t.size = 0 ∨ 6 < t.size) ∨ ¬ Digs (by_ t)) from fun h => h.elim c fun h => h d)]
      generalize valF 0 (by_ t) = u at *
      by_cases e : t.size < s.size
      · rw [if_pos (by simpa using e), if_pos e, w64 (by omega) (by omega), (num_val (by omega) (by omega) (by omega)).1, Option.bind_some, eq_bytes]
        by_cases g : Lib.itoa (-(u : Int)) = by_ s
        · rw [if_pos g, if_neg (by simpa using mk_eq_iff.2 g)]
        · rw [if_neg g, if_pos (by simpa using fun z => g (mk_eq_iff.1 z))]
      · rw [if_neg (by simpa using e), if_neg e, (num_val (by omega) (by omega) (by omega)).1, Option.bind_some, eq_bytes]
        by_cases g : Lib.itoa (u : Int) = by_ s
        · rw [if_pos g, if_neg (by simpa using mk_eq_iff.2 g)]
        · rw [if_neg g, if_pos (by simpa using fun z => g (mk_eq_iff.1 z))]
    · rw [if_neg d, if_pos (.inr d)]
theorem l1Read_end {n : Nat} (hn : 100 ≤ n) (s : ByteArray) : spec_l1Read.F n s = some (endR s (if s.size > 1 ∧ (by_ s).getD 0 0 = 45 then s.extract 1 s.size else s)) := by
  unfold spec_l1Read.F
  simp only [l1Read_tail hn]
  by_cases c : s.size > 1
  · rw [if_pos (by simp; omega), if_pos ⟨by omega, by omega⟩, bAt_by]
    by_cases d : (by_ s).getD 0 0 = 45
    · rw [if_pos (by rw [d]; rfl), if_pos ⟨by omega, by omega⟩, if_pos ⟨c, d⟩]
    · have d' : ¬ (((by_ s).getD 0 0).toNat : Int) = 45 := fun z => d (UInt8.toNat_inj.1 (by
        show ((by_ s).getD 0 0).toNat = 45
        omega))
      rw [if_neg (by simpa using d'), if_neg fun h => d h.2]
  · rw [if_neg (by simp; omega), if_neg fun h => c h.1]
theorem endR_true {s t : ByteArray} {v : Int} (h : endR s t = (v, true)) : Canon s v := by
  unfold endR at h
  split at h
  · cases h
  · rename_i c
    simp only [not_or, Classical.not_not] at c
    have hv := valF_lt (by_ t) 0 0 c.2 (by decide)
    have hz := by_size t
    have hp : 10 ^ (0 + (by_ t).length) ≤ 10 ^ 6 := Nat.pow_le_pow_right (by omega) (by omega)
    have hp' : (10 : Nat) ^ 6 = 1000000 := by decide
    split at h
    · split at h
      · rename_i g
        cases h
        exact ⟨⟨by omega, by omega⟩, g⟩
      · cases h
    · split at h
      · rename_i g
        cases h
        exact ⟨⟨by omega, by omega⟩, g⟩
      · cases h
theorem endR_or (s t : ByteArray) : (∃ v, endR s t = (v, true)) ∨ endR s t = (0, false) := by
  unfold endR
  repeat' split
  all_goals first | exact .inr rfl | exact .inl ⟨_, rfl⟩
theorem l1Read_yes {n : Nat} (hn : 100 ≤ n) {s : ByteArray} {v : Int} (h : Canon s v) : spec_l1Read.F n s = some (v, true) := by
  rw [l1Read_end hn]
  obtain ⟨hr, hi⟩ := h
  have hz := by_size s
  by_cases c : v < 0
  · obtain ⟨h1, h2, h3⟩ := dec_digs v.natAbs
    have hl := dec_len (u := v.natAbs) (by omega)
    have hpos := List.length_pos_iff.2 h3
    have hb : by_ s = 45 :: Lib.decDigits v.natAbs := by rw [← hi]; unfold Lib.itoa; rw [if_pos c]
    have hlen : s.size = (Lib.decDigits v.natAbs).length + 1 := by rw [hz, hb]; rfl
    have ht : by_ (s.extract 1 s.size) = Lib.decDigits v.natAbs := by rw [by_rest, hb]; rfl
    have htz : (s.extract 1 s.size).size = (Lib.decDigits v.natAbs).length := by rw [by_size, ht]
    rw [if_pos ⟨by omega, by rw [hb]; rfl⟩]
    unfold endR
    rw [if_neg (by rw [ht]; simp only [not_or, Classical.not_not]; exact ⟨by omega, h1⟩), if_pos (by omega), ht, h2, show -((v.natAbs : Nat) : Int) = v by omega, if_pos hi]
  · obtain ⟨h1, h2, h3⟩ := dec_digs v.toNat
    have hl := dec_len (u := v.toNat) (by omega)
    have hpos := List.length_pos_iff.2 h3
    have hb : by_ s = Lib.decDigits v.toNat := by rw [← hi]; unfold Lib.itoa; rw [if_neg c]
    obtain ⟨d, r, e, g1, g2⟩ := dec_first (u := v.toNat)
    rw [if_neg (by
      rintro ⟨_, q⟩
      rw [hb, e] at q
      have q' : d = 45 := q
      rw [q'] at g2
      exact g2 rfl)]
    unfold endR
    rw [if_neg (by rw [hb]; simp only [not_or, Classical.not_not]; exact ⟨by rw [hz, hb]; omega, h1⟩), if_neg (by omega), hb, h2, show ((v.toNat : Nat) : Int) = v by omega, if_pos (by rw [hi, hb])]
theorem l1Read_no {n : Nat} (hn : 100 ≤ n) {s : ByteArray} (h : ∀ v, ¬ Canon s v) : spec_l1Read.F n s = some (0, false) := by
  rw [l1Read_end hn]
  rcases endR_or s (if s.size > 1 ∧ (by_ s).getD 0 0 = 45 then s.extract 1 s.size else s) with ⟨v, e⟩ | e
  · exact absurd (endR_true e) (h v)
  · rw [e]
theorem read_eq {n : Nat} (hn : 100 ≤ n) {s : ByteArray} (hs : s.size ≤ 1048576) : spec_l1Read.F n s = strParse.F n s := by
  by_cases h : ∃ v, Canon s v
  · obtain ⟨v, h⟩ := h
    rw [l1Read_yes hn h, implParse_yes hs h]
  · have h' : ∀ v, ¬ Canon s v := fun v q => h ⟨v, q⟩
    rw [l1Read_no hn h', implParse_no hs h']
end Go.Pv
