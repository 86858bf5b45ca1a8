/- Plain laws of texts: numbers as texts, check sums, texts that are cut at a byte. -/
import Derived.Test.YtfgncboicamdjaaGreatDoorPvBase
import Derived.Test.YtfgncboicamdjaaGreatDoorPvText
set_option linter.unusedVariables false
set_option linter.unusedSimpArgs false
set_option autoImplicit false
namespace Go.Pv
open Go Go.Fx Go.Pf

/-! ### Numbers as texts -/
theorem dig_fin : ∀ i : Fin 10, ((([48, 49, 50, 51, 52, 53, 54, 55, 56, 57] : List UInt8).drop i.val).take (i.val + 1 - i.val)) = [UInt8.ofNat (48 + i.val)] := by decide +kernel
theorem dig_ext {d : Nat} (hd : d < 10) : (⟨#[48, 49, 50, 51, 52, 53, 54, 55, 56, 57]⟩ : ByteArray).extract d (d + 1) = ⟨[UInt8.ofNat (48 + d)].toArray⟩ := by
  apply ba_ext
  rw [by_extract, by_mk]
  exact dig_fin ⟨d, hd⟩
theorem dig_if {d : Nat} (hd : d < 10) {α : Type} (a b : Option α) : (if 0 ≤ (d : Int) ∧ (d : Int) ≤ (IntKind.wrap .i64 ((d : Int) + (1 : Int))) ∧ (IntKind.wrap .i64 ((d : Int) + (1 : Int))) ≤ ((⟨#[48, 49, 50, 51, 52, 53, 54, 55, 56, 57]⟩ : ByteArray).size : Int) then a else b) = a := by
  have hs : ((⟨#[48, 49, 50, 51, 52, 53, 54, 55, 56, 57]⟩ : ByteArray).size : Int) = 10 := rfl
  rw [w64s (by omega) (by omega), hs, if_pos ⟨by omega, by omega, by omega⟩]
theorem dig_val {d : Nat} (hd : d < 10) : (⟨#[48, 49, 50, 51, 52, 53, 54, 55, 56, 57]⟩ : ByteArray).extract (d : Int).toNat ((IntKind.wrap .i64 ((d : Int) + (1 : Int))).toNat) = ⟨[UInt8.ofNat (48 + d)].toArray⟩ := by
  rw [w64s (by omega) (by omega), show ((d : Int) + 1).toNat = d + 1 by omega, Int.toNat_natCast]
  exact dig_ext hd
theorem num_nat : ∀ (k n u : Nat), u < 10 ^ (k + 1) → k + 1 ≤ 18 → k + 1 ≤ n → spec_l1Num.F n (u : Int) = some ⟨(Lib.decDigits u).toArray⟩ ∧ (Lib.decDigits u).length ≤ k + 1
  | k, 0, u, _, _, hn => by omega
  | k, m + 1, u, hu, hk, hn => by
    have h18 : 10 ^ (k + 1) ≤ 10 ^ 18 := Nat.pow_le_pow_right (by omega) hk
    have h18' : (10 : Nat) ^ 18 = 1000000000000000000 := by decide
    rw [spec_l1Num.F, if_neg (by simp)]
    by_cases c : u < 10
    · rw [if_pos (by simp; omega), dig_if c, dig_val c, Lib.decDigits, dif_pos c]
      exact ⟨rfl, by simp⟩
    · rw [if_neg (by simp; omega)]
      obtain ⟨j, rfl⟩ : ∃ j, k = j + 1 := by
        cases k with
        | zero => exfalso; simp at hu; omega
        | succ j => exact ⟨j, rfl⟩
      have e1 : Int.tdiv (u : Int) 10 = ((u / 10 : Nat) : Int) := by
        rw [Int.tdiv_eq_ediv_of_nonneg (by omega)]; omega
      have e2 : Int.tmod (u : Int) 10 = ((u % 10 : Nat) : Int) := by
        rw [Int.tmod_eq_emod_of_nonneg (by omega)]; omega
      obtain ⟨i1, i2⟩ := num_nat j m (u / 10) (by rw [Nat.pow_succ] at hu; omega) (by omega) (by omega)
      rw [e1, e2, w64s (by omega) (by omega), i1, Option.bind_some, dig_if (Nat.mod_lt _ (by omega)), dig_val (Nat.mod_lt _ (by omega))]
      have hsz : (⟨(Lib.decDigits (u / 10)).toArray⟩ : ByteArray).size = (Lib.decDigits (u / 10)).length := rfl
      have hsz1 : (⟨[UInt8.ofNat (48 + u % 10)].toArray⟩ : ByteArray).size = 1 := rfl
      rw [hsz, hsz1, if_pos (by omega)]
      constructor
      · congr 1
        apply ba_ext
        rw [by_append, by_mk, by_mk, by_mk]
        conv => rhs; rw [Lib.decDigits, dif_neg c]
      · rw [Lib.decDigits, dif_neg c, List.length_append, List.length_singleton]
        omega
theorem num_val {n : Nat} (hn : 20 ≤ n) {x : Int} (h1 : -999999 ≤ x) (h2 : x ≤ 999999) : spec_l1Num.F n x = some ⟨(Lib.itoa x).toArray⟩ ∧ (Lib.itoa x).length ≤ 7 := by
  have h6 : (10 : Nat) ^ (5 + 1) = 1000000 := by decide
  unfold Lib.itoa
  by_cases c : x < 0
  · obtain ⟨m, rfl⟩ : ∃ m, n = m + 1 := ⟨n - 1, by omega⟩
    obtain ⟨i1, i2⟩ := num_nat 5 m x.natAbs (by omega) (by omega) (by omega)
    rw [spec_l1Num.F, if_pos (by simpa using c), w64s (by omega) (by omega), show -x = ((x.natAbs : Nat) : Int) by omega, i1, Option.bind_some, if_pos c]
    have hsz : (⟨(Lib.decDigits x.natAbs).toArray⟩ : ByteArray).size = (Lib.decDigits x.natAbs).length := rfl
    have hsz1 : (⟨#[45]⟩ : ByteArray).size = 1 := rfl
    rw [hsz, hsz1, if_pos (by omega)]
    constructor
    · refine congrArg some (ba_ext ?_)
      rw [by_append, by_mk, by_mk]
      rfl
    · rw [List.length_cons]; omega
  · obtain ⟨i1, i2⟩ := num_nat 5 n x.toNat (by omega) (by omega) (by omega)
    rw [if_neg c]
    refine ⟨?_, by omega⟩
    rw [← i1, show ((x.toNat : Nat) : Int) = x by omega]
theorem in_val {n : Nat} (x a b : Int) : spec_l1In.F n x a b = some (decide (a ≤ x ∧ x ≤ b)) := by
  unfold spec_l1In.F
  by_cases c : a ≤ x
  · rw [if_pos (by simpa using c)]
    congr 1
    simp [c]
  · rw [if_neg (by simpa using c)]
    congr 1
    simp [c]
theorem itoa_val {n : Nat} {x : Int} (h1 : -999999 ≤ x) (h2 : x ≤ 999999) : strItoa.F n x = some ⟨(Lib.itoa x).toArray⟩ := by
  unfold strItoa.F
  rw [if_pos (by omega)]
/-! ### Check sums -/
def stepS (s : Int) (b : UInt8) : Int := Int.tmod (IntKind.wrap .i64 ((IntKind.wrap .i64 ((IntKind.wrap .i64 ((41 : Int) * s)) + (IntKind.wrap .i64 (b.toNat : Int)))) + (1 : Int))) 999979
def sumF (s : Int) (l : List UInt8) : Int := l.foldl stepS s
theorem stepS_range {s : Int} {b : UInt8} (h : 0 ≤ s ∧ s ≤ 999978) : 0 ≤ stepS s b ∧ stepS s b ≤ 999978 := by
  unfold stepS
  have hb : (b.toNat : Int) < 256 := by have := b.toNat_lt; omega
  rw [w64s (x := 41 * s) (by omega) (by omega), w64s (x := (b.toNat : Int)) (by omega) (by omega), w64s (x := 41 * s + (b.toNat : Int)) (by omega) (by omega), w64s (by omega) (by omega), Int.tmod_eq_emod_of_nonneg (by omega)]
  omega
theorem sumF_range : ∀ (l : List UInt8) {s : Int}, 0 ≤ s ∧ s ≤ 999978 → 0 ≤ sumF s l ∧ sumF s l ≤ 999978
  | [], s, h => h
  | b :: l, s, h => sumF_range l (stepS_range h)
theorem bAt_by (s : ByteArray) (i : Nat) : bAt s i = ((by_ s).getD i 0).toNat := by
  unfold bAt
  rw [toList_by]
theorem drop_get {l : List UInt8} {i : Nat} (h : i < l.length) : l.drop i = l.getD i 0 :: l.drop (i + 1) := by
  rw [List.drop_eq_getElem_cons h]
  simp [List.getD_eq_getElem?_getD, h]
theorem sum7 (l : List UInt8) : 0 ≤ sumF 7 l ∧ sumF 7 l ≤ 999978 := sumF_range l ⟨by omega, by omega⟩
/-- A text with its seal. -/
def sealF (l : List UInt8) : List UInt8 := l ++ 35 :: Lib.itoa (sumF 7 l)
theorem sealF_length (l : List UInt8) : l.length + 1 ≤ (sealF l).length ∧ (sealF l).length ≤ l.length + 8 := by
  have := (num_val (n := 20) (by omega) (x := sumF 7 l) (by have := sum7 l; omega) (by have := sum7 l; omega)).2
  unfold sealF
  rw [List.length_append, List.length_cons]
  omega
theorem hash_size : (⟨#[35]⟩ : ByteArray).size = 1 := rfl
theorem size_app (a b : ByteArray) : (a ++ b).size = a.size + b.size := by rw [by_size, by_append, List.length_append, ← by_size, ← by_size]
theorem size_mk (l : List UInt8) : (⟨l.toArray⟩ : ByteArray).size = l.length := rfl
theorem seal_bytes (s : ByteArray) : s ++ (⟨#[35]⟩ : ByteArray) ++ ⟨(Lib.itoa (sumF 7 (by_ s))).toArray⟩ = ⟨(sealF (by_ s)).toArray⟩ := by
  apply ba_ext
  rw [by_append, by_append, by_mk, by_mk]
  show by_ s ++ [35] ++ _ = _
  unfold sealF
  simp
/-! ### Is a byte in a text? -/
/-! ### A text with its check sum -/
theorem contains_val {n : Nat} {s sub : ByteArray} {c : UInt8} (hs : s.size ≤ 1048576) (h1 : by_ sub = [c]) : strContains.F n s sub = some (decide (c ∈ by_ s)) := by
  unfold strContains.F
  rw [if_pos (by omega)]
  show some (Lib.contains (by_ s) (by_ sub)) = _
  rw [h1, contains_one]
def appF (s : ByteArray) : ByteArray × Bool :=
  if s.size > 4000 ∨ 35 ∈ by_ s ∨ (sealF (by_ s)).length > 4000 then (ByteArray.empty, false) else (⟨(sealF (by_ s)).toArray⟩, true)
/-! ### A text is cut at a byte -/
theorem take_snoc {l : List UInt8} {a i : Nat} (h : i < l.length) (ha : a ≤ i) : (l.drop a).take (i - a) ++ [l.getD i 0] = (l.drop a).take (i + 1 - a) := by
  rw [show i + 1 - a = i - a + 1 by omega, List.take_add_one]
  congr 1
  rw [List.getElem?_drop, show a + (i - a) = i by omega]
  simp [List.getD_eq_getElem?_getD, h]
theorem l1Split_l0 {n : Nat} {K : ByteArray → List ByteArray → Int → Option (List ByteArray)} {s : ByteArray} {c : UInt8} (hs : s.size ≤ 1048576) {r : List ByteArray}
    (hK : ∀ (acc : List ByteArray) (a : Nat), a ≤ s.size → (∀ z : ByteArray, z = s.extract a s.size → (acc ++ [z]).map by_ = r.map by_) → acc.length ≤ 1048576 → K s acc (a : Int) = some r) :
    ∀ (j i a : Nat) (acc : List ByteArray), s.size - i < j → a ≤ i → i ≤ s.size → acc.length ≤ i → acc.map by_ ++ pre (((by_ s).drop a).take (i - a)) (spl c ((by_ s).drop i)) = r.map by_ →
      spec_l1Split.l0 n K j s (c.toNat : Int) acc a i = some r
  | 0, i, a, acc, h, _, _, _, _ => by omega
  | j + 1, i, a, acc, h, ha, hi, hl, hr => by
    have hz := by_size s
    unfold spec_l1Split.l0
    by_cases q : (i : Int) < (s.size : Int)
    · rw [if_pos (by simpa using q), if_pos ⟨by omega, q⟩, w64s (by omega) (by omega), show ((i : Int) + 1) = ((i + 1 : Nat) : Int) by omega, bAt_by]
      rw [drop_get (l := by_ s) (i := i) (by omega), spl_step] at hr
      by_cases e : (by_ s).getD i 0 = c
      · rw [if_pos (by simpa using congrArg (fun z : UInt8 => (z.toNat : Int)) e), if_pos ⟨by omega, by omega, by omega⟩, if_pos (by simp; omega)]
        rw [if_pos e] at hr
        refine l1Split_l0 hs hK j (i + 1) (i + 1) _ (by omega) (by omega) (by omega) (by simp; omega) ?_
        rw [Nat.sub_self, List.take_zero, pre_nil (spl_ne _ _), List.map_append, ← hr, List.append_assoc]
        congr 1
        simp only [List.map_cons, List.map_nil, Int.toNat_natCast, by_extract]
        rfl
      · have e' : ¬ (((by_ s).getD i 0).toNat : Int) = (c.toNat : Int) := fun z => e (UInt8.toNat_inj.1 (by omega))
        rw [if_neg (by simpa using e')]
        rw [if_neg e, take_snoc (by omega) ha] at hr
        exact l1Split_l0 hs hK j (i + 1) a acc (by omega) (by omega) (by omega) (by omega) hr
    · rw [if_neg (by simpa using q)]
      have hi' : i = s.size := by omega
      subst hi'
      refine hK acc a ha ?_ (by omega)
      intro z hz'
      subst hz'
      rw [← hr, List.map_append, List.drop_of_length_le (l := by_ s) (i := s.size) (by omega)]
      congr 1
      simp only [spl, pre, List.append_nil, List.map_cons, List.map_nil, by_extract]
/-- What is told of a text that is cut. -/
theorem l1Split_val {n : Nat} {s : ByteArray} (c : UInt8) (hs : s.size ≤ 1048576) (hn : s.size < n) : spec_l1Split.F n s (c.toNat : Int) = some ((spl c (by_ s)).map fun l => (⟨l.toArray⟩ : ByteArray)) := by
  unfold spec_l1Split.F
  refine l1Split_l0 (r := (spl c (by_ s)).map fun l => (⟨l.toArray⟩ : ByteArray)) hs ?_ n 0 0 [] (by omega) (by omega) (by omega) (by simp) ?_
  · intro acc a ha h hl
    simp only [Int.toNat_natCast]
    rw [if_pos ⟨by omega, by omega⟩, if_pos (by simp; omega)]
    congr 1
    exact map_by_inj (h _ rfl)
  · simp only [List.map_nil, List.nil_append, List.drop_zero, Nat.sub_self, List.take_zero]
    rw [pre_nil (spl_ne _ _), List.map_map]
    have : (by_ ∘ fun l : List UInt8 => (⟨l.toArray⟩ : ByteArray)) = id := funext fun l => by_mk l
    rw [this, List.map_id]
end Go.Pv
