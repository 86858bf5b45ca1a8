/- Plain laws of texts: numbers as texts, check sums, texts that are cut at a byte. -/
import Derived.Test.YteenokkklgnhhaaDoorPvBase
import Derived.Test.YteenokkklgnhhaaDoorPvText
set_option linter.unusedVariables false
set_option linter.unusedSimpArgs false
set_option autoImplicit false
namespace Go.Pv
open Go Go.Fx Go.Pf

/-! ### Numbers as texts -/
theorem dig_fin : ∀ i : Fin 10, ((([48, 49, 50, 51, 52, 53, 54, 55, 56, 57] : List UInt8).drop i.val).take (i.val + 1 - i.val)) = [UInt8.ofNat (48 + i.val)] := by decide +kernel
theorem dig_ext {d : Nat} (hd : d < 10) : (⟨#[48, 49, 50, 51, 52, 53, 54, 55, 56, 57]⟩ : ByteArray).extract d (d + 1) = ⟨[UInt8.ofNat (48 + d)].toArray⟩ := by
  apply ba_ext
  rw [by_extract, by_mk]
  exact dig_fin ⟨d, hd⟩
theorem dig_if {d : Nat} (hd : d < 10) {α : Type} (a b : Option α) : (if 0 ≤ (d : Int) ∧ (d : Int) ≤ (IntKind.wrap .i64 ((d : Int) + (1 : Int))) ∧ (IntKind.wrap .i64 ((d : Int) + (1 : Int))) ≤ ((⟨#[48, 49, 50, 51, 52, 53, 54, 55, 56, 57]⟩ : ByteArray).size : Int) then a else b) = a := by
  have hs : ((⟨#[48, 49, 50, 51, 52, 53, 54, 55, 56, 57]⟩ : ByteArray).size : Int) = 10 := rfl
  rw [w64s (by omega) (by omega), hs, if_pos ⟨by omega, by omega, by omega⟩]
theorem dig_val {d : Nat} (hd : d < 10) : (⟨#[48, 49, 50, 51, 52, 53, 54, 55, 56, 57]⟩ : ByteArray).extract (d : Int).toNat ((IntKind.wrap .i64 ((d : Int) + (1 : Int))).toNat) = ⟨[UInt8.ofNat (48 + d)].toArray⟩ := by
  rw [w64s (by omega) (by omega), show ((d : Int) + 1).toNat = d + 1 by omega, Int.toNat_natCast]
  exact dig_ext hd
theorem itoa_val {n : Nat} {x : Int} (h1 : -999999 ≤ x) (h2 : x ≤ 999999) : strItoa.F n x = some ⟨(Lib.itoa x).toArray⟩ := by
  unfold strItoa.F
  rw [if_pos (by omega)]
/-! ### Check sums -/
def stepS (s : Int) (b : UInt8) : Int := Int.tmod (IntKind.wrap .i64 ((IntKind.wrap .i64 ((IntKind.wrap .i64 ((41 : Int) * s)) + (IntKind.wrap .i64 (b.toNat : Int)))) + (1 : Int))) 999979
def sumF (s : Int) (l : List UInt8) : Int := l.foldl stepS s
theorem stepS_range {s : Int} {b : UInt8} (h : 0 ≤ s ∧ s ≤ 999978) : 0 ≤ stepS s b ∧ stepS s b ≤ 999978 := by
  unfold stepS
  have hb : (b.toNat : Int) < 256 := by have := b.toNat_lt; omega
  rw [w64s (x := 41 * s) (by omega) (by omega), w64s (x := (b.toNat : Int)) (by omega) (by omega), w64s (x := 41 * s + (b.toNat : Int)) (by omega) (by omega), w64s (by omega) (by omega), Int.tmod_eq_emod_of_nonneg (by omega)]
  omega
theorem sumF_range : ∀ (l : List UInt8) {s : Int}, 0 ≤ s ∧ s ≤ 999978 → 0 ≤ sumF s l ∧ sumF s l ≤ 999978
  | [], s, h => h
  | b :: l, s, h => sumF_range l (stepS_range h)
theorem bAt_by (s : ByteArray) (i : Nat) : bAt s i = ((by_ s).getD i 0).toNat := by
  unfold bAt
  rw [toList_by]
theorem drop_get {l : List UInt8} {i : Nat} (h : i < l.length) : l.drop i = l.getD i 0 :: l.drop (i + 1) := by
  rw [List.drop_eq_getElem_cons h]
  simp [List.getD_eq_getElem?_getD, h]
theorem sum7 (l : List UInt8) : 0 ≤ sumF 7 l ∧ sumF 7 l ≤ 999978 := sumF_range l ⟨by omega, by omega⟩
/-- A text with its seal. -/
def sealF (l : List UInt8) : List UInt8 := l ++ 35 :: Lib.itoa (sumF 7 l)
theorem hash_size : (⟨#[35]⟩ : ByteArray).size = 1 := rfl
theorem size_app (a b : ByteArray) : (a ++ b).size = a.size + b.size := by rw [by_size, by_append, List.length_append, ← by_size, ← by_size]
theorem size_mk (l : List UInt8) : (⟨l.toArray⟩ : ByteArray).size = l.length := rfl
theorem seal_bytes (s : ByteArray) : s ++ (⟨#[35]⟩ : ByteArray) ++ ⟨(Lib.itoa (sumF 7 (by_ s))).toArray⟩ = ⟨(sealF (by_ s)).toArray⟩ := by
  apply ba_ext
  rw [by_append, by_append, by_mk, by_mk]
  show by_ s ++ [35] ++ _ = _
  unfold sealF
  simp
/-! ### Is a byte in a text? -/
theorem l1Stands_l0 {n : Nat} {K : Unit → Option Bool} {s : ByteArray} {c : UInt8} (hs : s.size ≤ 4398046511104) : ∀ (j i : Nat), s.size - i < j → i ≤ s.size → spec_l1Stands.l0 n K j s (c.toNat : Int) i = if c ∈ (by_ s).drop i then some true else K ()
  | 0, i, h, _ => by omega
  | j + 1, i, h, hi => by
    have hz := by_size s
    unfold spec_l1Stands.l0
    by_cases q : (i : Int) < (s.size : Int)
    · rw [if_pos (by simpa using q), if_pos ⟨by omega, q⟩, w64s (by omega) (by omega), show ((i : Int) + 1) = ((i + 1 : Nat) : Int) by omega, l1Stands_l0 hs j (i + 1) (by omega) (by omega), drop_get (l := by_ s) (i := i) (by omega), bAt_by]
      by_cases e : (by_ s).getD i 0 = c
      · rw [if_pos (by simpa using congrArg (fun z : UInt8 => (z.toNat : Int)) e), if_pos (by rw [e]; simp)]
      · have e' : ¬ (((by_ s).getD i 0).toNat : Int) = (c.toNat : Int) := fun z => e (UInt8.toNat_inj.1 (by omega))
        rw [if_neg (by simpa using e')]
        have e2 : ¬ c = (by_ s).getD i 0 := fun z => e z.symm
        simp only [List.mem_cons, e2, false_or]
    · rw [if_neg (by simpa using q), List.drop_of_length_le (by omega), if_neg (by simp)]
theorem l1Stands_val {n : Nat} {s : ByteArray} (c : UInt8) (hs : s.size ≤ 4398046511104) (hn : s.size < n) : spec_l1Stands.F n s (c.toNat : Int) = some (decide (c ∈ by_ s)) := by
  unfold spec_l1Stands.F
  rw [show (0 : Int) = ((0 : Nat) : Int) from rfl, l1Stands_l0 hs n 0 (by omega) (by omega), List.drop_zero]
  split <;> simp_all

/-! ### A text with its check sum -/
theorem contains_val {n : Nat} {s sub : ByteArray} {c : UInt8} (hs : s.size ≤ 1048576) (h1 : by_ sub = [c]) : strContains.F n s sub = some (decide (c ∈ by_ s)) := by
  unfold strContains.F
  rw [if_pos (by omega)]
  show some (Lib.contains (by_ s) (by_ sub)) = _
  rw [h1, contains_one]
def appF (s : ByteArray) : ByteArray × Bool :=
  if s.size > 4000 ∨ 35 ∈ by_ s ∨ (sealF (by_ s)).length > 4000 then (ByteArray.empty, false) else (⟨(sealF (by_ s)).toArray⟩, true)
/-! ### A text is cut at a byte -/
theorem take_snoc {l : List UInt8} {a i : Nat} (h : i < l.length) (ha : a ≤ i) : (l.drop a).take (i - a) ++ [l.getD i 0] = (l.drop a).take (i + 1 - a) := by
  rw [show i + 1 - a = i - a + 1 by omega, List.take_add_one]
  congr 1
  rw [List.getElem?_drop, show a + (i - a) = i by omega]
  simp [List.getD_eq_getElem?_getD, h]
theorem l1Split_l0 {n : Nat} {K : ByteArray → List ByteArray → Int → Option (List ByteArray)} {s : ByteArray} {c : UInt8} (hs : s.size ≤ 1048576) {r : List ByteArray}
    (hK : ∀ (acc : List ByteArray) (a : Nat), a ≤ s.size → (∀ z : ByteArray, z = s.extract a s.size → (acc ++ [z]).map by_ = r.map by_) → acc.length ≤ 1048576 → K s acc (a : Int) = some r) :
    ∀ (j i a : Nat) (acc : List ByteArray), s.size - i < j → a ≤ i → i ≤ s.size → acc.length ≤ i → acc.map by_ ++ pre (((by_ s).drop a).take (i - a)) (spl c ((by_ s).drop i)) = r.map by_ →
      spec_l1Split.l0 n K j s (c.toNat : Int) acc a i = some r
  | 0, i, a, acc, h, _, _, _, _ => by omega
  | j + 1, i, a, acc, h, ha, hi, hl, hr => by
    have hz := by_size s
    unfold spec_l1Split.l0
    by_cases q : (i : Int) < (s.size : Int)
    · rw [if_pos (by simpa using q), if_pos ⟨by omega, q⟩, w64s (by omega) (by omega), show ((i : Int) + 1) = ((i + 1 : Nat) : Int) by omega, bAt_by]
      rw [drop_get (l := by_ s) (i := i) (by omega), spl_step] at hr
      by_cases e : (by_ s).getD i 0 = c
      · rw [if_pos (by simpa using congrArg (fun z : UInt8 => (z.toNat : Int)) e), if_pos ⟨by omega, by omega, by omega⟩, if_pos (by simp; omega)]
        rw [if_pos e] at hr
        refine l1Split_l0 hs hK j (i + 1) (i + 1) _ (by omega) (by omega) (by omega) (by simp; omega) ?_
        rw [Nat.sub_self, List.take_zero, pre_nil (spl_ne _ _), List.map_append, ← hr, List.append_assoc]
        congr 1
        simp only [List.map_cons, List.map_nil, Int.toNat_natCast, by_extract]
        rfl
      · have e' : ¬ (((by_ s).getD i 0).toNat : Int) = (c.toNat : Int) := fun z => e (UInt8.toNat_inj.1 (by omega))
        rw [if_neg (by simpa using e')]
        rw [if_neg e, take_snoc (by omega) ha] at hr
        exact l1Split_l0 hs hK j (i + 1) a acc (by omega) (by omega) (by omega) (by omega) hr
    · rw [if_neg (by simpa using q)]
      have hi' : i = s.size := by omega
      subst hi'
      refine hK acc a ha ?_ (by omega)
      intro z hz'
      subst hz'
      rw [← hr, List.map_append, List.drop_of_length_le (l := by_ s) (i := s.size) (by omega)]
      congr 1
      simp only [spl, pre, List.append_nil, List.map_cons, List.map_nil, by_extract]
/-- What is told of a text that is cut. -/
theorem l1Split_val {n : Nat} {s : ByteArray} (c : UInt8) (hs : s.size ≤ 1048576) (hn : s.size < n) : spec_l1Split.F n s (c.toNat : Int) = some ((spl c (by_ s)).map fun l => (⟨l.toArray⟩ : ByteArray)) := by
  unfold spec_l1Split.F
  refine l1Split_l0 (r := (spl c (by_ s)).map fun l => (⟨l.toArray⟩ : ByteArray)) hs ?_ n 0 0 [] (by omega) (by omega) (by omega) (by simp) ?_
  · intro acc a ha h hl
    simp only [Int.toNat_natCast]
    rw [if_pos ⟨by omega, by omega⟩, if_pos (by simp; omega)]
    congr 1
    exact map_by_inj (h _ rfl)
  · simp only [List.map_nil, List.nil_append, List.drop_zero, Nat.sub_self, List.take_zero]
    rw [pre_nil (spl_ne _ _), List.map_map]
    have : (by_ ∘ fun l : List UInt8 => (⟨l.toArray⟩ : ByteArray)) = id := funext fun l => by_mk l
    rw [this, List.map_id]
end Go.Pv
