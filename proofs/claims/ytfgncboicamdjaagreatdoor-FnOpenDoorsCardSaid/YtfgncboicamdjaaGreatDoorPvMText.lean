/- Plain laws: the text of a maze. -/
import Derived.Test.YtfgncboicamdjaaGreatDoorPvStr
import Derived.Test.YtfgncboicamdjaaGreatDoorPvBits
import Derived.Lib.JoinLaws
set_option linter.unusedVariables false
set_option linter.unusedSimpArgs false
set_option autoImplicit false
namespace Go.Pv
open Go Go.Fx Go.Pf

/-- A number's text. -/
def itoaB (v : Int) : ByteArray := ⟨(Lib.itoa v).toArray⟩
theorem itoa_len {x : Int} (h : -999999 ≤ x ∧ x ≤ 999999) : (Lib.itoa x).length ≤ 7 := (num_val (n := 20) (by omega) h.1 h.2).2
theorem itoaB_size (v : Int) : (itoaB v).size = (Lib.itoa v).length := rfl
theorem by_itoaB (v : Int) : by_ (itoaB v) = Lib.itoa v := rfl
theorem num_B {n : Nat} (hn : 20 ≤ n) {x : Int} (h : -999999 ≤ x ∧ x ≤ 999999) : spec_l1Num.F n x = some (itoaB x) := (num_val hn h.1 h.2).1
theorem itoa_B {n : Nat} {x : Int} (h : -999999 ≤ x ∧ x ≤ 999999) : strItoa.F n x = some (itoaB x) := itoa_val h.1 h.2
theorem lens_le (k : Nat) : ∀ l : List (List UInt8), (∀ x ∈ l, x.length ≤ k) → Lib.lens l ≤ k * l.length
  | [], _ => by simp [Lib.lens]
  | x :: l, h => by
    have h1 := lens_le k l fun y hy => h y (List.mem_cons_of_mem _ hy)
    have h2 := h x (List.mem_cons_self ..)
    simp only [Lib.lens, List.map_cons, List.sum_cons, List.length_cons, Nat.mul_succ] at *
    omega
theorem join_len {c : UInt8} {l : List (List UInt8)} (h : ∀ x ∈ l, x.length ≤ 7) : (Lib.join l [c]).length ≤ 8 * l.length := by
  cases l with
  | nil => simp [Lib.join_nil]
  | cons x r =>
    have h1 := lens_le 7 r fun y hy => h y (List.mem_cons_of_mem _ hy)
    have h2 := h x (List.mem_cons_self ..)
    rw [Lib.join_cons, List.length_append, Lib.joinTail_length]
    simp only [List.length_cons, List.length_nil]
    omega
theorem map_itoa_len {xs : List Int} (hb : ∀ x ∈ xs, -999999 ≤ x ∧ x ≤ 999999) : ∀ y ∈ xs.map Lib.itoa, y.length ≤ 7 := by
  intro y hy
  obtain ⟨x, hx, rfl⟩ := List.mem_map.1 hy
  exact itoa_len (hb x hx)

theorem numbersText_l0 {n : Nat} {K : ByteArray → List ByteArray → Option ByteArray} {c : ByteArray} {xs : List Int} (hb : ∀ x ∈ xs, -999999 ≤ x ∧ x ≤ 999999) (hl : xs.length ≤ 1000) : ∀ (j i : Nat) (acc : List ByteArray), xs.length - i < j → acc.length ≤ 2000 + i → i ≤ xs.length →
    impl_numbersText.l0 n K j c acc xs (xs.length : Int) (i : Int) = K c (acc ++ (xs.drop i).map itoaB)
  | 0, i, acc, h, _, _ => by omega
  | j + 1, i, acc, h, ha, hi => by
    unfold impl_numbersText.l0
    by_cases ci : i < xs.length
    · have wi : IntKind.wrap .i64 ((i : Int) + 1) = ((i + 1 : Nat) : Int) := by rw [w64s (by omega) (by omega)]; omega
      rw [if_pos (by simpa using ci), if_pos ⟨by omega, by omega⟩, Int.toNat_natCast, itoa_B (hb _ (getD_mem ci)), Option.bind_some, if_pos (by simp; omega), wi, numbersText_l0 hb hl j (i + 1) _ (by omega) (by simp; omega) (by omega),
        getD_drop (d := 0) ci, List.map_cons, List.append_assoc]
      rfl
    · rw [if_neg (by simpa using ci), List.drop_of_length_le (by omega)]
      simp
theorem numbersText_val {n : Nat} (hn : 2000 ≤ n) {c : UInt8} {xs : List Int} (hb : ∀ x ∈ xs, -999999 ≤ x ∧ x ≤ 999999) (hl : xs.length ≤ 1000) :
    impl_numbersText.F n xs ⟨#[c]⟩ = some ⟨(Lib.join (xs.map Lib.itoa) [c]).toArray⟩ := by
  unfold impl_numbersText.F
  have := numbersText_l0 (n := n) (c := ⟨#[c]⟩) (K := fun y2 y3 => (strJoin.F n y3 y2).bind fun r4 => some r4) hb hl n 0 [] (by omega) (by simp) (by omega)
  simp only [Int.natCast_zero] at this
  rw [this]
  have hm : (xs.map itoaB).map (·.data.toList) = xs.map Lib.itoa := by
    rw [List.map_map]
    rfl
  have hj := join_len (c := c) (map_itoa_len hb)
  simp only [List.nil_append, List.drop_zero, strJoin.F, hm, List.length_map]
  rw [List.length_map] at hj
  rw [if_pos ⟨by omega, by show (Lib.join (xs.map Lib.itoa) [c]).length ≤ _; omega⟩]
  rfl

/-! ### The doors -/
def doorT (d : Int × Int × Int) : List UInt8 := 32 :: (Lib.itoa d.1 ++ 45 :: (Lib.itoa d.2.1 ++ 45 :: Lib.itoa d.2.2))
def Num3 (d : Int × Int × Int) : Prop := (-999999 ≤ d.1 ∧ d.1 ≤ 999999) ∧ (-999999 ≤ d.2.1 ∧ d.2.1 ≤ 999999) ∧ (-999999 ≤ d.2.2 ∧ d.2.2 ≤ 999999)
theorem doorT_len {d : Int × Int × Int} (h : Num3 d) : (doorT d).length ≤ 24 := by
  have h1 := itoa_len h.1
  have h2 := itoa_len h.2.1
  have h3 := itoa_len h.2.2
  simp only [doorT, List.length_cons, List.length_append]
  omega
theorem door_join (d : Int × Int × Int) : (32 : UInt8) :: Lib.join ([d.1, d.2.1, d.2.2].map Lib.itoa) [45] = doorT d := by
  simp [Lib.join_cons, Lib.joinTail, doorT]
theorem mk_app (a : ByteArray) (l : List UInt8) : a ++ (⟨l.toArray⟩ : ByteArray) = ⟨(by_ a ++ l).toArray⟩ := by
  apply ba_ext
  rw [by_append, by_mk, by_mk]
theorem size_mk' (l : List UInt8) : (⟨l.toArray⟩ : ByteArray).size = l.length := rfl

theorem mazeText_l0 {n : Nat} (hn : 2000 ≤ n) {K : ByteArray → Option (ByteArray × Bool)} {ds : List (Int × Int × Int)} (hb : ∀ d ∈ ds, Num3 d) (hl : ds.length ≤ 1000) : ∀ (j i : Nat) (s : ByteArray), ds.length - i < j → s.size ≤ 100000 + 24 * i → i ≤ ds.length →
    impl_MazeText.l0 n K j s ds (ds.length : Int) (i : Int) = K ⟨(by_ s ++ (ds.drop i).flatMap doorT).toArray⟩
  | 0, i, s, h, _, _ => by omega
  | j + 1, i, s, h, ha, hi => by
    unfold impl_MazeText.l0
    by_cases ci : i < ds.length
    · have wi : IntKind.wrap .i64 ((i : Int) + 1) = ((i + 1 : Nat) : Int) := by rw [w64s (by omega) (by omega)]; omega
      have hd := hb _ (getD_mem (d := (0, 0, 0)) ci)
      rw [if_pos (by simpa using ci), if_pos ⟨by omega, by omega⟩, Int.toNat_natCast]
      have hnt := numbersText_val (n := n) hn (c := 45) (xs := [(ds.getD i (0, 0, 0)).1, (ds.getD i (0, 0, 0)).2.1, (ds.getD i (0, 0, 0)).2.2]) (by
        intro x hx
        simp only [List.mem_cons, List.not_mem_nil, or_false] at hx
        rcases hx with rfl | rfl | rfl
        · exact hd.1
        · exact hd.2.1
        · exact hd.2.2) (by simp)
      rw [hnt, Option.bind_some]
      have hdt := doorT_len hd
      rw [← door_join, List.length_cons] at hdt
      have hs1 : (⟨#[32]⟩ : ByteArray).size = 1 := rfl
      rw [hs1, size_mk', if_pos (by omega)]
      have e1 : (⟨#[32]⟩ : ByteArray) ++ ⟨(Lib.join ([(ds.getD i (0, 0, 0)).1, (ds.getD i (0, 0, 0)).2.1, (ds.getD i (0, 0, 0)).2.2].map Lib.itoa) [45]).toArray⟩ = ⟨(doorT (ds.getD i (0, 0, 0))).toArray⟩ := by
        rw [mk_app, ← door_join]
        rfl
      have hdt2 := doorT_len hd
      rw [e1, size_mk' (doorT (ds.getD i (0, 0, 0))), if_pos (by omega), wi, mk_app, mazeText_l0 hn hb hl j (i + 1) _ (by omega) (by rw [size_mk', List.length_append, ← by_size]; omega) (by omega), by_mk, getD_drop (d := (0, 0, 0)) ci, List.flatMap_cons, List.append_assoc]
    · rw [if_neg (by simpa using ci), List.drop_of_length_le (by omega)]
      simp only [List.flatMap_nil, List.append_nil, mk_by]

/-- The text of a maze. -/
def mazeT (N : Int) (ds : List (Int × Int × Int)) (ks : List Int) : List UInt8 := Lib.itoa N ++ 32 :: (Lib.join (ks.map Lib.itoa) [44] ++ ds.flatMap doorT)

structure SmallM (N : Int) (ds : List (Int × Int × Int)) (ks : List Int) : Prop where
  n : -999999 ≤ N ∧ N ≤ 999999
  d : ∀ d ∈ ds, Num3 d
  dl : ds.length ≤ 1000
  k : ∀ x ∈ ks, -999999 ≤ x ∧ x ≤ 999999
  kl : ks.length ≤ 1000
theorem VM.small {N : Int} {ds : List (Int × Int × Int)} {ks : List Int} (h : VM N ds ks) : SmallM N ds ks := by
  refine ⟨⟨by have := h.n1; omega, by have := h.n2; omega⟩, fun d hd => ?_, by have := h.dl; omega, fun x hx => ?_, by have := h.kl; have := h.n2; omega⟩
  · have := h.door d hd
    have := h.n2
    exact ⟨⟨by omega, by omega⟩, ⟨by omega, by omega⟩, ⟨by omega, by omega⟩⟩
  · have := h.keys x hx
    exact ⟨by omega, by omega⟩

open Classical in
theorem implText_val {n : Nat} (hn : 2000 ≤ n) {N : Int} {ds : List (Int × Int × Int)} {ks : List Int} (h : VM N ds ks) : impl_MazeText.F n N ds ks = some (⟨(mazeT N ds ks).toArray⟩, true) := by
  have hs := h.small
  unfold impl_MazeText.F
  have hv : decide (VM N ds ks) = true := by simpa using h
  rw [IsMaze_val (by omega), hv, Option.bind_some, if_neg (by simp), itoa_B hs.n, Option.bind_some]
  have h1 := itoa_len hs.n
  have hs1 : (⟨#[32]⟩ : ByteArray).size = 1 := rfl
  rw [itoaB_size, hs1, if_pos (by omega), numbersText_val hn hs.k hs.kl, Option.bind_some]
  have hj := join_len (c := 44) (map_itoa_len hs.k)
  rw [List.length_map] at hj
  have hkl := hs.kl
  have e0 : itoaB N ++ (⟨#[32]⟩ : ByteArray) = ⟨(Lib.itoa N ++ [32]).toArray⟩ := by
    have := mk_app (itoaB N) [32]
    exact this
  rw [e0, size_mk', size_mk', List.length_append, List.length_singleton, if_pos (by omega), mk_app]
  have hl := mazeText_l0 (n := n) hn (K := fun y5 => some (y5, true)) hs.d hs.dl n 0 ⟨(by_ ⟨(Lib.itoa N ++ [32]).toArray⟩ ++ Lib.join (ks.map Lib.itoa) [44]).toArray⟩ (by have := hs.dl; omega) (by
    rw [size_mk', by_mk, List.length_append, List.length_append, List.length_singleton]; omega) (by omega)
  simp only [Int.natCast_zero] at hl
  rw [hl]
  simp [mazeT, by_mk]

/-! ### The reference -/
theorem l2Text_l0 {n : Nat} (hn : 20 ≤ n) {N : Int} {ds : List (Int × Int × Int)} {ks : List Int} (hk : ∀ x ∈ ks, -999999 ≤ x ∧ x ≤ 999999) (hN : N = ks.length) (hl : ks.length ≤ 1000) {K : Int → List (Int × Int × Int) → List Int → ByteArray → Option ByteArray} :
    ∀ (j i : Nat) (s : ByteArray), ks.length - i < j → 1 ≤ i → i ≤ ks.length → s.size ≤ 100000 + 8 * i →
    spec_l2Text.l0 n K j N ds ks s (i : Int) = K N ds ks ⟨(by_ s ++ Lib.joinTail [44] ((ks.drop i).map Lib.itoa)).toArray⟩
  | 0, i, s, h, _, _, _ => by omega
  | j + 1, i, s, h, h1, hi, ha => by
    unfold spec_l2Text.l0
    by_cases ci : i < ks.length
    · have wi : IntKind.wrap .i64 ((i : Int) + 1) = ((i + 1 : Nat) : Int) := by rw [w64s (by omega) (by omega)]; omega
      have hx := hk _ (getD_mem (d := 0) ci)
      have hx7 := itoa_len hx
      have hs1 : (⟨#[44]⟩ : ByteArray).size = 1 := rfl
      have e0 : s ++ (⟨#[44]⟩ : ByteArray) = ⟨(by_ s ++ [44]).toArray⟩ := mk_app s [44]
      have hsz : s.size = s.data.toList.length := by_size s
      have hsz2 : s.size = (by_ s).length := by_size s
      rw [if_pos (by simp; omega), if_pos (by simp; omega), hs1, if_pos (by omega), if_pos ⟨by omega, by omega⟩, Int.toNat_natCast, num_B hn hx, Option.bind_some, e0, size_mk', itoaB_size, if_pos (by rw [List.length_append, List.length_singleton]; omega), wi]
      have e1 : (⟨(by_ s ++ [44]).toArray⟩ : ByteArray) ++ itoaB (ks.getD i 0) = ⟨(by_ s ++ 44 :: Lib.itoa (ks.getD i 0)).toArray⟩ := by
        unfold itoaB
        rw [mk_app, by_mk, List.append_assoc]
        rfl
      rw [e1, l2Text_l0 hn hk hN hl j (i + 1) _ (by omega) (by omega) (by omega) (by rw [size_mk', List.length_append, List.length_cons]; omega), by_mk, getD_drop (d := 0) ci, List.map_cons]
      simp [Lib.joinTail]
    · rw [if_neg (by simp; omega), List.drop_of_length_le (by omega)]
      simp [Lib.joinTail, mk_by]

theorem l2Text_l2 {n : Nat} (hn : 20 ≤ n) {N : Int} {ds : List (Int × Int × Int)} {ks : List Int} (hb : ∀ d ∈ ds, Num3 d) (hl : ds.length ≤ 1000) {K : ByteArray → Option ByteArray} :
    ∀ (j i : Nat) (s : ByteArray), ds.length - i < j → i ≤ ds.length → s.size ≤ 1000000 + 24 * i →
    spec_l2Text.l2 n K j N ds ks s (i : Int) = K ⟨(by_ s ++ (ds.drop i).flatMap doorT).toArray⟩
  | 0, i, s, h, _, _ => by omega
  | j + 1, i, s, h, hi, ha => by
    unfold spec_l2Text.l2
    by_cases ci : i < ds.length
    · have wi : IntKind.wrap .i64 ((i : Int) + 1) = ((i + 1 : Nat) : Int) := by rw [w64s (by omega) (by omega)]; omega
      have hd := hb _ (getD_mem (d := (0, 0, 0)) ci)
      have hc : 0 ≤ (i : Int) ∧ (i : Int) < (ds.length : Int) := ⟨by omega, by omega⟩
      have h1 := itoa_len hd.1
      have h2 := itoa_len hd.2.1
      have h3 := itoa_len hd.2.2
      have hs32 : (⟨#[32]⟩ : ByteArray).size = 1 := rfl
      have hs45 : (⟨#[45]⟩ : ByteArray).size = 1 := rfl
      have e0 : s ++ (⟨#[32]⟩ : ByteArray) = ⟨(by_ s ++ [32]).toArray⟩ := mk_app s [32]
      have e45 : ∀ l : List UInt8, (⟨l.toArray⟩ : ByteArray) ++ (⟨#[45]⟩ : ByteArray) = ⟨(l ++ [45]).toArray⟩ := fun l => mk_app ⟨l.toArray⟩ [45]
      have eI : ∀ (l : List UInt8) (v : Int), (⟨l.toArray⟩ : ByteArray) ++ itoaB v = ⟨(l ++ Lib.itoa v).toArray⟩ := fun l v => mk_app ⟨l.toArray⟩ _
      have hsz : s.size = s.data.toList.length := by_size s
      have hsz2 : s.size = (by_ s).length := by_size s
      rw [if_pos (by simpa using ci)]
      simp only [if_pos hc, Int.toNat_natCast, num_B hn hd.1, num_B hn hd.2.1, num_B hn hd.2.2, Option.bind_some, hs32, hs45, e0, e45, eI, size_mk', itoaB_size, wi]
      have lc : ∀ l m : List UInt8, (l ++ m).length = l.length + m.length := fun l m => List.length_append
      have l1 : ∀ b : UInt8, [b].length = 1 := fun _ => rfl
      rw [if_pos (by omega), if_pos (by simp only [lc, l1]; omega), if_pos (by simp only [lc, l1]; omega), if_pos (by simp only [lc, l1]; omega), if_pos (by simp only [lc, l1]; omega), if_pos (by simp only [lc, l1]; omega),
        l2Text_l2 hn hb hl j (i + 1) _ (by omega) (by omega) (by simp only [size_mk', lc, l1]; omega), by_mk, getD_drop (d := (0, 0, 0)) ci, List.flatMap_cons]
      simp [doorT]
    · rw [if_neg (by simpa using ci), List.drop_of_length_le (by omega)]
      simp only [List.flatMap_nil, List.append_nil, mk_by]

theorem l2Text_val {n : Nat} (hn : 2000 ≤ n) {N : Int} {ds : List (Int × Int × Int)} {ks : List Int} (hs : SmallM N ds ks) (hN : N = ks.length) (h0 : 1 ≤ ks.length) : spec_l2Text.F n N ds ks = some ⟨(mazeT N ds ks).toArray⟩ := by
  unfold spec_l2Text.F
  have h1 := itoa_len hs.n
  have hs32 : (⟨#[32]⟩ : ByteArray).size = 1 := rfl
  have e0 : itoaB N ++ (⟨#[32]⟩ : ByteArray) = ⟨(Lib.itoa N ++ [32]).toArray⟩ := mk_app (itoaB N) [32]
  have hkl := hs.kl
  have hdl := hs.dl
  rw [num_B (by omega) hs.n, Option.bind_some, itoaB_size, hs32, if_pos (by omega), e0]
  obtain ⟨m, rfl⟩ : ∃ m, n = m + 1 := ⟨n - 1, by omega⟩
  conv => lhs; unfold spec_l2Text.l0
  have hx := hs.k _ (getD_mem (d := 0) (i := 0) h0)
  have hx7 := itoa_len hx
  rw [if_pos (by simp; omega), if_neg (by simp), if_pos ⟨by omega, by omega⟩, show (0 : Int).toNat = 0 from rfl, num_B (by omega) hx, Option.bind_some, size_mk', itoaB_size, if_pos (by rw [List.length_append, List.length_singleton]; omega)]
  have e1 : (⟨(Lib.itoa N ++ [32]).toArray⟩ : ByteArray) ++ itoaB (ks.getD 0 0) = ⟨(Lib.itoa N ++ [32] ++ Lib.itoa (ks.getD 0 0)).toArray⟩ := mk_app ⟨(Lib.itoa N ++ [32]).toArray⟩ _
  have w1 : IntKind.wrap .i64 ((0 : Int) + 1) = ((1 : Nat) : Int) := by rw [w64s (by omega) (by omega)]; omega
  rw [e1, w1, l2Text_l0 (by omega) hs.k hN hs.kl m 1 _ (by omega) (by omega) (by omega) (by rw [size_mk']; simp only [List.length_append, List.length_singleton]; omega)]
  have hjt : (Lib.joinTail [44] ((ks.drop 1).map Lib.itoa)).length ≤ 8 * ks.length := by
    rw [Lib.joinTail_length]
    have := lens_le 7 ((ks.drop 1).map Lib.itoa) (map_itoa_len fun x hx => hs.k x (List.mem_of_mem_drop hx))
    rw [List.length_map, List.length_drop] at *
    simp only [List.length_singleton]
    omega
  have hl2 := l2Text_l2 (n := m + 1) (N := N) (ks := ks) (K := fun y11 => some y11) (by omega) hs.d hs.dl (m + 1) 0 ⟨(by_ ⟨(Lib.itoa N ++ [32] ++ Lib.itoa (ks.getD 0 0)).toArray⟩ ++ Lib.joinTail [44] ((ks.drop 1).map Lib.itoa)).toArray⟩ (by omega) (by omega) (by
    rw [size_mk', by_mk, List.length_append]; simp only [List.length_append, List.length_singleton]; omega)
  simp only [Int.natCast_zero] at hl2
  rw [hl2]
  have e2 : ks = ks.getD 0 0 :: ks.drop 1 := by
    have := getD_drop (d := 0) (i := 0) h0
    simpa using this
  congr 2
  unfold mazeT
  have e3 : Lib.join (ks.map Lib.itoa) [44] = Lib.itoa (ks.getD 0 0) ++ Lib.joinTail [44] ((ks.drop 1).map Lib.itoa) := by
    conv => lhs; rw [e2]
    rw [List.map_cons, Lib.join_cons]
  rw [e3, by_mk, by_mk]
  simp

open Classical in
theorem mazeText_same {n : Nat} (hn : 2000 ≤ n) (N : Int) (ds : List (Int × Int × Int)) (ks : List Int) : ∃ r, spec_MazeText.F n N ds ks = some r ∧ impl_MazeText.F n N ds ks = some r := by
  by_cases h : VM N ds ks
  · refine ⟨_, ?_, implText_val hn h⟩
    have hv : decide (VM N ds ks) = true := by simpa using h
    unfold spec_MazeText.F
    rw [l2Maze_val (by omega), hv, Option.bind_some, if_neg (by simp), l2Text_val hn h.small h.kl.symm (by have := h.kl; have := h.n1; omega)]
    rfl
  · have hv : decide (VM N ds ks) = false := by simpa using h
    refine ⟨(ByteArray.empty, false), ?_, ?_⟩
    · unfold spec_MazeText.F
      rw [l2Maze_val (by omega), hv]
      rfl
    · unfold impl_MazeText.F
      rw [IsMaze_val (by omega), hv]
      rfl
end Go.Pv
