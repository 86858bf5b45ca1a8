/- Plain laws: a maze that is read from a text. -/
import Derived.Test.YtfgncboicamdjaaGreatDoorPvMText
import Derived.Test.YtfgncboicamdjaaGreatDoorPvParse
set_option linter.unusedVariables false
set_option linter.unusedSimpArgs false
set_option autoImplicit false
namespace Go.Pv
open Go Go.Fx Go.Pf

/-! ### Numbers -/
/-- A text read as a number. -/
def rd (w : List UInt8) : Option Int := match Lib.atoiAll w with
  | .ok v => if (-999999 ≤ v ∧ v ≤ 999999) ∧ Lib.itoa v = w then some v else none
  | _ => none
theorem rd_some {w : List UInt8} {v : Int} (h : rd w = some v) : (-999999 ≤ v ∧ v ≤ 999999) ∧ Lib.itoa v = w := by
  unfold rd at h
  split at h
  · split at h
    · rename_i c
      cases h
      exact c
    · cases h
  · cases h
theorem rd_itoa {v : Int} (h : -999999 ≤ v ∧ v ≤ 999999) : rd (Lib.itoa v) = some v := by
  unfold rd
  rw [atoi_itoa h]
  simp only
  rw [if_pos ⟨h, trivial⟩]
def oneR : Option Int → Int × Bool
  | some v => (v, true)
  | none => (0, false)
theorem parse_rd {n : Nat} {s : ByteArray} (hs : s.size ≤ 1048576) : strParse.F n s = some (oneR (rd (by_ s))) := by
  cases h : rd (by_ s) with
  | some v =>
    obtain ⟨h1, h2⟩ := rd_some h
    exact implParse_yes hs ⟨h1, h2⟩
  | none =>
    refine implParse_no hs fun v hv => ?_
    have := rd_itoa hv.1
    rw [hv.2, h] at this
    cases this
theorem read_rd {n : Nat} (hn : 100 ≤ n) {s : ByteArray} (hs : s.size ≤ 1048576) : spec_l1Read.F n s = some (oneR (rd (by_ s))) := by
  rw [read_eq hn hs, parse_rd hs]
def rdAll : List (List UInt8) → Option (List Int)
  | [] => some []
  | p :: ps => match rd p, rdAll ps with
    | some v, some vs => some (v :: vs)
    | _, _ => none
theorem rdAll_some : ∀ {ps : List (List UInt8)} {l : List Int}, rdAll ps = some l → ps = l.map Lib.itoa ∧ ∀ x ∈ l, -999999 ≤ x ∧ x ≤ 999999
  | [], l, h => by
    simp only [rdAll, Option.some.injEq] at h
    subst h
    exact ⟨rfl, by simp⟩
  | p :: ps, l, h => by
    simp only [rdAll] at h
    split at h
    · rename_i v vs h1 h2
      simp only [Option.some.injEq] at h
      subst h
      obtain ⟨a1, a2⟩ := rdAll_some h2
      obtain ⟨b1, b2⟩ := rd_some h1
      exact ⟨by rw [List.map_cons, b2, ← a1], by
        intro x hx
        rcases List.mem_cons.1 hx with rfl | hx
        · exact b1
        · exact a2 x hx⟩
    · cases h
theorem rdAll_len {ps : List (List UInt8)} {l : List Int} (h : rdAll ps = some l) : l.length = ps.length := by
  rw [(rdAll_some h).1, List.length_map]
theorem rdAll_map : ∀ {l : List Int}, (∀ x ∈ l, -999999 ≤ x ∧ x ≤ 999999) → rdAll (l.map Lib.itoa) = some l
  | [], _ => rfl
  | x :: l, h => by
    simp only [List.map_cons, rdAll, rd_itoa (h x (List.mem_cons_self ..)), rdAll_map fun y hy => h y (List.mem_cons_of_mem _ hy)]
theorem rdAll_take {ps : List (List UInt8)} {l : List Int} (k : Nat) (h : rdAll ps = some l) : rdAll (ps.take k) = some (l.take k) := by
  obtain ⟨h1, h2⟩ := rdAll_some h
  rw [h1, ← List.map_take]
  exact rdAll_map fun x hx => h2 x (List.mem_of_mem_take hx)
def manyR : Option (List Int) → List Int × Bool
  | some l => (l, true)
  | none => ([], false)
theorem spl_part (c : UInt8) {l p : List UInt8} (h : p ∈ spl c l) : p.length ≤ l.length := by
  have hj := join_spl c l
  cases hs : spl c l with
  | nil => rw [hs] at h; cases h
  | cons x r =>
    rw [hs] at h hj
    rw [Lib.join_cons] at hj
    have hl : (x ++ Lib.joinTail [c] r).length = l.length := by rw [hj]
    rw [List.length_append, Lib.joinTail_length] at hl
    have : ∀ (r : List (List UInt8)), p ∈ r → p.length ≤ Lib.lens r := by
      intro r
      induction r with
      | nil => intro h; cases h
      | cons y r ih =>
        intro h
        simp only [Lib.lens, List.map_cons, List.sum_cons]
        rcases List.mem_cons.1 h with rfl | h
        · omega
        · have := ih h
          unfold Lib.lens at this
          omega
    rcases List.mem_cons.1 h with rfl | h
    · omega
    · have := this r h
      omega

theorem implNums_l0 {n : Nat} {K : List Int → Option (List Int × Bool)} {parts : List ByteArray} (hp : ∀ p ∈ parts, p.size ≤ 1048576) (hl : parts.length ≤ 2000000) : ∀ (j i : Nat) (acc : List Int), parts.length - i < j → acc.length ≤ i → i ≤ parts.length →
    impl_numbers.l0 n K j acc parts (parts.length : Int) (i : Int) = match rdAll ((parts.map by_).drop i) with | some l => K (acc ++ l) | none => some ([], false)
  | 0, i, acc, h, _, _ => by omega
  | j + 1, i, acc, h, ha, hi => by
    unfold impl_numbers.l0
    by_cases ci : i < parts.length
    · have wi : IntKind.wrap .i64 ((i : Int) + 1) = ((i + 1 : Nat) : Int) := by rw [w64s (by omega) (by omega)]; omega
      have ed : (parts.map by_).drop i = by_ (parts.getD i ByteArray.empty) :: (parts.map by_).drop (i + 1) := by
        rw [← List.map_drop, getD_drop (d := ByteArray.empty) ci, List.map_cons, List.map_drop]
      rw [if_pos (by simpa using ci), if_pos ⟨by omega, by omega⟩, Int.toNat_natCast, parse_rd (hp _ (getD_mem ci)), Option.bind_some, ed]
      cases hr : rd (by_ (parts.getD i ByteArray.empty)) with
      | none =>
        rw [if_pos (by simp [oneR])]
        simp only [rdAll, hr]
      | some v =>
        rw [if_neg (by simp [oneR]), if_pos (by simp [oneR]; omega), wi, implNums_l0 hp hl j (i + 1) _ (by omega) (by simp [oneR]; omega) (by omega)]
        simp only [rdAll, hr, oneR]
        cases rdAll ((parts.map by_).drop (i + 1)) with
        | none => rfl
        | some l => simp
    · rw [if_neg (by simpa using ci), List.drop_of_length_le (by simp; omega)]
      simp [rdAll]
theorem split_parts {n : Nat} {s sep : ByteArray} {c : UInt8} (hs : s.size ≤ 1048576) (hc : by_ sep = [c]) : ∃ parts, strSplit.F n s sep = some parts ∧ parts.map by_ = spl c (by_ s) ∧ (∀ p ∈ parts, p.size ≤ 1048576) ∧ parts.length ≤ 1048577 := by
  refine ⟨Lib.splitB sep 0 (Lib.countB s sep) s, ?_, splitB_spl hc s, ?_, ?_⟩
  · unfold strSplit.F
    rw [if_pos ⟨by omega, by rw [by_size, hc]; simp⟩]
  · intro p hp
    have h1 : by_ p ∈ spl c (by_ s) := by
      rw [← splitB_spl hc s]
      exact List.mem_map.2 ⟨p, hp, rfl⟩
    have h2 := spl_part c h1
    rw [by_size] at hs ⊢
    omega
  · have h1 : ((Lib.splitB sep 0 (Lib.countB s sep) s).map by_).length = _ := congrArg List.length (splitB_spl hc s)
    have h2 := spl_length c (by_ s)
    rw [List.length_map] at h1
    rw [by_size] at hs
    omega
theorem implNums_val {n : Nat} (hn : 2000000 ≤ n) {s sep : ByteArray} {c : UInt8} (hs : s.size ≤ 1048576) (hc : by_ sep = [c]) : impl_numbers.F n s sep = some (manyR (rdAll (spl c (by_ s)))) := by
  obtain ⟨parts, h1, h2, h3, h4⟩ := split_parts (n := n) hs hc
  unfold impl_numbers.F
  rw [h1, Option.bind_some]
  have := implNums_l0 (n := n) (K := fun y3 => some (y3, true)) h3 (by omega) n 0 [] (by omega) (by simp) (by omega)
  simp only [Int.natCast_zero] at this
  rw [this, List.drop_zero, h2]
  cases rdAll (spl c (by_ s)) <;> simp [manyR]
theorem specSplit_parts {n : Nat} (hn : 2000000 ≤ n) {s : ByteArray} (c : UInt8) (hs : s.size ≤ 1048576) : ∃ parts, spec_l1Split.F n s (c.toNat : Int) = some parts ∧ parts.map by_ = spl c (by_ s) ∧ (∀ p ∈ parts, p.size ≤ 1048576) ∧ parts.length ≤ 1048577 := by
  refine ⟨_, l1Split_val c hs (by omega), ?_, ?_, ?_⟩
  · rw [List.map_map]
    have : (by_ ∘ fun l : List UInt8 => (⟨l.toArray⟩ : ByteArray)) = id := funext fun l => by_mk l
    rw [this, List.map_id]
  · intro p hp
    obtain ⟨l, hl, rfl⟩ := List.mem_map.1 hp
    have h2 := spl_part c hl
    rw [by_size] at hs
    rw [size_mk' l]
    omega
  · rw [List.length_map]
    have h2 := spl_length c (by_ s)
    rw [by_size] at hs
    omega
theorem specNums_l0 {n : Nat} (hn : 100 ≤ n) {K : List Int → Option (List Int × Bool)} {parts : List ByteArray} {most : Nat} (hm : most ≤ 100) (hp : ∀ p ∈ parts, p.size ≤ 1048576) (hl : parts.length ≤ 2000000) : ∀ (j i : Nat) (acc : List Int), parts.length - i < j → acc.length ≤ i → i ≤ parts.length →
    spec_l2Numbers.l0 n K j (most : Int) acc parts (i : Int) = match rdAll (((parts.map by_).drop i).take (most + 1 - i)) with | some l => K (acc ++ l) | none => some ([], false)
  | 0, i, acc, h, _, _ => by omega
  | j + 1, i, acc, h, ha, hi => by
    unfold spec_l2Numbers.l0
    by_cases ci : i < parts.length
    · by_cases cm : i ≤ most
      · have wi : IntKind.wrap .i64 ((i : Int) + 1) = ((i + 1 : Nat) : Int) := by rw [w64s (by omega) (by omega)]; omega
        have ed : ((parts.map by_).drop i).take (most + 1 - i) = by_ (parts.getD i ByteArray.empty) :: ((parts.map by_).drop (i + 1)).take (most + 1 - (i + 1)) := by
          rw [← List.map_drop, getD_drop (d := ByteArray.empty) ci, List.map_cons, List.map_drop, show most + 1 - i = (most + 1 - (i + 1)) + 1 by omega, List.take_succ_cons]
        rw [if_pos (by simpa using ci), if_pos (by simpa using cm), if_pos ⟨by omega, by omega⟩, Int.toNat_natCast, read_rd hn (hp _ (getD_mem ci)), Option.bind_some, ed]
        cases hr : rd (by_ (parts.getD i ByteArray.empty)) with
        | none =>
        rw [if_pos (by simp [oneR])]
        simp only [rdAll, hr]
        | some v =>
          rw [if_neg (by simp [oneR]), if_pos (by simp [oneR]; omega), wi, specNums_l0 hn hm hp hl j (i + 1) _ (by omega) (by simp [oneR]; omega) (by omega)]
          simp only [rdAll, hr, oneR]
          cases rdAll (((parts.map by_).drop (i + 1)).take (most + 1 - (i + 1))) with
          | none => rfl
          | some l => simp
      · rw [if_pos (by simpa using ci), if_neg (by simpa using cm), show most + 1 - i = 0 by omega, List.take_zero]
        simp [rdAll]
    · rw [if_neg (by simpa using ci), List.drop_of_length_le (by simp; omega)]
      simp [rdAll]
theorem specNums_val {n : Nat} (hn : 2000000 ≤ n) {s : ByteArray} (c : UInt8) {most : Nat} (hm : most ≤ 100) (hs : s.size ≤ 1048576) : spec_l2Numbers.F n s (c.toNat : Int) (most : Int) = some (manyR (rdAll ((spl c (by_ s)).take (most + 1)))) := by
  obtain ⟨parts, h1, h2, h3, h4⟩ := specSplit_parts hn c hs
  unfold spec_l2Numbers.F
  rw [h1, Option.bind_some]
  have := specNums_l0 (n := n) (K := fun y3 => some (y3, true)) (by omega) hm h3 (by omega) n 0 [] (by omega) (by simp) (by omega)
  simp only [Int.natCast_zero] at this
  rw [this, List.drop_zero, h2, Nat.sub_zero]
  cases rdAll ((spl c (by_ s)).take (most + 1)) <;> simp [manyR]

/-! ### Doors -/
def tri : Option (List Int) → Option (Int × Int × Int)
  | some [a, b, c] => some (a, b, c)
  | _ => none
def rdD (w : List UInt8) : Option (Int × Int × Int) := tri (rdAll (spl 45 w))
theorem rdD_four (w : List UInt8) : tri (rdAll ((spl 45 w).take 4)) = rdD w := by
  unfold rdD
  by_cases h : (spl 45 w).length ≤ 4
  · rw [List.take_of_length_le h]
  · have no : ∀ {o : Option (List Int)}, (∀ l, o = some l → l.length ≠ 3) → tri o = none := by
      intro o ho
      match o, ho with
      | none, _ => rfl
      | some [], _ => rfl
      | some [a], _ => rfl
      | some [a, b], _ => rfl
      | some [a, b, c], ho => exact absurd rfl (ho _ rfl)
      | some (a :: b :: c :: d :: l), _ => rfl
    rw [no, no]
    · intro l hl
      have := rdAll_len hl
      omega
    · intro l hl
      have := rdAll_len hl
      rw [List.length_take] at this
      omega
theorem not3 {l : List Int} (h : l.length ≠ 3) : (!decide (((manyR (some l)).1.length : Int) = (3 : Int))) = true := by
  have : ¬ ((l.length : Int) = 3) := by omega
  simp [manyR, this]
theorem tri_some {o : Option (List Int)} {d : Int × Int × Int} (h : tri o = some d) : o = some [d.1, d.2.1, d.2.2] := by
  unfold tri at h
  split at h
  · cases h; rfl
  · cases h
theorem tri_none {o : Option (List Int)} (h : tri o = none) : o = none ∨ ∃ l, o = some l ∧ l.length ≠ 3 := by
  match o, h with
  | none, _ => exact .inl rfl
  | some [], _ => exact .inr ⟨_, rfl, by simp⟩
  | some [a], _ => exact .inr ⟨_, rfl, by simp⟩
  | some [a, b], _ => exact .inr ⟨_, rfl, by simp⟩
  | some [a, b, c], h => cases h
  | some (a :: b :: c :: d :: l), _ => exact .inr ⟨_, rfl, by simp⟩
def rdDs : List (List UInt8) → Option (List (Int × Int × Int))
  | [] => some []
  | p :: ps => match rdD p, rdDs ps with
    | some v, some vs => some (v :: vs)
    | _, _ => none
theorem rdD_some {w : List UInt8} {d : Int × Int × Int} (h : rdD w = some d) : 32 :: w = doorT d ∧ Num3 d := by
  have h1 := tri_some h
  obtain ⟨h2, h3⟩ := rdAll_some h1
  have hj := join_spl 45 w
  rw [h2] at hj
  refine ⟨?_, ?_⟩
  · rw [← hj]
    exact door_join d
  · exact ⟨h3 _ (by simp), h3 _ (by simp), h3 _ (by simp)⟩
theorem rdDs_some : ∀ {ps : List (List UInt8)} {l : List (Int × Int × Int)}, rdDs ps = some l → Lib.joinTail [32] ps = l.flatMap doorT ∧ l.length = ps.length ∧ ∀ d ∈ l, Num3 d
  | [], l, h => by
    simp only [rdDs, Option.some.injEq] at h
    subst h
    exact ⟨rfl, rfl, by simp⟩
  | p :: ps, l, h => by
    simp only [rdDs] at h
    split at h
    · rename_i v vs h1 h2
      simp only [Option.some.injEq] at h
      subst h
      obtain ⟨a1, a2, a3⟩ := rdDs_some h2
      obtain ⟨b1, b2⟩ := rdD_some h1
      refine ⟨?_, by simp [a2], ?_⟩
      · rw [List.flatMap_cons, ← a1, ← b1]
        simp [Lib.joinTail]
      · intro x hx
        rcases List.mem_cons.1 hx with rfl | hx
        · exact b2
        · exact a3 x hx
    · cases h

abbrev MR := Int × List (Int × Int × Int) × List Int × Bool
def badM : MR := (0, [], [], false)
theorem implParse_l0 {n : Nat} (hn : 2000000 ≤ n) {K : Int → List (Int × Int × Int) → List Int → Bool → Bool → Int → List (Int × Int × Int) → List Int → Option MR} {a e : Int} {b : List (Int × Int × Int)} {c k : List Int} {p q : Bool} {ws : List ByteArray}
    (hp : ∀ p ∈ ws, p.size ≤ 1048576) (hl : ws.length ≤ 2000000) : ∀ (j i : Nat) (acc : List (Int × Int × Int)), ws.length - i < j → acc.length ≤ i → i ≤ ws.length →
    impl_ParseMaze.l0 n K j a b c p q e acc k ws (ws.length : Int) (i : Int) = match rdDs ((ws.map by_).drop i) with | some l => K a b c p q e (acc ++ l) k | none => some badM
  | 0, i, acc, h, _, _ => by omega
  | j + 1, i, acc, h, ha, hi => by
    unfold impl_ParseMaze.l0
    by_cases ci : i < ws.length
    · have wi : IntKind.wrap .i64 ((i : Int) + 1) = ((i + 1 : Nat) : Int) := by rw [w64s (by omega) (by omega)]; omega
      have ed : (ws.map by_).drop i = by_ (ws.getD i ByteArray.empty) :: (ws.map by_).drop (i + 1) := by
        rw [← List.map_drop, getD_drop (d := ByteArray.empty) ci, List.map_cons, List.map_drop]
      rw [if_pos (by simpa using ci), if_pos ⟨by omega, by omega⟩, Int.toNat_natCast, implNums_val hn (hp _ (getD_mem ci)) (c := 45) rfl, Option.bind_some, ed]
      cases hr : rdD (by_ (ws.getD i ByteArray.empty)) with
      | none =>
        rcases tri_none hr with h0 | ⟨l, h0, h1⟩
        · rw [h0, if_pos (by simp [manyR])]
          simp only [rdDs, hr, badM]
        · rw [h0, if_neg (by simp [manyR]), if_pos (not3 h1)]
          simp only [rdDs, hr, badM]
      | some d =>
        have h0 := tri_some hr
        rw [h0, if_neg (by simp [manyR]), if_neg (by simp [manyR]), if_pos (by simp [manyR]), if_pos (by simp [manyR]), if_pos (by simp; omega), wi]
        simp only [manyR, List.getD_cons_zero, List.getD_cons_succ]
        rw [implParse_l0 hn hp hl j (i + 1) _ (by omega) (by simp; omega) (by omega)]
        simp only [rdDs, hr]
        cases rdDs ((ws.map by_).drop (i + 1)) with
        | none => rfl
        | some l => simp
    · rw [if_neg (by simpa using ci), List.drop_of_length_le (by simp; omega)]
      simp [rdDs]
theorem specParse_l0 {n : Nat} (hn : 2000000 ≤ n) {K : ByteArray → Int → List (Int × Int × Int) → List Int → Bool → Bool → Int → List (Int × Int × Int) → List Int → Option MR} {s : ByteArray} {a e : Int} {b : List (Int × Int × Int)} {c k : List Int} {ws : List ByteArray}
    (hp : ∀ p ∈ ws, p.size ≤ 1048576) (hl : ws.length ≤ 2000000) : ∀ (j i : Nat) (acc : List (Int × Int × Int)), ws.length - i < j → acc.length ≤ i → i ≤ ws.length →
    spec_ParseMaze.l0 n K j s a b c ws true true e acc k (i : Int) = match rdDs ((ws.map by_).drop i) with | some l => K s a b c true true e (acc ++ l) k | none => some badM
  | 0, i, acc, h, _, _ => by omega
  | j + 1, i, acc, h, ha, hi => by
    unfold spec_ParseMaze.l0
    by_cases ci : i < ws.length
    · have wi : IntKind.wrap .i64 ((i : Int) + 1) = ((i + 1 : Nat) : Int) := by rw [w64s (by omega) (by omega)]; omega
      have ed : (ws.map by_).drop i = by_ (ws.getD i ByteArray.empty) :: (ws.map by_).drop (i + 1) := by
        rw [← List.map_drop, getD_drop (d := ByteArray.empty) ci, List.map_cons, List.map_drop]
      have hv := specNums_val hn (s := ws.getD i ByteArray.empty) 45 (most := 3) (by omega) (hp _ (getD_mem ci))
      have e45 : (((45 : UInt8).toNat : Nat) : Int) = 45 := rfl
      have e3 : ((3 : Nat) : Int) = 3 := rfl
      rw [e45, e3] at hv
      rw [if_pos (by simpa using ci), if_pos rfl, if_pos rfl, if_pos ⟨by omega, by omega⟩, Int.toNat_natCast, hv, Option.bind_some, ed]
      have hf := rdD_four (by_ (ws.getD i ByteArray.empty))
      cases hr : rdD (by_ (ws.getD i ByteArray.empty)) with
      | none =>
        rw [hr] at hf
        rcases tri_none hf with h0 | ⟨l, h0, h1⟩
        · rw [h0, if_pos (by simp [manyR])]
          simp only [rdDs, hr, badM]
        · rw [h0, if_neg (by simp [manyR]), if_pos (not3 h1)]
          simp only [rdDs, hr, badM]
      | some d =>
        rw [hr] at hf
        have h0 := tri_some hf
        rw [h0, if_neg (by simp [manyR]), if_neg (by simp [manyR]), if_pos (by simp [manyR]), if_pos (by simp [manyR]), if_pos (by simp [manyR]), if_pos (by simp; omega), wi]
        simp only [manyR, List.getD_cons_zero, List.getD_cons_succ]
        rw [specParse_l0 hn hp hl j (i + 1) _ (by omega) (by simp; omega) (by omega)]
        simp only [rdDs, hr]
        cases rdDs ((ws.map by_).drop (i + 1)) with
        | none => rfl
        | some l => simp
    · rw [if_neg (by simpa using ci), List.drop_of_length_le (by simp; omega)]
      simp [rdDs]
theorem specParse_l0_no {n j : Nat} {K : ByteArray → Int → List (Int × Int × Int) → List Int → Bool → Bool → Int → List (Int × Int × Int) → List Int → Option MR} {s : ByteArray} {a e i : Int} {b acc : List (Int × Int × Int)} {c k : List Int} {ws : List ByteArray} {p q : Bool} (h : p = false ∨ q = false) :
    spec_ParseMaze.l0 n K (j + 1) s a b c ws p q e acc k i = K s a b c p q e acc k := by
  unfold spec_ParseMaze.l0
  rcases h with rfl | rfl
  · split <;> simp
  · split <;> cases p <;> simp

/-! ### A whole maze -/
open Classical in
/-- What is read. -/
noncomputable def resM (t : List UInt8) : MR := match spl 32 t with
  | w0 :: w1 :: ws => match rd w0, rdAll (spl 44 w1), rdDs ws with
    | some N, some ks, some ds => if VM N ds ks then (N, ds, ks, true) else badM
    | _, _, _ => badM
  | _ => badM
theorem text_of {t w0 w1 : List UInt8} {ws : List (List UInt8)} (h : spl 32 t = w0 :: w1 :: ws) {N : Int} {ks : List Int} {ds : List (Int × Int × Int)} (h0 : rd w0 = some N) (h1 : rdAll (spl 44 w1) = some ks) (h2 : rdDs ws = some ds) : t = mazeT N ds ks := by
  have hj := join_spl 32 t
  rw [h, Lib.join_cons] at hj
  have e0 := (rd_some h0).2
  have e1 := (rdAll_some h1).1
  have e1' := join_spl 44 w1
  rw [e1] at e1'
  have e2 := (rdDs_some h2).1
  rw [← hj]
  unfold mazeT
  rw [← e0]
  have : Lib.joinTail [32] (w1 :: ws) = 32 :: (w1 ++ Lib.joinTail [32] ws) := by simp [Lib.joinTail]
  rw [this, e2, ← e1']
theorem mazeT_len {N : Int} {ds : List (Int × Int × Int)} {ks : List Int} (h : VM N ds ks) : (mazeT N ds ks).length ≤ 4000 := by
  have hs := h.small
  have h1 := itoa_len hs.n
  have hj := join_len (c := 44) (map_itoa_len hs.k)
  rw [List.length_map] at hj
  have hk := h.kl
  have hN := h.n2
  have hd : ∀ l : List (Int × Int × Int), (∀ d ∈ l, Num3 d) → (l.flatMap doorT).length ≤ 24 * l.length := by
    intro l
    induction l with
    | nil => intro _; simp
    | cons d l ih =>
      intro h
      have := ih fun x hx => h x (List.mem_cons_of_mem _ hx)
      have := doorT_len (h d (List.mem_cons_self ..))
      rw [List.flatMap_cons, List.length_append, List.length_cons]
      omega
    done
  have h3 := hd ds hs.d
  have h4 := h.dl
  unfold mazeT
  simp only [List.length_append, List.length_cons]
  omega
open Classical in
theorem resM_len' (t : List UInt8) : (resM t).2.1.length ≤ 1048576 ∧ (resM t).2.2.1.length ≤ 1048576 := by
  unfold resM
  split
  · split
    · split
      · rename_i hv
        have h1 := hv.dl
        have h2 := hv.kl
        have h3 := hv.n2
        exact ⟨by simp only; omega, by simp only; omega⟩
      · simp [badM]
    · simp [badM]
  · simp [badM]
open Classical in
theorem resM_big {t : List UInt8} (h : 4000 < t.length) : resM t = badM := by
  unfold resM
  split
  · rename_i w0 w1 ws hw
    split
    · rename_i N ks ds h0 h1 h2
      split
      · rename_i hv
        have := text_of hw h0 h1 h2
        have := mazeT_len hv
        rw [← text_of hw h0 h1 h2] at this
        omega
      · rfl
    · rfl
  · rfl

open Classical in
theorem implParseM_val {n : Nat} (hn : 2000000 ≤ n) {s : ByteArray} (hs : s.size ≤ 1048576) : impl_ParseMaze.F n s = some (resM (by_ s)) := by
  obtain ⟨parts, h1, h2, h3, h4⟩ := split_parts (n := n) (sep := ⟨#[32]⟩) (c := 32) hs rfl
  unfold impl_ParseMaze.F
  rw [h1, Option.bind_some]
  simp only
  by_cases c1 : s.size > 4000
  · rw [if_pos (by simp; omega), resM_big (by rw [← by_size]; exact c1)]
    rfl
  rw [if_neg (by simp; omega)]
  match parts, h2, h3, h4 with
  | [], h2, _, _ => exact absurd h2.symm (spl_ne _ _)
  | [p], h2, _, _ =>
    rw [if_pos (by simp)]
    have : resM (by_ s) = badM := by
      unfold resM
      rw [← h2]
      rfl
    rw [this]
    rfl
  | w0 :: w1 :: ws, h2, h3, h4 =>
    have hl : (((w0 :: w1 :: ws).length : Nat) : Int) = (ws.length : Int) + 2 := by simp; omega
    rw [if_neg (by simp; omega), hl]
    simp only [List.getD_cons_zero, List.getD_cons_succ, List.drop_succ_cons, List.drop_zero]
    rw [if_pos ⟨by omega, by omega⟩, parse_rd (h3 w0 (by simp)), Option.bind_some, if_pos ⟨by omega, by omega⟩, implNums_val hn (h3 w1 (by simp)) (c := 44) rfl, Option.bind_some, if_pos ⟨by omega, by omega⟩]
    have hl0 := fun K a b c p q e k => implParse_l0 (n := n) hn (K := K) (a := a) (b := b) (c := c) (p := p) (q := q) (e := e) (k := k) (ws := ws) (fun p hp => h3 p (by simp [hp])) (by simp at h4; omega) n 0 [] (by simp at h4; omega) (by simp) (by omega)
    simp only [Int.natCast_zero] at hl0
    rw [hl0]
    simp only [List.drop_zero, List.nil_append]
    have hr : resM (by_ s) = match rd (by_ w0), rdAll (spl 44 (by_ w1)), rdDs (ws.map by_) with
      | some N, some ks, some ds => if VM N ds ks then (N, ds, ks, true) else badM
      | _, _, _ => badM := by
      unfold resM
      rw [← h2]
      rfl
    rw [hr]
    cases hD : rdDs (ws.map by_) with
    | none =>
      cases rd (by_ w0) <;> cases rdAll (spl 44 (by_ w1)) <;> rfl
    | some ds =>
      cases hA : rd (by_ w0) with
      | none => rfl
      | some N =>
        cases hB : rdAll (spl 44 (by_ w1)) with
        | none => rfl
        | some ks =>
          show (impl_IsMaze.F n N ds ks).bind _ = _
          rw [IsMaze_val (by omega), Option.bind_some]
          by_cases hv : VM N ds ks
          · rw [if_neg (by simp [hv])]
            show some (N, ds, ks, true) = some (if VM N ds ks then (N, ds, ks, true) else badM)
            rw [if_pos hv]
          · rw [if_pos (by simp [hv])]
            show some badM = some (if VM N ds ks then (N, ds, ks, true) else badM)
            rw [if_neg hv]

open Classical in
theorem specParseM_val {n : Nat} (hn : 2000000 ≤ n) {s : ByteArray} (hs : s.size ≤ 1048576) : spec_ParseMaze.F n s = some (resM (by_ s)) := by
  obtain ⟨parts, h1, h2, h3, h4⟩ := specSplit_parts hn 32 hs
  have e32 : (((32 : UInt8).toNat : Nat) : Int) = 32 := rfl
  rw [e32] at h1
  unfold spec_ParseMaze.F
  rw [h1, Option.bind_some, l1In_eq, Option.bind_some]
  match parts, h2, h3, h4 with
  | [], h2, _, _ => exact absurd h2.symm (spl_ne _ _)
  | [p], h2, _, _ =>
    rw [if_pos (by simp)]
    have : resM (by_ s) = badM := by
      unfold resM
      rw [← h2]
      rfl
    rw [this]
    rfl
  | w0 :: w1 :: ws, h2, h3, h4 =>
    have hr : resM (by_ s) = match rd (by_ w0), rdAll (spl 44 (by_ w1)), rdDs (ws.map by_) with
      | some N, some ks, some ds => if VM N ds ks then (N, ds, ks, true) else badM
      | _, _, _ => badM := by
      unfold resM
      rw [← h2]
      rfl
    have hl : (((w0 :: w1 :: ws).length : Nat) : Int) = (ws.length : Int) + 2 := by simp; omega
    rw [hl]
    by_cases c1 : ws.length ≤ 30
    · have c1' : (!(decide ((2 : Int) ≤ (ws.length : Int) + 2) && decide ((ws.length : Int) + 2 ≤ 32))) = false := by
        have a1 : (2 : Int) ≤ (ws.length : Int) + 2 := by omega
        have a2 : (ws.length : Int) + 2 ≤ 32 := by omega
        simp [a1, a2]
      rw [c1', if_neg (by simp), if_pos ⟨by omega, by omega⟩]
      simp only [List.getD_cons_zero, List.getD_cons_succ]
      have hv := specNums_val hn (s := w1) 44 (most := 12) (by omega) (h3 w1 (by simp))
      have e44 : (((44 : UInt8).toNat : Nat) : Int) = 44 := rfl
      have e12 : ((12 : Nat) : Int) = 12 := rfl
      rw [e44, e12] at hv
      rw [read_rd (by omega) (h3 w0 (by simp)), Option.bind_some, if_pos ⟨by omega, by omega⟩, hv, Option.bind_some]
      unfold spec_ParseMaze.c6
      obtain ⟨m, rfl⟩ : ∃ m, n = m + 1 := ⟨n - 1, by omega⟩
      rw [hr]
      cases hA : rd (by_ w0) with
      | none =>
        refine (specParse_l0_no (.inl rfl)).trans ?_
        rfl
      | some N =>
        cases hB' : rdAll ((spl 44 (by_ w1)).take (12 + 1)) with
        | none =>
          refine (specParse_l0_no (.inr rfl)).trans ?_
          have hB : rdAll (spl 44 (by_ w1)) = none := by
            cases hB : rdAll (spl 44 (by_ w1)) with
            | none => rfl
            | some l => rw [rdAll_take 13 hB] at hB'; cases hB'
          rw [hB]
          rfl
        | some ks' =>
          have hl0 := fun K a b c e k => specParse_l0 (n := m + 1) hn (K := K) (s := s) (a := a) (b := b) (c := c) (e := e) (k := k) (ws := w0 :: w1 :: ws) h3 (by omega) (m + 1) 2 [] (by omega) (by simp) (by simp)
          have e2 : ((2 : Nat) : Int) = 2 := rfl
          simp only [e2] at hl0
          refine (hl0 _ _ _ _ _ _).trans ?_
          simp only [List.map_cons, List.drop_succ_cons, List.drop_zero, List.nil_append]
          cases hD : rdDs (ws.map by_) with
          | none => cases rdAll (spl 44 (by_ w1)) <;> rfl
          | some ds =>
            show spec_ParseMaze.c14 (m + 1) s 0 [] [] true true N ds ks' = _
            unfold spec_ParseMaze.c14
            rw [if_neg (by simp), if_neg (by simp), l2Maze_val (by omega), Option.bind_some]
            have same : ∀ ks, VM N ds ks → (rdAll (spl 44 (by_ w1)) = some ks ↔ ks' = ks) := by
              intro ks hv
              have hkl : ks.length ≤ 12 := by have := hv.kl; have := hv.n2; omega
              constructor
              · intro hB
                have := rdAll_take 13 hB
                rw [hB', List.take_of_length_le (by omega)] at this
                exact Option.some.inj this
              · rintro rfl
                have := rdAll_len hB'
                rw [List.length_take] at this
                rw [List.take_of_length_le (by omega)] at hB'
                exact hB'
            by_cases hv : VM N ds ks'
            · have hB := (same ks' hv).2 rfl
              rw [if_neg (by simp [hv]), l2Text_val (by omega) hv.small hv.kl.symm (by have := hv.kl; have := hv.n1; omega), Option.bind_some, hB]
              have ht : by_ s = mazeT N ds ks' := text_of (by rw [← h2]; rfl) hA hB hD
              have hb : ((⟨(mazeT N ds ks').toArray⟩ : ByteArray).toList == s.toList) = true := by
                rw [eq_bytes]
                simpa using ba_ext (by rw [by_mk]; exact ht.symm)
              rw [hb, if_neg (by simp)]
              simp only
              rw [if_pos hv]
            · rw [if_pos (by simp [hv])]
              cases hB : rdAll (spl 44 (by_ w1)) with
              | none => rfl
              | some ks =>
                simp only
                rw [if_neg]
                · rfl
                · intro hv2
                  have := (same ks hv2).1 hB
                  subst this
                  exact hv hv2
    · have c1' : (!(decide ((2 : Int) ≤ (ws.length : Int) + 2) && decide ((ws.length : Int) + 2 ≤ 32))) = true := by
        have a2 : ¬ (ws.length : Int) + 2 ≤ 32 := by omega
        simp [a2]
      rw [c1', if_pos rfl, hr]
      cases hA : rd (by_ w0) with
      | none => rfl
      | some N =>
        cases hB : rdAll (spl 44 (by_ w1)) with
        | none => rfl
        | some ks =>
          cases hD : rdDs (ws.map by_) with
          | none => rfl
          | some ds =>
            simp only
            rw [if_neg]
            · rfl
            · intro hv
              have := (rdDs_some hD).2.1
              rw [List.length_map] at this
              have := hv.dl
              omega
end Go.Pv
