/- The pure functions of this seat's Go functions, as a program of mine (mach.py) printed them. -/
import Derived.Test.YteenokkklgnhhaaDoorGwA
import Derived.Test.YteenokkklgnhhaaDoorGwT
set_option linter.unusedVariables false
set_option autoImplicit false
namespace Go.Pf
open Go Go.Fx

/-- loop.example/g01158/spec.l1Split -/
def spec_l1Split.l0 (n : Nat) (K : ByteArray → (List (ByteArray)) → Int → Option ((List (ByteArray)))) : Nat → ByteArray → Int → (List (ByteArray)) → Int → Int → Option ((List (ByteArray)))
  | 0, _, _, _, _, _ => none
  | k + 1, x0, x1, x5, x6, x7 =>
    if (decide (x7 < (x0.size : Int))) = true then
      if 0 ≤ x7 ∧ x7 < (x0.size : Int) then (if (decide ((bAt x0 x7.toNat) = x1)) = true then
        if 0 ≤ x6 ∧ x6 ≤ x7 ∧ x7 ≤ (x0.size : Int) then (if x5.length + ([x0.extract x6.toNat x7.toNat] : List (ByteArray)).length ≤ 4398046511104 then (spec_l1Split.l0 n K k x0 x1 (x5 ++ ([x0.extract x6.toNat x7.toNat] : List (ByteArray))) (IntKind.wrap .i64 (x7 + (1 : Int))) (IntKind.wrap .i64 (x7 + (1 : Int)))) else none) else none
      else
        spec_l1Split.l0 n K k x0 x1 x5 x6 (IntKind.wrap .i64 (x7 + (1 : Int)))) else none
    else
      K x0 x5 x6
def spec_l1Split.F (n : Nat) (x0 : ByteArray) (x1 : Int) : Option ((List (ByteArray))) :=
  spec_l1Split.l0 n (fun y1 y2 y3 =>
    if 0 ≤ y3 ∧ y3 ≤ (y1.size : Int) then (if y2.length + ([y1.extract y3.toNat y1.size] : List (ByteArray)).length ≤ 4398046511104 then (some (y2 ++ ([y1.extract y3.toNat y1.size] : List (ByteArray)))) else none) else none) n x0 x1 ([] : List (ByteArray)) (0 : Int) (0 : Int)

/-- loop.example/g01158/spec.SplitString -/
def spec_SplitString.F (n : Nat) (x0 : ByteArray) (x1 : ByteArray) : Option ((List (ByteArray)) × Bool) :=
  if (!decide ((x1.size : Int) = (1 : Int))) = true then
    some (([] : List (ByteArray)), false)
  else
    if (decide ((x0.size : Int) > (4000 : Int))) = true then
      some (([] : List (ByteArray)), false)
    else
      if 0 ≤ (0 : Int) ∧ (0 : Int) < (x1.size : Int) then ((spec_l1Split.F n x0 (bAt x1 0)).bind fun r1 =>
      some (r1, true)) else none

/-- loop.example/g01158/impl.SplitString -/
def impl_SplitString.F (n : Nat) (x0 : ByteArray) (x1 : ByteArray) : Option ((List (ByteArray)) × Bool) :=
  if (decide ((x0.size : Int) > (4000 : Int))) = true then
    some (([] : List (ByteArray)), false)
  else
    if (!decide ((x1.size : Int) = (1 : Int))) = true then
      some (([] : List (ByteArray)), false)
    else
      (strSplit.F n x0 x1).bind fun r1 =>
      some (r1, true)

/-- loop.example/g01158/laws.eqStringS -/
def laws_eqStringS.l0 (n : Nat) (K : Unit → Option (Bool)) : Nat → (List (ByteArray)) → (List (ByteArray)) → Int → Option (Bool)
  | 0, _, _, _ => none
  | k + 1, x0, x1, x5 =>
    if (decide (x5 < (x0.length : Int))) = true then
      if 0 ≤ x5 ∧ x5 < (x0.length : Int) then (if 0 ≤ x5 ∧ x5 < (x1.length : Int) then (if (!((x0.getD x5.toNat ByteArray.empty).toList == (x1.getD x5.toNat ByteArray.empty).toList)) = true then
        some false
      else
        laws_eqStringS.l0 n K k x0 x1 (IntKind.wrap .i64 (x5 + (1 : Int)))) else none) else none
    else
      K ()
def laws_eqStringS.F (n : Nat) (x0 : List (ByteArray)) (x1 : List (ByteArray)) : Option (Bool) :=
  if (!decide ((x0.length : Int) = (x1.length : Int))) = true then
    some false
  else
    laws_eqStringS.l0 n (fun _ =>
      some true) n x0 x1 (0 : Int)

/-- loop.example/g01158/laws.markText -/
def laws_markText.l0 (n : Nat) (K : ByteArray → Option (ByteArray)) : Nat → Int → ByteArray → Option (ByteArray)
  | 0, _, _ => none
  | k + 1, x0, x3 =>
    if (decide (x0 > (0 : Int))) = true then
      if (strOfInts ([IntKind.wrap .u8 (IntKind.wrap .i64 ((48 : Int) + (Int.tmod x0 10)))] : List (Int))).size + x3.size ≤ 4398046511104 then (laws_markText.l0 n K k (IntKind.wrap .i64 (Int.tdiv x0 10)) ((strOfInts ([IntKind.wrap .u8 (IntKind.wrap .i64 ((48 : Int) + (Int.tmod x0 10)))] : List (Int))) ++ x3)) else none
    else
      K x3
def laws_markText.F (n : Nat) (x0 : Int) : Option (ByteArray) :=
  if (decide (x0 ≤ (0 : Int))) = true then
    some (⟨#[109, 48]⟩ : ByteArray)
  else
    laws_markText.l0 n (fun y1 =>
      if (⟨#[109]⟩ : ByteArray).size + y1.size ≤ 4398046511104 then (some ((⟨#[109]⟩ : ByteArray) ++ y1)) else none) n x0 ByteArray.empty

/-- loop.example/g01158/laws.markStringS -/
def laws_markStringS.l0 (n : Nat) (K : (List (ByteArray)) → Int → Option (Int × (List (ByteArray)))) : Nat → (List (ByteArray)) → Int → Int → Option (Int × (List (ByteArray)))
  | 0, _, _, _ => none
  | k + 1, x0, x1, x5 =>
    if (decide (x5 < (x0.length : Int))) = true then
      (laws_markText.F n x1).bind fun r1 =>
      if 0 ≤ x5 ∧ x5 < (x0.length : Int) then (laws_markStringS.l0 n K k (x0.set x5.toNat r1) (IntKind.wrap .i64 (x1 + (1 : Int))) (IntKind.wrap .i64 (x5 + (1 : Int)))) else none
    else
      K x0 x1
def laws_markStringS.F (n : Nat) (x0 : List (ByteArray)) (x1 : Int) : Option (Int × (List (ByteArray))) :=
  laws_markStringS.l0 n (fun y2 y3 =>
    some (y3, y2)) n x0 x1 (0 : Int)

/-- loop.example/g01158/laws.heldStringS -/
def laws_heldStringS.l0 (n : Nat) (K : Int → Option (Int)) : Nat → (List (ByteArray)) → Int → Int → Option (Int)
  | 0, _, _, _ => none
  | k + 1, x0, x1, x5 =>
    if (decide (x5 < (x0.length : Int))) = true then
      if 0 ≤ x5 ∧ x5 < (x0.length : Int) then ((laws_markText.F n x1).bind fun r1 =>
      if (!((x0.getD x5.toNat ByteArray.empty).toList == r1.toList)) = true then
        some (-1 : Int)
      else
        laws_heldStringS.l0 n K k x0 (IntKind.wrap .i64 (x1 + (1 : Int))) (IntKind.wrap .i64 (x5 + (1 : Int)))) else none
    else
      K x1
def laws_heldStringS.F (n : Nat) (x0 : List (ByteArray)) (x1 : Int) : Option (Int) :=
  laws_heldStringS.l0 n (fun y2 =>
    some y2) n x0 x1 (0 : Int)

/-- loop.example/g01158/laws.FnExactSplitString -/
def laws_FnExactSplitString.F (n : Nat) (x0 : ByteArray) (x1 : ByteArray) : Option (Bool) :=
  if (decide ((x0.size : Int) > (1048576 : Int))) = true then
    some true
  else
    if (decide ((x1.size : Int) > (1048576 : Int))) = true then
      some true
    else
      (spec_SplitString.F n x0 x1).bind fun r1 =>
      (impl_SplitString.F n x0 x1).bind fun r2 =>
      let j9 : (ByteArray) → (ByteArray) → (List (ByteArray)) → (Bool) → (List (ByteArray)) → Option (Bool) := fun j9_x0 j9_x1 j9_x5 j9_x6 j9_x7 =>
        (laws_markStringS.F n j9_x7 (1 : Int)).bind fun r4 =>
        (laws_heldStringS.F n r4.2 (1 : Int)).bind fun r5 =>
        if (decide (r5 < (0 : Int))) = true then
          some false
        else
          if (!decide (r5 = r4.1)) = true then
            some false
          else
            (impl_SplitString.F n j9_x0 j9_x1).bind fun r6 =>
            (laws_eqStringS.F n r6.1 j9_x5).bind fun r7 =>
            if (!r7) = true then
              some false
            else
              if (!(r6.2 == j9_x6)) = true then
                some false
              else
                (laws_heldStringS.F n r4.2 (1 : Int)).bind fun r8 =>
                if (decide (r8 < (0 : Int))) = true then
                  some false
                else
                  if (!decide (r8 = r4.1)) = true then
                    some false
                  else
                    some true
      (laws_eqStringS.F n r2.1 r1.1).bind fun r3 =>
      if (!r3) = true then
        some false
      else
        if (!(r2.2 == r1.2)) = true then
          some false
        else
          j9 x0 x1 r1.1 r1.2 r2.1

/-- loop.example/g01158/laws.vBig -/
def laws_vBig.F (n : Nat) (x0 : List (Int)) : Option (Bool) :=
  some (decide ((x0.length : Int) > (65536 : Int)))

/-- (*loop.example/g01158/spec.l1Cur).next -/
def spec_l1Cur_next.F (n : Nat) (x0_0 : List (Int)) (x0_1 : Int) (x0_2 : Int) : Option ((List (Int)) × Int × Int × Int) :=
  let j4 : (List (Int)) → (Int) → (Int) → (Int) → Option ((List (Int)) × Int × Int × Int) := fun j4_x0_0 j4_x0_1 j4_x0_2 j4_x3 =>
    if (decide ((IntKind.wrap .i64 (j4_x0_1 + (1 : Int))) ≤ (j4_x0_0.length : Int))) = true then
      some (j4_x0_0, IntKind.wrap .i64 (j4_x0_1 + (1 : Int)), IntKind.wrap .u64 ((IntKind.wrap .u64 ((IntKind.wrap .u64 (j4_x0_2 * (6364136223846793005 : Int))) + (IntKind.wrap .u64 j4_x3))) + (462197 : Int)), j4_x3)
    else
      some (j4_x0_0, IntKind.wrap .i64 (j4_x0_1 + (1 : Int)), IntKind.wrap .u64 ((IntKind.wrap .u64 ((IntKind.wrap .u64 (j4_x0_2 * (6364136223846793005 : Int))) + (IntKind.wrap .u64 j4_x3))) + (462197 : Int)), IntKind.wrap .i64 (bitAnd .u64 (shR .u64 (IntKind.wrap .u64 ((IntKind.wrap .u64 ((IntKind.wrap .u64 (j4_x0_2 * (6364136223846793005 : Int))) + (IntKind.wrap .u64 j4_x3))) + (462197 : Int))) 40) 255))
  if (decide (x0_1 < (x0_0.length : Int))) = true then
    if 0 ≤ x0_1 ∧ x0_1 < (x0_0.length : Int) then (j4 x0_0 x0_1 x0_2 (IntKind.wrap .i64 (x0_0.getD x0_1.toNat (0 : Int)))) else none
  else
    j4 x0_0 x0_1 x0_2 (0 : Int)

/-- (*loop.example/g01158/spec.l1Cur).pick -/
def spec_l1Cur_pick.F (n : Nat) (x0_0 : List (Int)) (x0_1 : Int) (x0_2 : Int) (x1 : Int) : Option ((List (Int)) × Int × Int × Int) :=
  if (decide (x1 ≤ (1 : Int))) = true then
    some (x0_0, x0_1, x0_2, (0 : Int))
  else
    (spec_l1Cur_next.F n x0_0 x0_1 x0_2).bind fun r1 =>
    if (decide (x1 > (200 : Int))) = true then
      (spec_l1Cur_next.F n r1.1 r1.2.1 r1.2.2.1).bind fun r2 =>
      if x1 = 0 then none else (some (r2.1, r2.2.1, r2.2.2.1, Int.tmod (IntKind.wrap .i64 ((IntKind.wrap .i64 (r1.2.2.2 * (256 : Int))) + r2.2.2.2)) x1))
    else
      if x1 = 0 then none else (some (r1.1, r1.2.1, r1.2.2.1, Int.tmod r1.2.2.2 x1))

/-- (*loop.example/g01158/spec.l1Cur).of -/
def spec_l1Cur_of.F (n : Nat) (x0_0 : List (Int)) (x0_1 : Int) (x0_2 : Int) (x1 : List (ByteArray)) : Option ((List (Int)) × Int × Int × ByteArray) :=
  (spec_l1Cur_pick.F n x0_0 x0_1 x0_2 (x1.length : Int)).bind fun r1 =>
  if 0 ≤ r1.2.2.2 ∧ r1.2.2.2 < (x1.length : Int) then (some (r1.1, r1.2.1, r1.2.2.1, (x1.getD r1.2.2.2.toNat ByteArray.empty))) else none

/-- (*loop.example/g01158/spec.l1Cur).any1 -/
def spec_l1Cur_any1.F (n : Nat) (x0_0 : List (Int)) (x0_1 : Int) (x0_2 : Int) : Option ((List (Int)) × Int × Int × ByteArray) :=
  (spec_l1Cur_of.F n x0_0 x0_1 x0_2 ([ByteArray.empty, (⟨#[97]⟩ : ByteArray), (⟨#[97, 44, 98]⟩ : ByteArray), (⟨#[115, 111, 109, 101, 32, 119, 111, 114, 100, 115]⟩ : ByteArray), (⟨#[120, 35, 121]⟩ : ByteArray), (⟨#[45, 49, 50]⟩ : ByteArray), (⟨#[0, 255]⟩ : ByteArray), (⟨#[44, 44]⟩ : ByteArray), (⟨#[48]⟩ : ByteArray)] : List (ByteArray))).bind fun r1 =>
  some (r1.1, r1.2.1, r1.2.2.1, r1.2.2.2)

/-- loop.example/g01158/spec.DrawSplitString -/
def spec_DrawSplitString.F (n : Nat) (x0 : List (Int)) : Option (ByteArray × ByteArray) :=
  (spec_l1Cur_any1.F n x0 (0 : Int) (0 : Int)).bind fun r1 =>
  (spec_l1Cur_of.F n r1.1 r1.2.1 r1.2.2.1 ([(⟨#[44]⟩ : ByteArray), (⟨#[44]⟩ : ByteArray), (⟨#[32]⟩ : ByteArray), ByteArray.empty, (⟨#[44, 44]⟩ : ByteArray)] : List (ByteArray))).bind fun r2 =>
  some (r1.2.2.2, r2.2.2.2)

/-- (*loop.example/g01158/spec.l1Cur).one -/
def spec_l1Cur_one.F (n : Nat) (x0_0 : List (Int)) (x0_1 : Int) (x0_2 : Int) (x1 : Int) : Option ((List (Int)) × Int × Int × Bool) :=
  (spec_l1Cur_pick.F n x0_0 x0_1 x0_2 x1).bind fun r1 =>
  some (r1.1, r1.2.1, r1.2.2.1, (decide (r1.2.2.2 = (0 : Int))))

/-- loop.example/g01158/spec.DrawJoinStrings -/
def spec_DrawJoinStrings.l0 (n : Nat) (K : (List (Int)) → Int → Int → (List (ByteArray)) → Option ((List (ByteArray)) × ByteArray)) : Nat → (List (Int)) → Int → Int → (List (ByteArray)) → Int → Int → Option ((List (ByteArray)) × ByteArray)
  | 0, _, _, _, _, _, _ => none
  | k + 1, x4_0, x4_1, x4_2, x5, x6, x7 =>
    if (decide (x7 < x6)) = true then
      (spec_l1Cur_any1.F n x4_0 x4_1 x4_2).bind fun r2 =>
      if x5.length + ([r2.2.2.2] : List (ByteArray)).length ≤ 4398046511104 then (spec_DrawJoinStrings.l0 n K k r2.1 r2.2.1 r2.2.2.1 (x5 ++ ([r2.2.2.2] : List (ByteArray))) x6 (IntKind.wrap .i64 (x7 + (1 : Int)))) else none
    else
      K x4_0 x4_1 x4_2 x5
def spec_DrawJoinStrings.F (n : Nat) (x0 : List (Int)) : Option ((List (ByteArray)) × ByteArray) :=
  (spec_l1Cur_pick.F n x0 (0 : Int) (0 : Int) (4 : Int)).bind fun r1 =>
  spec_DrawJoinStrings.l0 n (fun y3 y4 y5 y6 =>
    (spec_l1Cur_one.F n y3 y4 y5 (20 : Int)).bind fun r7 =>
    if r7.2.2.2 = true then
      (spec_l1Cur_pick.F n r7.1 r7.2.1 r7.2.2.1 (20 : Int)).bind fun r8 =>
      if 0 ≤ (IntKind.wrap .i64 ((3990 : Int) + r8.2.2.2)) ∧ (IntKind.wrap .i64 ((3990 : Int) + r8.2.2.2)) ≤ (IntKind.wrap .i64 ((3990 : Int) + r8.2.2.2)) ∧ (IntKind.wrap .i64 ((3990 : Int) + r8.2.2.2)) ≤ 4398046511104 then (if y6.length + ([strOfInts (List.replicate ((IntKind.wrap .i64 ((3990 : Int) + r8.2.2.2)).toNat) (0 : Int))] : List (ByteArray)).length ≤ 4398046511104 then ((spec_l1Cur_of.F n r8.1 r8.2.1 r8.2.2.1 ([(⟨#[44]⟩ : ByteArray), (⟨#[59]⟩ : ByteArray), (⟨#[59]⟩ : ByteArray), ByteArray.empty, (⟨#[97, 98]⟩ : ByteArray)] : List (ByteArray))).bind fun r9 =>
      some (y6 ++ ([strOfInts (List.replicate ((IntKind.wrap .i64 ((3990 : Int) + r8.2.2.2)).toNat) (0 : Int))] : List (ByteArray)), r9.2.2.2)) else none) else none
    else
      (spec_l1Cur_of.F n r7.1 r7.2.1 r7.2.2.1 ([(⟨#[44]⟩ : ByteArray), (⟨#[59]⟩ : ByteArray), (⟨#[59]⟩ : ByteArray), ByteArray.empty, (⟨#[97, 98]⟩ : ByteArray)] : List (ByteArray))).bind fun r10 =>
      some (y6, r10.2.2.2)) n r1.1 r1.2.1 r1.2.2.1 ([] : List (ByteArray)) r1.2.2.2 (0 : Int)

/-- loop.example/g01158/impl.JoinStrings -/
def impl_JoinStrings.l0 (n : Nat) (K : (List (ByteArray)) → ByteArray → Option (ByteArray × Bool)) : Nat → (List (ByteArray)) → ByteArray → Int → Int → Int → Option (ByteArray × Bool)
  | 0, _, _, _, _, _ => none
  | k + 1, x0, x1, x6, x21, x22 =>
    if (decide (x22 < x21)) = true then
      if 0 ≤ x22 ∧ x22 < (x0.length : Int) then ((strContains.F n (x0.getD x22.toNat ByteArray.empty) x1).bind fun r1 =>
      if r1 = true then
        some (ByteArray.empty, false)
      else
        if (decide ((IntKind.wrap .i64 (x6 + ((x0.getD x22.toNat ByteArray.empty).size : Int))) > (4000 : Int))) = true then
          some (ByteArray.empty, false)
        else
          impl_JoinStrings.l0 n K k x0 x1 (IntKind.wrap .i64 (x6 + ((x0.getD x22.toNat ByteArray.empty).size : Int))) x21 (IntKind.wrap .i64 (x22 + (1 : Int)))) else none
    else
      K x0 x1
def impl_JoinStrings.F (n : Nat) (x0 : List (ByteArray)) (x1 : ByteArray) : Option (ByteArray × Bool) :=
  if (decide ((x0.length : Int) = (0 : Int))) = true then
    some (ByteArray.empty, false)
  else
    if (!decide ((x1.size : Int) = (1 : Int))) = true then
      some (ByteArray.empty, false)
    else
      impl_JoinStrings.l0 n (fun y2 y3 =>
        (strJoin.F n y2 y3).bind fun r4 =>
        some (r4, true)) n x0 x1 (IntKind.wrap .i64 ((x0.length : Int) - (1 : Int))) (x0.length : Int) (0 : Int)

/-- loop.example/g01158/spec.l1Stands -/
def spec_l1Stands.l0 (n : Nat) (K : Unit → Option (Bool)) : Nat → ByteArray → Int → Int → Option (Bool)
  | 0, _, _, _ => none
  | k + 1, x0, x1, x5 =>
    if (decide (x5 < (x0.size : Int))) = true then
      if 0 ≤ x5 ∧ x5 < (x0.size : Int) then (if (decide ((bAt x0 x5.toNat) = x1)) = true then
        some true
      else
        spec_l1Stands.l0 n K k x0 x1 (IntKind.wrap .i64 (x5 + (1 : Int)))) else none
    else
      K ()
def spec_l1Stands.F (n : Nat) (x0 : ByteArray) (x1 : Int) : Option (Bool) :=
  spec_l1Stands.l0 n (fun _ =>
    some false) n x0 x1 (0 : Int)

/-- loop.example/g01158/spec.JoinStrings -/
def spec_JoinStrings.l0 (n : Nat) (K : ByteArray → Option (ByteArray × Bool)) : Nat → (List (ByteArray)) → ByteArray → ByteArray → Int → Option (ByteArray × Bool)
  | 0, _, _, _, _ => none
  | k + 1, x0, x1, x6, x7 =>
    if (decide (x7 < (x0.length : Int))) = true then
      if 0 ≤ x7 ∧ x7 < (x0.length : Int) then (if 0 ≤ (0 : Int) ∧ (0 : Int) < (x1.size : Int) then ((spec_l1Stands.F n (x0.getD x7.toNat ByteArray.empty) (bAt x1 0)).bind fun r1 =>
      if r1 = true then
        some (ByteArray.empty, false)
      else
        if (decide (x7 > (0 : Int))) = true then
          if x6.size + x1.size ≤ 4398046511104 then (if 0 ≤ x7 ∧ x7 < (x0.length : Int) then (if (x6 ++ x1).size + (x0.getD x7.toNat ByteArray.empty).size ≤ 4398046511104 then (if (decide ((((x6 ++ x1) ++ (x0.getD x7.toNat ByteArray.empty)).size : Int) > (4000 : Int))) = true then
            some (ByteArray.empty, false)
          else
            spec_JoinStrings.l0 n K k x0 x1 ((x6 ++ x1) ++ (x0.getD x7.toNat ByteArray.empty)) (IntKind.wrap .i64 (x7 + (1 : Int)))) else none) else none) else none
        else
          if 0 ≤ x7 ∧ x7 < (x0.length : Int) then (if x6.size + (x0.getD x7.toNat ByteArray.empty).size ≤ 4398046511104 then (if (decide (((x6 ++ (x0.getD x7.toNat ByteArray.empty)).size : Int) > (4000 : Int))) = true then
            some (ByteArray.empty, false)
          else
            spec_JoinStrings.l0 n K k x0 x1 (x6 ++ (x0.getD x7.toNat ByteArray.empty)) (IntKind.wrap .i64 (x7 + (1 : Int)))) else none) else none) else none) else none
    else
      K x6
def spec_JoinStrings.F (n : Nat) (x0 : List (ByteArray)) (x1 : ByteArray) : Option (ByteArray × Bool) :=
  if (!decide ((x1.size : Int) = (1 : Int))) = true then
    some (ByteArray.empty, false)
  else
    if (decide ((x0.length : Int) = (0 : Int))) = true then
      some (ByteArray.empty, false)
    else
      spec_JoinStrings.l0 n (fun y2 =>
        some (y2, true)) n x0 x1 ByteArray.empty (0 : Int)

/-- loop.example/g01158/spec.DrawLessString -/
def spec_DrawLessString.F (n : Nat) (x0 : List (Int)) : Option (ByteArray × ByteArray) :=
  (spec_l1Cur_any1.F n x0 (0 : Int) (0 : Int)).bind fun r1 =>
  (spec_l1Cur_any1.F n r1.1 r1.2.1 r1.2.2.1).bind fun r2 =>
  some (r1.2.2.2, r2.2.2.2)

/-- loop.example/g01158/impl.LessString -/
def impl_LessString.F (n : Nat) (x0 : ByteArray) (x1 : ByteArray) : Option (Bool) :=
  some (Op.bytesLess x0.toList x1.toList)

/-- loop.example/g01158/spec.LessString -/
def spec_LessString.F (n : Nat) (x0 : ByteArray) (x1 : ByteArray) : Option (Bool) :=
  some (Op.bytesLess x0.toList x1.toList)

/-- loop.example/g01158/laws.FnSplitJoin -/
def laws_FnSplitJoin.c11 (n : Nat) (x3 : ByteArray) (x4 : ByteArray) (x5 : List (ByteArray)) (x6 : Bool) : Option (Bool) :=
  if (!decide ((x4.size : Int) = (1 : Int))) = true then
    if (!x6) = true then
      some (decide ((x5.length : Int) = (0 : Int)))
    else
      some false
  else
    (impl_JoinStrings.F n x5 x4).bind fun r12 =>
    if x6 = true then
      if r12.2 = true then
        some (r12.1.toList == x3.toList)
      else
        some false
    else
      some false
def laws_FnSplitJoin.c7 (n : Nat) (x0 : List (Int)) (x3 : ByteArray) (x4 : ByteArray) (x5 : List (ByteArray)) (x6 : Bool) (x7 : List (ByteArray)) (x8 : ByteArray) (x9 : ByteArray) (x10 : Bool) : Option (Bool) :=
  (spec_JoinStrings.F n x7 x8).bind fun r6 =>
  (spec_DrawLessString.F n x0).bind fun r7 =>
  if (!(x9.toList == r6.1.toList)) = true then
    some false
  else
    if (!(x10 == r6.2)) = true then
      some false
    else
      (impl_LessString.F n r7.1 r7.2).bind fun r8 =>
      (spec_LessString.F n r7.1 r7.2).bind fun r9 =>
      if (!(r8 == r9)) = true then
        some false
      else
        (impl_LessString.F n r7.1 r7.2).bind fun r10 =>
        if r10 = true then
          (impl_LessString.F n r7.2 r7.1).bind fun r11 =>
          if r11 = true then
            some false
          else
            laws_FnSplitJoin.c11 n x3 x4 x5 x6
        else
          laws_FnSplitJoin.c11 n x3 x4 x5 x6
def laws_FnSplitJoin.F (n : Nat) (x0 : List (Int)) : Option (Bool) :=
  (laws_vBig.F n x0).bind fun r1 =>
  if r1 = true then
    some true
  else
    (spec_DrawSplitString.F n x0).bind fun r2 =>
    (impl_SplitString.F n r2.1 r2.2).bind fun r3 =>
    (spec_DrawJoinStrings.F n x0).bind fun r4 =>
    (impl_JoinStrings.F n r4.1 r4.2).bind fun r5 =>
    laws_FnSplitJoin.c7 n x0 r2.1 r2.2 r3.1 r3.2 r4.1 r4.2 r5.1 r5.2

end Go.Pf
