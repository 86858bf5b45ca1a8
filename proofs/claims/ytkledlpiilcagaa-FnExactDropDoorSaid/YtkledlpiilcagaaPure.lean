/- The pure functions of this seat's Go functions, as a program of mine (mach.py) printed them. -/
import Derived.Test.YtkledlpiilcagaaFw1
set_option linter.unusedVariables false
set_option autoImplicit false
namespace Go.Pf
open Go Go.Fx

/-- loop.example/g01158/laws.szIntA3S -/
def laws_szIntA3S.F (n : Nat) (x0 : List (Int × Int × Int)) (x1 : Int) : Option (Int) :=
  if (decide ((IntKind.wrap .i64 (x1 - (x0.length : Int))) < (0 : Int))) = true then
    some (-1 : Int)
  else
    some (IntKind.wrap .i64 (x1 - (x0.length : Int)))

/-- loop.example/g01158/laws.szIntS -/
def laws_szIntS.F (n : Nat) (x0 : List (Int)) (x1 : Int) : Option (Int) :=
  if (decide ((IntKind.wrap .i64 (x1 - (x0.length : Int))) < (0 : Int))) = true then
    some (-1 : Int)
  else
    some (IntKind.wrap .i64 (x1 - (x0.length : Int)))

/-- loop.example/g01158/laws.szMaze -/
def laws_szMaze.F (n : Nat) (x0_0 : Int) (x0_1 : List (Int × Int × Int)) (x0_2 : List (Int)) (x1 : Int) : Option (Int) :=
  (laws_szIntA3S.F n x0_1 x1).bind fun r1 =>
  if (decide (r1 < (0 : Int))) = true then
    some (-1 : Int)
  else
    (laws_szIntS.F n x0_2 r1).bind fun r2 =>
    if (decide (r2 < (0 : Int))) = true then
      some (-1 : Int)
    else
      some r2

/-- loop.example/g01158/laws.toIntA3 -/
def laws_toIntA3.F (n : Nat) (x0_0 : Int) (x0_1 : Int) (x0_2 : Int) : Option (Int × Int × Int) :=
  some (x0_0, x0_1, x0_2)

/-- loop.example/g01158/laws.toIntA3S -/
def laws_toIntA3S.l0 (n : Nat) (K : (List (Int × Int × Int)) → Option ((List (Int × Int × Int)))) : Nat → (List (Int × Int × Int)) → (List (Int × Int × Int)) → Int → Option ((List (Int × Int × Int)))
  | 0, _, _, _ => none
  | k + 1, x0, x3, x4 =>
    if (decide (x4 < (x0.length : Int))) = true then
      if 0 ≤ x4 ∧ x4 < (x0.length : Int) then ((laws_toIntA3.F n ((x0.getD x4.toNat ((0 : Int), (0 : Int), (0 : Int))).1) ((x0.getD x4.toNat ((0 : Int), (0 : Int), (0 : Int))).2.1) ((x0.getD x4.toNat ((0 : Int), (0 : Int), (0 : Int))).2.2)).bind fun r1 =>
      if 0 ≤ x4 ∧ x4 < (x3.length : Int) then (laws_toIntA3S.l0 n K k x0 (x3.set x4.toNat r1) (IntKind.wrap .i64 (x4 + (1 : Int)))) else none) else none
    else
      K x3
def laws_toIntA3S.F (n : Nat) (x0 : List (Int × Int × Int)) : Option ((List (Int × Int × Int))) :=
  if 0 ≤ (x0.length : Int) ∧ (x0.length : Int) ≤ (x0.length : Int) ∧ (x0.length : Int) ≤ 4398046511104 then (laws_toIntA3S.l0 n (fun y2 =>
    some y2) n x0 (List.replicate ((x0.length : Int).toNat) ((0 : Int), (0 : Int), (0 : Int))) (0 : Int)) else none

/-- loop.example/g01158/laws.toIntS -/
def laws_toIntS.l0 (n : Nat) (K : (List (Int)) → Option ((List (Int)))) : Nat → (List (Int)) → (List (Int)) → Int → Option ((List (Int)))
  | 0, _, _, _ => none
  | k + 1, x0, x3, x4 =>
    if (decide (x4 < (x0.length : Int))) = true then
      if 0 ≤ x4 ∧ x4 < (x0.length : Int) then (if 0 ≤ x4 ∧ x4 < (x3.length : Int) then (laws_toIntS.l0 n K k x0 (x3.set x4.toNat (x0.getD x4.toNat (0 : Int))) (IntKind.wrap .i64 (x4 + (1 : Int)))) else none) else none
    else
      K x3
def laws_toIntS.F (n : Nat) (x0 : List (Int)) : Option ((List (Int))) :=
  if 0 ≤ (x0.length : Int) ∧ (x0.length : Int) ≤ (x0.length : Int) ∧ (x0.length : Int) ≤ 4398046511104 then (laws_toIntS.l0 n (fun y1 =>
    some y1) n x0 (List.replicate ((x0.length : Int).toNat) (0 : Int)) (0 : Int)) else none

/-- loop.example/g01158/laws.toMaze -/
def laws_toMaze.F (n : Nat) (x0_0 : Int) (x0_1 : List (Int × Int × Int)) (x0_2 : List (Int)) : Option (Int × (List (Int × Int × Int)) × (List (Int))) :=
  (laws_toIntA3S.F n x0_1).bind fun r1 =>
  (laws_toIntS.F n x0_2).bind fun r2 =>
  some (x0_0, r1, r2)

/-- loop.example/g01158/spec.l1In -/
def spec_l1In.F (n : Nat) (x0 : Int) (x1 : Int) (x2 : Int) : Option (Bool) :=
  if (decide (x0 ≥ x1)) = true then
    some (decide (x0 ≤ x2))
  else
    some false

/-- loop.example/g01158/spec.l2Set -/
def spec_l2Set.F (n : Nat) (x0 : Int) : Option (Bool) :=
  (spec_l1In.F n x0 (0 : Int) (63 : Int)).bind fun r1 =>
  some r1

/-- loop.example/g01158/spec.l2Before -/
def spec_l2Before.F (n : Nat) (x0_0 : Int) (x0_1 : Int) (x0_2 : Int) (x1_0 : Int) (x1_1 : Int) (x1_2 : Int) : Option (Bool) :=
  if (!decide (x0_0 = x1_0)) = true then
    some (decide (x0_0 < x1_0))
  else
    if (!decide (x0_1 = x1_1)) = true then
      some (decide (x0_1 < x1_1))
    else
      if (!decide (x0_2 = x1_2)) = true then
        some (decide (x0_2 < x1_2))
      else
        some false

/-- loop.example/g01158/spec.l2Maze -/
def spec_l2Maze.l0 (n : Nat) (K : Int → (List (Int × Int × Int)) → (List (Int)) → Option (Bool)) : Nat → Int → (List (Int × Int × Int)) → (List (Int)) → Int → Option (Bool)
  | 0, _, _, _, _ => none
  | k + 1, x1_0, x1_1, x1_2, x3 =>
    if (decide (x3 < (x1_1.length : Int))) = true then
      if 0 ≤ x3 ∧ x3 < (x1_1.length : Int) then ((spec_l1In.F n ((x1_1.getD x3.toNat ((0 : Int), (0 : Int), (0 : Int))).1) (0 : Int) (IntKind.wrap .i64 (x1_0 - (1 : Int)))).bind fun r2 =>
      if (!r2) = true then
        some false
      else
        (spec_l1In.F n ((x1_1.getD x3.toNat ((0 : Int), (0 : Int), (0 : Int))).2.1) (IntKind.wrap .i64 (((x1_1.getD x3.toNat ((0 : Int), (0 : Int), (0 : Int))).1) + (1 : Int))) (IntKind.wrap .i64 (x1_0 - (1 : Int)))).bind fun r3 =>
        if (!r3) = true then
          some false
        else
          (spec_l2Set.F n ((x1_1.getD x3.toNat ((0 : Int), (0 : Int), (0 : Int))).2.2)).bind fun r4 =>
          if (!r4) = true then
            some false
          else
            if (decide (x3 > (0 : Int))) = true then
              if 0 ≤ (IntKind.wrap .i64 (x3 - (1 : Int))) ∧ (IntKind.wrap .i64 (x3 - (1 : Int))) < (x1_1.length : Int) then ((spec_l2Before.F n ((x1_1.getD ((IntKind.wrap .i64 (x3 - (1 : Int))).toNat) ((0 : Int), (0 : Int), (0 : Int))).1) ((x1_1.getD ((IntKind.wrap .i64 (x3 - (1 : Int))).toNat) ((0 : Int), (0 : Int), (0 : Int))).2.1) ((x1_1.getD ((IntKind.wrap .i64 (x3 - (1 : Int))).toNat) ((0 : Int), (0 : Int), (0 : Int))).2.2) ((x1_1.getD x3.toNat ((0 : Int), (0 : Int), (0 : Int))).1) ((x1_1.getD x3.toNat ((0 : Int), (0 : Int), (0 : Int))).2.1) ((x1_1.getD x3.toNat ((0 : Int), (0 : Int), (0 : Int))).2.2)).bind fun r5 =>
              if (!r5) = true then
                some false
              else
                spec_l2Maze.l0 n K k x1_0 x1_1 x1_2 (IntKind.wrap .i64 (x3 + (1 : Int)))) else none
            else
              spec_l2Maze.l0 n K k x1_0 x1_1 x1_2 (IntKind.wrap .i64 (x3 + (1 : Int)))) else none
    else
      K x1_0 x1_1 x1_2
def spec_l2Maze.l2 (n : Nat) (K : Unit → Option (Bool)) : Nat → Int → (List (Int × Int × Int)) → (List (Int)) → Int → Option (Bool)
  | 0, _, _, _, _ => none
  | k + 1, x1_0, x1_1, x1_2, x5 =>
    if (decide (x5 < x1_0)) = true then
      if 0 ≤ x5 ∧ x5 < (x1_2.length : Int) then ((spec_l2Set.F n (x1_2.getD x5.toNat (0 : Int))).bind fun r9 =>
      if (!r9) = true then
        some false
      else
        spec_l2Maze.l2 n K k x1_0 x1_1 x1_2 (IntKind.wrap .i64 (x5 + (1 : Int)))) else none
    else
      K ()
def spec_l2Maze.F (n : Nat) (x0_0 : Int) (x0_1 : List (Int × Int × Int)) (x0_2 : List (Int)) : Option (Bool) :=
  let j3 : (Int) → (List (Int × Int × Int)) → (List (Int)) → Option (Bool) := fun j3_x1_0 j3_x1_1 j3_x1_2 =>
    spec_l2Maze.l0 n (fun y6 y7 y8 =>
      spec_l2Maze.l2 n (fun _ =>
        some true) n y6 y7 y8 (0 : Int)) n j3_x1_0 j3_x1_1 j3_x1_2 (0 : Int)
  (spec_l1In.F n x0_0 (1 : Int) (12 : Int)).bind fun r1 =>
  if (!r1) = true then
    some false
  else
    if (decide ((x0_1.length : Int) > (30 : Int))) = true then
      some false
    else
      if (!decide ((x0_2.length : Int) = x0_0)) = true then
        some false
      else
        j3 x0_0 x0_1 x0_2

/-- loop.example/g01158/spec.l1Own -/
def spec_l1Own.F (n : Nat) (x0 : List (Int)) : Option ((List (Int))) :=
  if ([] : List (Int)).length + x0.length ≤ 4398046511104 then (some (([] : List (Int)) ++ x0)) else none

/-- loop.example/g01158/spec.l2Own -/
def spec_l2Own.F (n : Nat) (x0_0 : Int) (x0_1 : List (Int × Int × Int)) (x0_2 : List (Int)) : Option (Int × (List (Int × Int × Int)) × (List (Int))) :=
  if ([] : List (Int × Int × Int)).length + x0_1.length ≤ 4398046511104 then ((spec_l1Own.F n x0_2).bind fun r1 =>
  some (x0_0, ([] : List (Int × Int × Int)) ++ x0_1, r1)) else none

/-- loop.example/g01158/spec.DropDoor -/
def spec_DropDoor.F (n : Nat) (x0_0 : Int) (x0_1 : List (Int × Int × Int)) (x0_2 : List (Int)) (x1 : Int) : Option (Int × (List (Int × Int × Int)) × (List (Int)) × Bool) :=
  (spec_l2Maze.F n x0_0 x0_1 x0_2).bind fun r1 =>
  if (!r1) = true then
    some ((0 : Int), ([] : List (Int × Int × Int)), ([] : List (Int)), false)
  else
    (spec_l1In.F n x1 (0 : Int) (IntKind.wrap .i64 ((x0_1.length : Int) - (1 : Int)))).bind fun r2 =>
    if (!r2) = true then
      some ((0 : Int), ([] : List (Int × Int × Int)), ([] : List (Int)), false)
    else
      (spec_l2Own.F n x0_0 x0_1 x0_2).bind fun r3 =>
      if 0 ≤ x1 ∧ x1 ≤ (x0_1.length : Int) then (if ([] : List (Int × Int × Int)).length + (x0_1.take x1.toNat).length ≤ 4398046511104 then (if 0 ≤ (IntKind.wrap .i64 (x1 + (1 : Int))) ∧ (IntKind.wrap .i64 (x1 + (1 : Int))) ≤ (x0_1.length : Int) then (if (([] : List (Int × Int × Int)) ++ (x0_1.take x1.toNat)).length + (x0_1.drop ((IntKind.wrap .i64 (x1 + (1 : Int))).toNat)).length ≤ 4398046511104 then (some (r3.1, (([] : List (Int × Int × Int)) ++ (x0_1.take x1.toNat)) ++ (x0_1.drop ((IntKind.wrap .i64 (x1 + (1 : Int))).toNat)), r3.2.2, true)) else none) else none) else none) else none

/-- loop.example/g01158/impl.within -/
def impl_within.F (n : Nat) (x0 : Int) (x1 : Int) (x2 : Int) : Option (Bool) :=
  if (decide (x1 ≤ x0)) = true then
    some (decide (x0 ≤ x2))
  else
    some false

/-- loop.example/g01158/impl.isSet -/
def impl_isSet.F (n : Nat) (x0 : Int) : Option (Bool) :=
  (impl_within.F n x0 (0 : Int) (63 : Int)).bind fun r1 =>
  some r1

/-- cmp.isNaN[int] -/
def cmp_isNaN_int.F (n : Nat) (x0 : Int) : Option (Bool) :=
  some (!decide (x0 = x0))

/-- cmp.Compare[int] -/
def cmp_Compare_int.F (n : Nat) (x0 : Int) (x1 : Int) : Option (Int) :=
  (cmp_isNaN_int.F n x0).bind fun r1 =>
  (cmp_isNaN_int.F n x1).bind fun r2 =>
  if r1 = true then
    if r2 = true then
      some (0 : Int)
    else
      some (-1 : Int)
  else
    if r2 = true then
      some (1 : Int)
    else
      if (decide (x0 < x1)) = true then
        some (-1 : Int)
      else
        if (decide (x0 > x1)) = true then
          some (1 : Int)
        else
          some (0 : Int)

/-- cmp.Or[int] -/
def cmp_Or_int.l0 (n : Nat) (K : Int → Option (Int)) : Nat → Int → (List (Int)) → Int → Int → Option (Int)
  | 0, _, _, _, _ => none
  | k + 1, x3, x6, x7, x8 =>
    if (decide (x8 < x7)) = true then
      if 0 ≤ x8 ∧ x8 < (x6.length : Int) then (if (!decide ((x6.getD x8.toNat (0 : Int)) = x3)) = true then
        some (x6.getD x8.toNat (0 : Int))
      else
        cmp_Or_int.l0 n K k x3 x6 x7 (IntKind.wrap .i64 (x8 + (1 : Int)))) else none
    else
      K x3
def cmp_Or_int.F (n : Nat) (x0 : List (Int)) : Option (Int) :=
  cmp_Or_int.l0 n (fun y1 =>
    some y1) n (0 : Int) x0 (x0.length : Int) (0 : Int)

/-- loop.example/g01158/impl.compareDoors -/
def impl_compareDoors.F (n : Nat) (x0_0 : Int) (x0_1 : Int) (x0_2 : Int) (x1_0 : Int) (x1_1 : Int) (x1_2 : Int) : Option (Int) :=
  (cmp_Compare_int.F n x0_0 x1_0).bind fun r1 =>
  (cmp_Compare_int.F n x0_1 x1_1).bind fun r2 =>
  (cmp_Compare_int.F n x0_2 x1_2).bind fun r3 =>
  (cmp_Or_int.F n ([r1, r2, r3] : List (Int))).bind fun r4 =>
  some r4

/-- loop.example/g01158/impl.IsMaze$1 -/
def impl_IsMaze_1.F (n : Nat) (x0 : Int) : Option (Bool) :=
  (impl_isSet.F n x0).bind fun r1 =>
  some (!r1)

/-- slices.IndexFunc[[]int,int] -/
def slices_IndexFunc_int_int_cIsMaze_1.l0 (n : Nat) (K : Unit → Option (Int)) : Nat → (List (Int)) → Int → Int → Option (Int)
  | 0, _, _, _ => none
  | k + 1, x0, x7, x8 =>
    if (decide (x8 < x7)) = true then
      if 0 ≤ x8 ∧ x8 < (x0.length : Int) then ((impl_IsMaze_1.F n (x0.getD x8.toNat (0 : Int))).bind fun r1 =>
      if r1 = true then
        some x8
      else
        slices_IndexFunc_int_int_cIsMaze_1.l0 n K k x0 x7 (IntKind.wrap .i64 (x8 + (1 : Int)))) else none
    else
      K ()
def slices_IndexFunc_int_int_cIsMaze_1.F (n : Nat) (x0 : List (Int)) : Option (Int) :=
  slices_IndexFunc_int_int_cIsMaze_1.l0 n (fun _ =>
    some (-1 : Int)) n x0 (x0.length : Int) (0 : Int)

/-- slices.ContainsFunc[[]int,int] -/
def slices_ContainsFunc_int_int_cIsMaze_1.F (n : Nat) (x0 : List (Int)) : Option (Bool) :=
  (slices_IndexFunc_int_int_cIsMaze_1.F n x0).bind fun r1 =>
  some (decide (r1 ≥ (0 : Int)))

/-- loop.example/g01158/impl.IsMaze -/
def impl_IsMaze.l0 (n : Nat) (K : Int → (List (Int × Int × Int)) → (List (Int)) → Option (Bool)) : Nat → Int → (List (Int × Int × Int)) → (List (Int)) → Int → Int → Option (Bool)
  | 0, _, _, _, _, _ => none
  | k + 1, x1_0, x1_1, x1_2, x25, x26 =>
    if (decide (x26 < x25)) = true then
      if 0 ≤ x26 ∧ x26 < (x1_1.length : Int) then (if (decide (((x1_1.getD x26.toNat ((0 : Int), (0 : Int), (0 : Int))).1) < (0 : Int))) = true then
        some false
      else
        if (decide (((x1_1.getD x26.toNat ((0 : Int), (0 : Int), (0 : Int))).1) ≥ ((x1_1.getD x26.toNat ((0 : Int), (0 : Int), (0 : Int))).2.1))) = true then
          some false
        else
          if (decide (((x1_1.getD x26.toNat ((0 : Int), (0 : Int), (0 : Int))).2.1) ≥ x1_0)) = true then
            some false
          else
            (impl_isSet.F n ((x1_1.getD x26.toNat ((0 : Int), (0 : Int), (0 : Int))).2.2)).bind fun r2 =>
            if (!r2) = true then
              some false
            else
              if (decide (x26 > (0 : Int))) = true then
                if 0 ≤ (IntKind.wrap .i64 (x26 - (1 : Int))) ∧ (IntKind.wrap .i64 (x26 - (1 : Int))) < (x1_1.length : Int) then ((impl_compareDoors.F n ((x1_1.getD ((IntKind.wrap .i64 (x26 - (1 : Int))).toNat) ((0 : Int), (0 : Int), (0 : Int))).1) ((x1_1.getD ((IntKind.wrap .i64 (x26 - (1 : Int))).toNat) ((0 : Int), (0 : Int), (0 : Int))).2.1) ((x1_1.getD ((IntKind.wrap .i64 (x26 - (1 : Int))).toNat) ((0 : Int), (0 : Int), (0 : Int))).2.2) ((x1_1.getD x26.toNat ((0 : Int), (0 : Int), (0 : Int))).1) ((x1_1.getD x26.toNat ((0 : Int), (0 : Int), (0 : Int))).2.1) ((x1_1.getD x26.toNat ((0 : Int), (0 : Int), (0 : Int))).2.2)).bind fun r3 =>
                if (decide (r3 ≥ (0 : Int))) = true then
                  some false
                else
                  impl_IsMaze.l0 n K k x1_0 x1_1 x1_2 x25 (IntKind.wrap .i64 (x26 + (1 : Int)))) else none
              else
                impl_IsMaze.l0 n K k x1_0 x1_1 x1_2 x25 (IntKind.wrap .i64 (x26 + (1 : Int)))) else none
    else
      K x1_0 x1_1 x1_2
def impl_IsMaze.F (n : Nat) (x0_0 : Int) (x0_1 : List (Int × Int × Int)) (x0_2 : List (Int)) : Option (Bool) :=
  let j3 : (Int) → (List (Int × Int × Int)) → (List (Int)) → Option (Bool) := fun j3_x1_0 j3_x1_1 j3_x1_2 =>
    impl_IsMaze.l0 n (fun y4 y5 y6 =>
      (slices_ContainsFunc_int_int_cIsMaze_1.F n y6).bind fun r7 =>
      some (!r7)) n j3_x1_0 j3_x1_1 j3_x1_2 (j3_x1_1.length : Int) (0 : Int)
  (impl_within.F n x0_0 (1 : Int) (12 : Int)).bind fun r1 =>
  if (!r1) = true then
    some false
  else
    if (decide ((x0_1.length : Int) > (30 : Int))) = true then
      some false
    else
      if (!decide ((x0_2.length : Int) = x0_0)) = true then
        some false
      else
        j3 x0_0 x0_1 x0_2

/-- slices.Clone[[][3]int,[3]int] -/
def slices_Clone_3_int_3_int.F (n : Nat) (x0 : List (Int × Int × Int)) : Option ((List (Int × Int × Int))) :=
  if ([] : List (Int × Int × Int)).length + x0.length ≤ 4398046511104 then (some (([] : List (Int × Int × Int)) ++ x0)) else none

/-- slices.Clone[[]int,int] -/
def slices_Clone_int_int.F (n : Nat) (x0 : List (Int)) : Option ((List (Int))) :=
  if ([] : List (Int)).length + x0.length ≤ 4398046511104 then (some (([] : List (Int)) ++ x0)) else none

/-- loop.example/g01158/impl.own -/
def impl_own.F (n : Nat) (x0_0 : Int) (x0_1 : List (Int × Int × Int)) (x0_2 : List (Int)) : Option (Int × (List (Int × Int × Int)) × (List (Int))) :=
  (slices_Clone_3_int_3_int.F n x0_1).bind fun r1 =>
  (slices_Clone_int_int.F n x0_2).bind fun r2 =>
  some (x0_0, r1, r2)

/-- slices.Delete[[][3]int,[3]int] -/
def slices_Delete_3_int_3_int.F (n : Nat) (x0 : List (Int × Int × Int)) (x1 : Int) (x2 : Int) : Option ((List (Int × Int × Int))) :=
  if 0 ≤ x1 ∧ x1 ≤ x2 ∧ x2 ≤ (x0.length : Int) ∧ (x0.length : Int) ≤ (x0.length : Int) then (if (decide (x1 = x2)) = true then
    some x0
  else
    if 0 ≤ x1 ∧ x1 ≤ (x0.length : Int) then (if 0 ≤ x2 ∧ x2 ≤ (x0.length : Int) then (if x1.toNat ≤ x2.toNat then (if 0 ≤ (((x0.take x1.toNat ++ x0.drop x2.toNat ++ x0.drop (x1.toNat + (x0.length - x2.toNat))).take (x1.toNat + (x0.length - x2.toNat))).length : Int) ∧ (((x0.take x1.toNat ++ x0.drop x2.toNat ++ x0.drop (x1.toNat + (x0.length - x2.toNat))).take (x1.toNat + (x0.length - x2.toNat))).length : Int) ≤ (x0.length : Int) ∧ (x0.length : Int) ≤ ((x0.take x1.toNat ++ x0.drop x2.toNat ++ x0.drop (x1.toNat + (x0.length - x2.toNat))).length : Int) then (some (((x0.take x1.toNat ++ x0.drop x2.toNat ++ x0.drop (x1.toNat + (x0.length - x2.toNat))).take ((((x0.take x1.toNat ++ x0.drop x2.toNat ++ x0.drop (x1.toNat + (x0.length - x2.toNat))).take (x1.toNat + (x0.length - x2.toNat))).length : Int).toNat) ++ List.replicate (min (((x0.length : Int).toNat) - ((((x0.take x1.toNat ++ x0.drop x2.toNat ++ x0.drop (x1.toNat + (x0.length - x2.toNat))).take (x1.toNat + (x0.length - x2.toNat))).length : Int).toNat)) ((x0.take x1.toNat ++ x0.drop x2.toNat ++ x0.drop (x1.toNat + (x0.length - x2.toNat))).length - ((((x0.take x1.toNat ++ x0.drop x2.toNat ++ x0.drop (x1.toNat + (x0.length - x2.toNat))).take (x1.toNat + (x0.length - x2.toNat))).length : Int).toNat))) ((0 : Int), (0 : Int), (0 : Int)) ++ (x0.take x1.toNat ++ x0.drop x2.toNat ++ x0.drop (x1.toNat + (x0.length - x2.toNat))).drop (((((x0.take x1.toNat ++ x0.drop x2.toNat ++ x0.drop (x1.toNat + (x0.length - x2.toNat))).take (x1.toNat + (x0.length - x2.toNat))).length : Int).toNat) + min (((x0.length : Int).toNat) - ((((x0.take x1.toNat ++ x0.drop x2.toNat ++ x0.drop (x1.toNat + (x0.length - x2.toNat))).take (x1.toNat + (x0.length - x2.toNat))).length : Int).toNat)) ((x0.take x1.toNat ++ x0.drop x2.toNat ++ x0.drop (x1.toNat + (x0.length - x2.toNat))).length - ((((x0.take x1.toNat ++ x0.drop x2.toNat ++ x0.drop (x1.toNat + (x0.length - x2.toNat))).take (x1.toNat + (x0.length - x2.toNat))).length : Int).toNat)))).take (x1.toNat + (x0.length - x2.toNat)))) else none) else none) else none) else none) else none

/-- loop.example/g01158/impl.dropped -/
def impl_dropped.F (n : Nat) (x0_0 : Int) (x0_1 : List (Int × Int × Int)) (x0_2 : List (Int)) (x1 : Int) : Option (Int × (List (Int × Int × Int)) × (List (Int))) :=
  (impl_own.F n x0_0 x0_1 x0_2).bind fun r1 =>
  (slices_Delete_3_int_3_int.F n r1.2.1 x1 (IntKind.wrap .i64 (x1 + (1 : Int)))).bind fun r2 =>
  some (r1.1, r2, r1.2.2)

/-- loop.example/g01158/impl.DropDoor -/
def impl_DropDoor.F (n : Nat) (x0_0 : Int) (x0_1 : List (Int × Int × Int)) (x0_2 : List (Int)) (x1 : Int) : Option (Int × (List (Int × Int × Int)) × (List (Int)) × Bool) :=
  (impl_IsMaze.F n x0_0 x0_1 x0_2).bind fun r1 =>
  if (!r1) = true then
    some ((0 : Int), ([] : List (Int × Int × Int)), ([] : List (Int)), false)
  else
    (impl_within.F n x1 (0 : Int) (IntKind.wrap .i64 ((x0_1.length : Int) - (1 : Int)))).bind fun r2 =>
    if (!r2) = true then
      some ((0 : Int), ([] : List (Int × Int × Int)), ([] : List (Int)), false)
    else
      (impl_dropped.F n x0_0 x0_1 x0_2 x1).bind fun r3 =>
      some (r3.1, r3.2.1, r3.2.2, true)

/-- loop.example/g01158/laws.eqIntA3 -/
def laws_eqIntA3.F (n : Nat) (x0_0 : Int) (x0_1 : Int) (x0_2 : Int) (x1_0 : Int) (x1_1 : Int) (x1_2 : Int) : Option (Bool) :=
  if (!decide (x0_0 = x1_0)) = true then
    some false
  else
    if (!decide (x0_1 = x1_1)) = true then
      some false
    else
      if (!decide (x0_2 = x1_2)) = true then
        some false
      else
        some true

/-- loop.example/g01158/laws.eqIntA3S -/
def laws_eqIntA3S.l0 (n : Nat) (K : Unit → Option (Bool)) : Nat → (List (Int × Int × Int)) → (List (Int × Int × Int)) → Int → Option (Bool)
  | 0, _, _, _ => none
  | k + 1, x0, x1, x5 =>
    if (decide (x5 < (x0.length : Int))) = true then
      if 0 ≤ x5 ∧ x5 < (x0.length : Int) then (if 0 ≤ x5 ∧ x5 < (x1.length : Int) then ((laws_eqIntA3.F n ((x0.getD x5.toNat ((0 : Int), (0 : Int), (0 : Int))).1) ((x0.getD x5.toNat ((0 : Int), (0 : Int), (0 : Int))).2.1) ((x0.getD x5.toNat ((0 : Int), (0 : Int), (0 : Int))).2.2) ((x1.getD x5.toNat ((0 : Int), (0 : Int), (0 : Int))).1) ((x1.getD x5.toNat ((0 : Int), (0 : Int), (0 : Int))).2.1) ((x1.getD x5.toNat ((0 : Int), (0 : Int), (0 : Int))).2.2)).bind fun r1 =>
      if (!r1) = true then
        some false
      else
        laws_eqIntA3S.l0 n K k x0 x1 (IntKind.wrap .i64 (x5 + (1 : Int)))) else none) else none
    else
      K ()
def laws_eqIntA3S.F (n : Nat) (x0 : List (Int × Int × Int)) (x1 : List (Int × Int × Int)) : Option (Bool) :=
  if (!decide ((x0.length : Int) = (x1.length : Int))) = true then
    some false
  else
    laws_eqIntA3S.l0 n (fun _ =>
      some true) n x0 x1 (0 : Int)

/-- loop.example/g01158/laws.eqIntS -/
def laws_eqIntS.l0 (n : Nat) (K : Unit → Option (Bool)) : Nat → (List (Int)) → (List (Int)) → Int → Option (Bool)
  | 0, _, _, _ => none
  | k + 1, x0, x1, x5 =>
    if (decide (x5 < (x0.length : Int))) = true then
      if 0 ≤ x5 ∧ x5 < (x0.length : Int) then (if 0 ≤ x5 ∧ x5 < (x1.length : Int) then (if (!decide ((x0.getD x5.toNat (0 : Int)) = (x1.getD x5.toNat (0 : Int)))) = true then
        some false
      else
        laws_eqIntS.l0 n K k x0 x1 (IntKind.wrap .i64 (x5 + (1 : Int)))) else none) else none
    else
      K ()
def laws_eqIntS.F (n : Nat) (x0 : List (Int)) (x1 : List (Int)) : Option (Bool) :=
  if (!decide ((x0.length : Int) = (x1.length : Int))) = true then
    some false
  else
    laws_eqIntS.l0 n (fun _ =>
      some true) n x0 x1 (0 : Int)

/-- loop.example/g01158/laws.eqMaze -/
def laws_eqMaze.F (n : Nat) (x0_0 : Int) (x0_1 : List (Int × Int × Int)) (x0_2 : List (Int)) (x1_0 : Int) (x1_1 : List (Int × Int × Int)) (x1_2 : List (Int)) : Option (Bool) :=
  if (!decide (x0_0 = x1_0)) = true then
    some false
  else
    (laws_eqIntA3S.F n x0_1 x1_1).bind fun r1 =>
    if (!r1) = true then
      some false
    else
      (laws_eqIntS.F n x0_2 x1_2).bind fun r2 =>
      if (!r2) = true then
        some false
      else
        some true

/-- loop.example/g01158/laws.markIntA3S -/
def laws_markIntA3S.l0 (n : Nat) (K : (List (Int × Int × Int)) → Int → Option (Int × (List (Int × Int × Int)))) : Nat → (List (Int × Int × Int)) → Int → Int → Option (Int × (List (Int × Int × Int)))
  | 0, _, _, _ => none
  | k + 1, x0, x1, x5 =>
    if (decide (x5 < (x0.length : Int))) = true then
      if 0 ≤ x5 ∧ x5 < (x0.length : Int) then (if 0 ≤ x5 ∧ x5 < ((x0.set x5.toNat (x1, (x0.getD x5.toNat ((0 : Int), (0 : Int), (0 : Int))).2.1, (x0.getD x5.toNat ((0 : Int), (0 : Int), (0 : Int))).2.2)).length : Int) then (if 0 ≤ x5 ∧ x5 < (((x0.set x5.toNat (x1, (x0.getD x5.toNat ((0 : Int), (0 : Int), (0 : Int))).2.1, (x0.getD x5.toNat ((0 : Int), (0 : Int), (0 : Int))).2.2)).set x5.toNat (((x0.set x5.toNat (x1, (x0.getD x5.toNat ((0 : Int), (0 : Int), (0 : Int))).2.1, (x0.getD x5.toNat ((0 : Int), (0 : Int), (0 : Int))).2.2)).getD x5.toNat ((0 : Int), (0 : Int), (0 : Int))).1, IntKind.wrap .i64 (x1 + (1 : Int)), ((x0.set x5.toNat (x1, (x0.getD x5.toNat ((0 : Int), (0 : Int), (0 : Int))).2.1, (x0.getD x5.toNat ((0 : Int), (0 : Int), (0 : Int))).2.2)).getD x5.toNat ((0 : Int), (0 : Int), (0 : Int))).2.2)).length : Int) then (laws_markIntA3S.l0 n K k (((x0.set x5.toNat (x1, (x0.getD x5.toNat ((0 : Int), (0 : Int), (0 : Int))).2.1, (x0.getD x5.toNat ((0 : Int), (0 : Int), (0 : Int))).2.2)).set x5.toNat (((x0.set x5.toNat (x1, (x0.getD x5.toNat ((0 : Int), (0 : Int), (0 : Int))).2.1, (x0.getD x5.toNat ((0 : Int), (0 : Int), (0 : Int))).2.2)).getD x5.toNat ((0 : Int), (0 : Int), (0 : Int))).1, IntKind.wrap .i64 (x1 + (1 : Int)), ((x0.set x5.toNat (x1, (x0.getD x5.toNat ((0 : Int), (0 : Int), (0 : Int))).2.1, (x0.getD x5.toNat ((0 : Int), (0 : Int), (0 : Int))).2.2)).getD x5.toNat ((0 : Int), (0 : Int), (0 : Int))).2.2)).set x5.toNat ((((x0.set x5.toNat (x1, (x0.getD x5.toNat ((0 : Int), (0 : Int), (0 : Int))).2.1, (x0.getD x5.toNat ((0 : Int), (0 : Int), (0 : Int))).2.2)).set x5.toNat (((x0.set x5.toNat (x1, (x0.getD x5.toNat ((0 : Int), (0 : Int), (0 : Int))).2.1, (x0.getD x5.toNat ((0 : Int), (0 : Int), (0 : Int))).2.2)).getD x5.toNat ((0 : Int), (0 : Int), (0 : Int))).1, IntKind.wrap .i64 (x1 + (1 : Int)), ((x0.set x5.toNat (x1, (x0.getD x5.toNat ((0 : Int), (0 : Int), (0 : Int))).2.1, (x0.getD x5.toNat ((0 : Int), (0 : Int), (0 : Int))).2.2)).getD x5.toNat ((0 : Int), (0 : Int), (0 : Int))).2.2)).getD x5.toNat ((0 : Int), (0 : Int), (0 : Int))).1, (((x0.set x5.toNat (x1, (x0.getD x5.toNat ((0 : Int), (0 : Int), (0 : Int))).2.1, (x0.getD x5.toNat ((0 : Int), (0 : Int), (0 : Int))).2.2)).set x5.toNat (((x0.set x5.toNat (x1, (x0.getD x5.toNat ((0 : Int), (0 : Int), (0 : Int))).2.1, (x0.getD x5.toNat ((0 : Int), (0 : Int), (0 : Int))).2.2)).getD x5.toNat ((0 : Int), (0 : Int), (0 : Int))).1, IntKind.wrap .i64 (x1 + (1 : Int)), ((x0.set x5.toNat (x1, (x0.getD x5.toNat ((0 : Int), (0 : Int), (0 : Int))).2.1, (x0.getD x5.toNat ((0 : Int), (0 : Int), (0 : Int))).2.2)).getD x5.toNat ((0 : Int), (0 : Int), (0 : Int))).2.2)).getD x5.toNat ((0 : Int), (0 : Int), (0 : Int))).2.1, IntKind.wrap .i64 ((IntKind.wrap .i64 (x1 + (1 : Int))) + (1 : Int)))) (IntKind.wrap .i64 ((IntKind.wrap .i64 ((IntKind.wrap .i64 (x1 + (1 : Int))) + (1 : Int))) + (1 : Int))) (IntKind.wrap .i64 (x5 + (1 : Int)))) else none) else none) else none
    else
      K x0 x1
def laws_markIntA3S.F (n : Nat) (x0 : List (Int × Int × Int)) (x1 : Int) : Option (Int × (List (Int × Int × Int))) :=
  laws_markIntA3S.l0 n (fun y1 y2 =>
    some (y2, y1)) n x0 x1 (0 : Int)

/-- loop.example/g01158/laws.markIntS -/
def laws_markIntS.l0 (n : Nat) (K : (List (Int)) → Int → Option (Int × (List (Int)))) : Nat → (List (Int)) → Int → Int → Option (Int × (List (Int)))
  | 0, _, _, _ => none
  | k + 1, x0, x1, x5 =>
    if (decide (x5 < (x0.length : Int))) = true then
      if 0 ≤ x5 ∧ x5 < (x0.length : Int) then (laws_markIntS.l0 n K k (x0.set x5.toNat x1) (IntKind.wrap .i64 (x1 + (1 : Int))) (IntKind.wrap .i64 (x5 + (1 : Int)))) else none
    else
      K x0 x1
def laws_markIntS.F (n : Nat) (x0 : List (Int)) (x1 : Int) : Option (Int × (List (Int))) :=
  laws_markIntS.l0 n (fun y1 y2 =>
    some (y2, y1)) n x0 x1 (0 : Int)

/-- loop.example/g01158/laws.markMaze -/
def laws_markMaze.F (n : Nat) (x0_0 : Int) (x0_1 : List (Int × Int × Int)) (x0_2 : List (Int)) (x1 : Int) : Option (Int × Int × (List (Int × Int × Int)) × (List (Int))) :=
  (laws_markIntA3S.F n x0_1 x1).bind fun r1 =>
  (laws_markIntS.F n x0_2 r1.1).bind fun r2 =>
  some (r2.1, x0_0, r1.2, r2.2)

/-- loop.example/g01158/laws.heldIntA3S -/
def laws_heldIntA3S.l0 (n : Nat) (K : Int → Option (Int)) : Nat → (List (Int × Int × Int)) → Int → Int → Option (Int)
  | 0, _, _, _ => none
  | k + 1, x0, x1, x5 =>
    if (decide (x5 < (x0.length : Int))) = true then
      if 0 ≤ x5 ∧ x5 < (x0.length : Int) then (if (!decide (((x0.getD x5.toNat ((0 : Int), (0 : Int), (0 : Int))).1) = x1)) = true then
        some (-1 : Int)
      else
        if 0 ≤ x5 ∧ x5 < (x0.length : Int) then (if (!decide (((x0.getD x5.toNat ((0 : Int), (0 : Int), (0 : Int))).2.1) = (IntKind.wrap .i64 (x1 + (1 : Int))))) = true then
          some (-1 : Int)
        else
          if 0 ≤ x5 ∧ x5 < (x0.length : Int) then (if (!decide (((x0.getD x5.toNat ((0 : Int), (0 : Int), (0 : Int))).2.2) = (IntKind.wrap .i64 ((IntKind.wrap .i64 (x1 + (1 : Int))) + (1 : Int))))) = true then
            some (-1 : Int)
          else
            laws_heldIntA3S.l0 n K k x0 (IntKind.wrap .i64 ((IntKind.wrap .i64 ((IntKind.wrap .i64 (x1 + (1 : Int))) + (1 : Int))) + (1 : Int))) (IntKind.wrap .i64 (x5 + (1 : Int)))) else none) else none) else none
    else
      K x1
def laws_heldIntA3S.F (n : Nat) (x0 : List (Int × Int × Int)) (x1 : Int) : Option (Int) :=
  laws_heldIntA3S.l0 n (fun y1 =>
    some y1) n x0 x1 (0 : Int)

/-- loop.example/g01158/laws.heldIntS -/
def laws_heldIntS.l0 (n : Nat) (K : Int → Option (Int)) : Nat → (List (Int)) → Int → Int → Option (Int)
  | 0, _, _, _ => none
  | k + 1, x0, x1, x5 =>
    if (decide (x5 < (x0.length : Int))) = true then
      if 0 ≤ x5 ∧ x5 < (x0.length : Int) then (if (!decide ((x0.getD x5.toNat (0 : Int)) = x1)) = true then
        some (-1 : Int)
      else
        laws_heldIntS.l0 n K k x0 (IntKind.wrap .i64 (x1 + (1 : Int))) (IntKind.wrap .i64 (x5 + (1 : Int)))) else none
    else
      K x1
def laws_heldIntS.F (n : Nat) (x0 : List (Int)) (x1 : Int) : Option (Int) :=
  laws_heldIntS.l0 n (fun y1 =>
    some y1) n x0 x1 (0 : Int)

/-- loop.example/g01158/laws.heldMaze -/
def laws_heldMaze.F (n : Nat) (x0_0 : Int) (x0_1 : List (Int × Int × Int)) (x0_2 : List (Int)) (x1 : Int) : Option (Int) :=
  (laws_heldIntA3S.F n x0_1 x1).bind fun r1 =>
  if (decide (r1 < (0 : Int))) = true then
    some (-1 : Int)
  else
    (laws_heldIntS.F n x0_2 r1).bind fun r2 =>
    if (decide (r2 < (0 : Int))) = true then
      some (-1 : Int)
    else
      some r2

/-- loop.example/g01158/laws.FnExactDropDoor -/
def laws_FnExactDropDoor.F (n : Nat) (x0_0 : Int) (x0_1 : List (Int × Int × Int)) (x0_2 : List (Int)) (x1 : Int) : Option (Bool) :=
  (laws_szMaze.F n x0_0 x0_1 x0_2 (1048576 : Int)).bind fun r1 =>
  if (decide (r1 < (0 : Int))) = true then
    some true
  else
    (laws_toMaze.F n x0_0 x0_1 x0_2).bind fun r2 =>
    (spec_DropDoor.F n r2.1 r2.2.1 r2.2.2 x1).bind fun r3 =>
    (laws_toMaze.F n x0_0 x0_1 x0_2).bind fun r4 =>
    (impl_DropDoor.F n r4.1 r4.2.1 r4.2.2 x1).bind fun r5 =>
    let j10 : (Int) → (Int) → (List (Int × Int × Int)) → (List (Int)) → (Int) → (List (Int × Int × Int)) → (List (Int)) → (Bool) → (Int) → (List (Int × Int × Int)) → (List (Int)) → (Int) → (List (Int × Int × Int)) → (List (Int)) → (Bool) → Option (Bool) := fun j10_x1 j10_x2_0 j10_x2_1 j10_x2_2 j10_x6_0 j10_x6_1 j10_x6_2 j10_x7 j10_x8_0 j10_x8_1 j10_x8_2 j10_x9_0 j10_x9_1 j10_x9_2 j10_x10 =>
      (laws_toMaze.F n j10_x2_0 j10_x2_1 j10_x2_2).bind fun r7 =>
      (laws_eqMaze.F n j10_x8_0 j10_x8_1 j10_x8_2 r7.1 r7.2.1 r7.2.2).bind fun r8 =>
      if (!r8) = true then
        some false
      else
        (laws_markMaze.F n j10_x8_0 j10_x8_1 j10_x8_2 (1 : Int)).bind fun r9 =>
        let j16 : (Int) → (Int) → (List (Int × Int × Int)) → (List (Int)) → (Int) → (List (Int × Int × Int)) → (List (Int)) → (Bool) → (Int) → (List (Int × Int × Int)) → (List (Int)) → Option (Bool) := fun j16_x1 j16_x2_0 j16_x2_1 j16_x2_2 j16_x6_0 j16_x6_1 j16_x6_2 j16_x7 j16_x9_0 j16_x9_1 j16_x9_2 =>
          (laws_markMaze.F n j16_x9_0 j16_x9_1 j16_x9_2 (1 : Int)).bind fun r11 =>
          (laws_heldMaze.F n j16_x9_0 r11.2.2.1 r11.2.2.2 (1 : Int)).bind fun r12 =>
          if (decide (r12 < (0 : Int))) = true then
            some false
          else
            if (!decide (r12 = r11.1)) = true then
              some false
            else
              (laws_toMaze.F n j16_x2_0 j16_x2_1 j16_x2_2).bind fun r13 =>
              (impl_DropDoor.F n r13.1 r13.2.1 r13.2.2 j16_x1).bind fun r14 =>
              (laws_eqMaze.F n r14.1 r14.2.1 r14.2.2.1 j16_x6_0 j16_x6_1 j16_x6_2).bind fun r15 =>
              if (!r15) = true then
                some false
              else
                if (!(r14.2.2.2 == j16_x7)) = true then
                  some false
                else
                  (laws_heldMaze.F n j16_x9_0 r11.2.2.1 r11.2.2.2 (1 : Int)).bind fun r16 =>
                  if (decide (r16 < (0 : Int))) = true then
                    some false
                  else
                    if (!decide (r16 = r11.1)) = true then
                      some false
                    else
                      some true
        if (decide (r9.1 < (0 : Int))) = true then
          some false
        else
          (laws_eqMaze.F n j10_x9_0 j10_x9_1 j10_x9_2 j10_x6_0 j10_x6_1 j10_x6_2).bind fun r10 =>
          if (!r10) = true then
            some false
          else
            if (!(j10_x10 == j10_x7)) = true then
              some false
            else
              j16 j10_x1 j10_x2_0 j10_x2_1 j10_x2_2 j10_x6_0 j10_x6_1 j10_x6_2 j10_x7 j10_x9_0 j10_x9_1 j10_x9_2
    (laws_eqMaze.F n r5.1 r5.2.1 r5.2.2.1 r3.1 r3.2.1 r3.2.2.1).bind fun r6 =>
    if (!r6) = true then
      some false
    else
      if (!(r5.2.2.2 == r3.2.2.2)) = true then
        some false
      else
        j10 x1 x0_0 x0_1 x0_2 r3.1 r3.2.1 r3.2.2.1 r3.2.2.2 r4.1 r4.2.1 r4.2.2 r5.1 r5.2.1 r5.2.2.1 r5.2.2.2

end Go.Pf
