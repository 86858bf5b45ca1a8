/- The pure functions of this seat's Go functions, as a program of mine (mach.py) printed them. -/
import Derived.Test.YtoppnaekfjjaaaaGwA
set_option linter.unusedVariables false
set_option autoImplicit false
namespace Go.Pf
open Go Go.Fx

/-- loop.example/g01158/laws.szIntA3S -/
def laws_szIntA3S.F (n : Nat) (x0 : List (Int × Int × Int)) (x1 : Int) : Option (Int) :=
  if (decide ((IntKind.wrap .i64 (x1 - (x0.length : Int))) < (0 : Int))) = true then
    some (-1 : Int)
  else
    some (IntKind.wrap .i64 (x1 - (x0.length : Int)))

/-- loop.example/g01158/laws.szIntS -/
def laws_szIntS.F (n : Nat) (x0 : List (Int)) (x1 : Int) : Option (Int) :=
  if (decide ((IntKind.wrap .i64 (x1 - (x0.length : Int))) < (0 : Int))) = true then
    some (-1 : Int)
  else
    some (IntKind.wrap .i64 (x1 - (x0.length : Int)))

/-- loop.example/g01158/laws.szMaze -/
def laws_szMaze.F (n : Nat) (x0_0 : Int) (x0_1 : List (Int × Int × Int)) (x0_2 : List (Int)) (x1 : Int) : Option (Int) :=
  (laws_szIntA3S.F n x0_1 x1).bind fun r1 =>
  if (decide (r1 < (0 : Int))) = true then
    some (-1 : Int)
  else
    (laws_szIntS.F n x0_2 r1).bind fun r2 =>
    if (decide (r2 < (0 : Int))) = true then
      some (-1 : Int)
    else
      some r2

/-- loop.example/g01158/laws.toIntA3 -/
def laws_toIntA3.F (n : Nat) (x0_0 : Int) (x0_1 : Int) (x0_2 : Int) : Option (Int × Int × Int) :=
  some (x0_0, x0_1, x0_2)

/-- loop.example/g01158/laws.toIntA3S -/
def laws_toIntA3S.l0 (n : Nat) (K : (List (Int × Int × Int)) → Option ((List (Int × Int × Int)))) : Nat → (List (Int × Int × Int)) → (List (Int × Int × Int)) → Int → Option ((List (Int × Int × Int)))
  | 0, _, _, _ => none
  | k + 1, x0, x3, x4 =>
    if (decide (x4 < (x0.length : Int))) = true then
      if 0 ≤ x4 ∧ x4 < (x0.length : Int) then ((laws_toIntA3.F n ((x0.getD x4.toNat ((0 : Int), (0 : Int), (0 : Int))).1) ((x0.getD x4.toNat ((0 : Int), (0 : Int), (0 : Int))).2.1) ((x0.getD x4.toNat ((0 : Int), (0 : Int), (0 : Int))).2.2)).bind fun r1 =>
      if 0 ≤ x4 ∧ x4 < (x3.length : Int) then (laws_toIntA3S.l0 n K k x0 (x3.set x4.toNat r1) (IntKind.wrap .i64 (x4 + (1 : Int)))) else none) else none
    else
      K x3
def laws_toIntA3S.F (n : Nat) (x0 : List (Int × Int × Int)) : Option ((List (Int × Int × Int))) :=
  if 0 ≤ (x0.length : Int) ∧ (x0.length : Int) ≤ (x0.length : Int) ∧ (x0.length : Int) ≤ 4398046511104 then (laws_toIntA3S.l0 n (fun y2 =>
    some y2) n x0 (List.replicate ((x0.length : Int).toNat) ((0 : Int), (0 : Int), (0 : Int))) (0 : Int)) else none

/-- loop.example/g01158/laws.toIntS -/
def laws_toIntS.l0 (n : Nat) (K : (List (Int)) → Option ((List (Int)))) : Nat → (List (Int)) → (List (Int)) → Int → Option ((List (Int)))
  | 0, _, _, _ => none
  | k + 1, x0, x3, x4 =>
    if (decide (x4 < (x0.length : Int))) = true then
      if 0 ≤ x4 ∧ x4 < (x0.length : Int) then (if 0 ≤ x4 ∧ x4 < (x3.length : Int) then (laws_toIntS.l0 n K k x0 (x3.set x4.toNat (x0.getD x4.toNat (0 : Int))) (IntKind.wrap .i64 (x4 + (1 : Int)))) else none) else none
    else
      K x3
def laws_toIntS.F (n : Nat) (x0 : List (Int)) : Option ((List (Int))) :=
  if 0 ≤ (x0.length : Int) ∧ (x0.length : Int) ≤ (x0.length : Int) ∧ (x0.length : Int) ≤ 4398046511104 then (laws_toIntS.l0 n (fun y1 =>
    some y1) n x0 (List.replicate ((x0.length : Int).toNat) (0 : Int)) (0 : Int)) else none

/-- loop.example/g01158/laws.toMaze -/
def laws_toMaze.F (n : Nat) (x0_0 : Int) (x0_1 : List (Int × Int × Int)) (x0_2 : List (Int)) : Option (Int × (List (Int × Int × Int)) × (List (Int))) :=
  (laws_toIntA3S.F n x0_1).bind fun r1 =>
  (laws_toIntS.F n x0_2).bind fun r2 =>
  some (x0_0, r1, r2)

/-- loop.example/g01158/spec.l1In -/
def spec_l1In.F (n : Nat) (x0 : Int) (x1 : Int) (x2 : Int) : Option (Bool) :=
  if (decide (x0 ≥ x1)) = true then
    some (decide (x0 ≤ x2))
  else
    some false

/-- loop.example/g01158/spec.l2Set -/
def spec_l2Set.F (n : Nat) (x0 : Int) : Option (Bool) :=
  (spec_l1In.F n x0 (0 : Int) (63 : Int)).bind fun r1 =>
  some r1

/-- loop.example/g01158/spec.l2Before -/
def spec_l2Before.F (n : Nat) (x0_0 : Int) (x0_1 : Int) (x0_2 : Int) (x1_0 : Int) (x1_1 : Int) (x1_2 : Int) : Option (Bool) :=
  if (!decide (x0_0 = x1_0)) = true then
    some (decide (x0_0 < x1_0))
  else
    if (!decide (x0_1 = x1_1)) = true then
      some (decide (x0_1 < x1_1))
    else
      if (!decide (x0_2 = x1_2)) = true then
        some (decide (x0_2 < x1_2))
      else
        some false

/-- loop.example/g01158/spec.l2Maze -/
def spec_l2Maze.l0 (n : Nat) (K : Int → (List (Int × Int × Int)) → (List (Int)) → Option (Bool)) : Nat → Int → (List (Int × Int × Int)) → (List (Int)) → Int → Option (Bool)
  | 0, _, _, _, _ => none
  | k + 1, x1_0, x1_1, x1_2, x3 =>
    if (decide (x3 < (x1_1.length : Int))) = true then
      if 0 ≤ x3 ∧ x3 < (x1_1.length : Int) then ((spec_l1In.F n ((x1_1.getD x3.toNat ((0 : Int), (0 : Int), (0 : Int))).1) (0 : Int) (IntKind.wrap .i64 (x1_0 - (1 : Int)))).bind fun r2 =>
      if (!r2) = true then
        some false
      else
        (spec_l1In.F n ((x1_1.getD x3.toNat ((0 : Int), (0 : Int), (0 : Int))).2.1) (IntKind.wrap .i64 (((x1_1.getD x3.toNat ((0 : Int), (0 : Int), (0 : Int))).1) + (1 : Int))) (IntKind.wrap .i64 (x1_0 - (1 : Int)))).bind fun r3 =>
        if (!r3) = true then
          some false
        else
          (spec_l2Set.F n ((x1_1.getD x3.toNat ((0 : Int), (0 : Int), (0 : Int))).2.2)).bind fun r4 =>
          if (!r4) = true then
            some false
          else
            if (decide (x3 > (0 : Int))) = true then
              if 0 ≤ (IntKind.wrap .i64 (x3 - (1 : Int))) ∧ (IntKind.wrap .i64 (x3 - (1 : Int))) < (x1_1.length : Int) then ((spec_l2Before.F n ((x1_1.getD ((IntKind.wrap .i64 (x3 - (1 : Int))).toNat) ((0 : Int), (0 : Int), (0 : Int))).1) ((x1_1.getD ((IntKind.wrap .i64 (x3 - (1 : Int))).toNat) ((0 : Int), (0 : Int), (0 : Int))).2.1) ((x1_1.getD ((IntKind.wrap .i64 (x3 - (1 : Int))).toNat) ((0 : Int), (0 : Int), (0 : Int))).2.2) ((x1_1.getD x3.toNat ((0 : Int), (0 : Int), (0 : Int))).1) ((x1_1.getD x3.toNat ((0 : Int), (0 : Int), (0 : Int))).2.1) ((x1_1.getD x3.toNat ((0 : Int), (0 : Int), (0 : Int))).2.2)).bind fun r5 =>
              if (!r5) = true then
                some false
              else
                spec_l2Maze.l0 n K k x1_0 x1_1 x1_2 (IntKind.wrap .i64 (x3 + (1 : Int)))) else none
            else
              spec_l2Maze.l0 n K k x1_0 x1_1 x1_2 (IntKind.wrap .i64 (x3 + (1 : Int)))) else none
    else
      K x1_0 x1_1 x1_2
def spec_l2Maze.l2 (n : Nat) (K : Unit → Option (Bool)) : Nat → Int → (List (Int × Int × Int)) → (List (Int)) → Int → Option (Bool)
  | 0, _, _, _, _ => none
  | k + 1, x1_0, x1_1, x1_2, x5 =>
    if (decide (x5 < x1_0)) = true then
      if 0 ≤ x5 ∧ x5 < (x1_2.length : Int) then ((spec_l2Set.F n (x1_2.getD x5.toNat (0 : Int))).bind fun r9 =>
      if (!r9) = true then
        some false
      else
        spec_l2Maze.l2 n K k x1_0 x1_1 x1_2 (IntKind.wrap .i64 (x5 + (1 : Int)))) else none
    else
      K ()
def spec_l2Maze.F (n : Nat) (x0_0 : Int) (x0_1 : List (Int × Int × Int)) (x0_2 : List (Int)) : Option (Bool) :=
  let j3 : (Int) → (List (Int × Int × Int)) → (List (Int)) → Option (Bool) := fun j3_x1_0 j3_x1_1 j3_x1_2 =>
    spec_l2Maze.l0 n (fun y6 y7 y8 =>
      spec_l2Maze.l2 n (fun _ =>
        some true) n y6 y7 y8 (0 : Int)) n j3_x1_0 j3_x1_1 j3_x1_2 (0 : Int)
  (spec_l1In.F n x0_0 (1 : Int) (12 : Int)).bind fun r1 =>
  if (!r1) = true then
    some false
  else
    if (decide ((x0_1.length : Int) > (30 : Int))) = true then
      some false
    else
      if (!decide ((x0_2.length : Int) = x0_0)) = true then
        some false
      else
        j3 x0_0 x0_1 x0_2

/-- loop.example/g01158/spec.l1Has -/
def spec_l1Has.l0 (n : Nat) (K : Unit → Option (Bool)) : Nat → (List (Int)) → Int → Int → Option (Bool)
  | 0, _, _, _ => none
  | k + 1, x0, x1, x5 =>
    if (decide (x5 < (x0.length : Int))) = true then
      if 0 ≤ x5 ∧ x5 < (x0.length : Int) then (if (decide ((x0.getD x5.toNat (0 : Int)) = x1)) = true then
        some true
      else
        spec_l1Has.l0 n K k x0 x1 (IntKind.wrap .i64 (x5 + (1 : Int)))) else none
    else
      K ()
def spec_l1Has.F (n : Nat) (x0 : List (Int)) (x1 : Int) : Option (Bool) :=
  spec_l1Has.l0 n (fun _ =>
    some false) n x0 x1 (0 : Int)

/-- loop.example/g01158/spec.l2Order -/
def spec_l2Order.l0 (n : Nat) (K : (List (Int)) → Int → Option (Bool)) : Nat → (List (Int)) → Int → Int → Option (Bool)
  | 0, _, _, _ => none
  | k + 1, x0, x1, x5 =>
    if (decide (x5 < x1)) = true then
      (spec_l1Has.F n x0 x5).bind fun r1 =>
      if (!r1) = true then
        some false
      else
        spec_l2Order.l0 n K k x0 x1 (IntKind.wrap .i64 (x5 + (1 : Int)))
    else
      K x0 x1
def spec_l2Order.F (n : Nat) (x0 : List (Int)) (x1 : Int) : Option (Bool) :=
  spec_l2Order.l0 n (fun y2 y3 =>
    some (decide ((y2.length : Int) = y3))) n x0 x1 (0 : Int)

/-- loop.example/g01158/spec.l2Painted -/
def spec_l2Painted.l0 (n : Nat) (K : Int → Option (Int)) : Nat → Int → (List (Int)) → Int → Int → Option (Int)
  | 0, _, _, _, _ => none
  | k + 1, x0, x1, x5, x6 =>
    if (decide (x6 < (6 : Int))) = true then
      if x6 < 0 then none else (if 0 ≤ x6 ∧ x6 < (x1.length : Int) then (if (x1.getD x6.toNat (0 : Int)) < 0 then none else (spec_l2Painted.l0 n K k x0 x1 (bitOr .i64 x5 (shL .i64 (bitAnd .i64 (shR .i64 x0 x6) 1) (x1.getD x6.toNat (0 : Int)))) (IntKind.wrap .i64 (x6 + (1 : Int))))) else none)
    else
      K x5
def spec_l2Painted.F (n : Nat) (x0 : Int) (x1 : List (Int)) : Option (Int) :=
  spec_l2Painted.l0 n (fun y1 =>
    some y1) n x0 x1 (0 : Int) (0 : Int)

/-- loop.example/g01158/spec.l1Least -/
def spec_l1Least.F (n : Nat) (x0 : Int) (x1 : Int) : Option (Int) :=
  if (decide (x0 < x1)) = true then
    some x0
  else
    some x1

/-- loop.example/g01158/spec.l1Most -/
def spec_l1Most.F (n : Nat) (x0 : Int) (x1 : Int) : Option (Int) :=
  if (decide (x0 > x1)) = true then
    some x0
  else
    some x1

/-- loop.example/g01158/spec.l2Put -/
def spec_l2Put.l0 (n : Nat) (K : (List (Int × Int × Int)) → Int → Int → Int → Int → Option ((List (Int × Int × Int)))) : Nat → (List (Int × Int × Int)) → Int → Int → Int → Int → Option ((List (Int × Int × Int)))
  | 0, _, _, _, _, _ => none
  | k + 1, x0, x9_0, x9_1, x9_2, x10 =>
    if (decide (x10 < (x0.length : Int))) = true then
      if 0 ≤ x10 ∧ x10 < (x0.length : Int) then ((spec_l2Before.F n ((x0.getD x10.toNat ((0 : Int), (0 : Int), (0 : Int))).1) ((x0.getD x10.toNat ((0 : Int), (0 : Int), (0 : Int))).2.1) ((x0.getD x10.toNat ((0 : Int), (0 : Int), (0 : Int))).2.2) x9_0 x9_1 x9_2).bind fun r3 =>
      if r3 = true then
        spec_l2Put.l0 n K k x0 x9_0 x9_1 x9_2 (IntKind.wrap .i64 (x10 + (1 : Int)))
      else
        K x0 x9_0 x9_1 x9_2 x10) else none
    else
      K x0 x9_0 x9_1 x9_2 x10
def spec_l2Put.F (n : Nat) (x0 : List (Int × Int × Int)) (x1 : Int) (x2 : Int) (x3 : Int) : Option ((List (Int × Int × Int))) :=
  (spec_l1Least.F n x1 x2).bind fun r1 =>
  (spec_l1Most.F n x1 x2).bind fun r2 =>
  spec_l2Put.l0 n (fun y4 y5 y6 y7 y8 =>
    if (decide (y8 < (y4.length : Int))) = true then
      if 0 ≤ y8 ∧ y8 < (y4.length : Int) then (if (decide (((y4.getD y8.toNat ((0 : Int), (0 : Int), (0 : Int))).1) = y5) && (decide (((y4.getD y8.toNat ((0 : Int), (0 : Int), (0 : Int))).2.1) = y6) && (decide (((y4.getD y8.toNat ((0 : Int), (0 : Int), (0 : Int))).2.2) = y7) && true))) = true then
        some y4
      else
        if 0 ≤ y8 ∧ y8 ≤ (y4.length : Int) then (if ([] : List (Int × Int × Int)).length + (y4.take y8.toNat).length ≤ 4398046511104 then (if (([] : List (Int × Int × Int)) ++ (y4.take y8.toNat)).length + ([(y5, y6, y7)] : List (Int × Int × Int)).length ≤ 4398046511104 then (if 0 ≤ y8 ∧ y8 ≤ (y4.length : Int) then (if ((([] : List (Int × Int × Int)) ++ (y4.take y8.toNat)) ++ ([(y5, y6, y7)] : List (Int × Int × Int))).length + (y4.drop y8.toNat).length ≤ 4398046511104 then (some (((([] : List (Int × Int × Int)) ++ (y4.take y8.toNat)) ++ ([(y5, y6, y7)] : List (Int × Int × Int))) ++ (y4.drop y8.toNat))) else none) else none) else none) else none) else none) else none
    else
      if 0 ≤ y8 ∧ y8 ≤ (y4.length : Int) then (if ([] : List (Int × Int × Int)).length + (y4.take y8.toNat).length ≤ 4398046511104 then (if (([] : List (Int × Int × Int)) ++ (y4.take y8.toNat)).length + ([(y5, y6, y7)] : List (Int × Int × Int)).length ≤ 4398046511104 then (if 0 ≤ y8 ∧ y8 ≤ (y4.length : Int) then (if ((([] : List (Int × Int × Int)) ++ (y4.take y8.toNat)) ++ ([(y5, y6, y7)] : List (Int × Int × Int))).length + (y4.drop y8.toNat).length ≤ 4398046511104 then (some (((([] : List (Int × Int × Int)) ++ (y4.take y8.toNat)) ++ ([(y5, y6, y7)] : List (Int × Int × Int))) ++ (y4.drop y8.toNat))) else none) else none) else none) else none) else none) n x0 r1 r2 x3 (0 : Int)

/-- loop.example/g01158/spec.RepaintMaze -/
def spec_RepaintMaze.l0 (n : Nat) (K : (List (Int)) → Int → (List (Int × Int × Int)) → (List (Int)) → Int → (List (Int × Int × Int)) → (List (Int)) → Int → (List (Int × Int × Int)) → (List (Int)) → Option (Int × (List (Int × Int × Int)) × (List (Int)) × Bool)) : Nat → (List (Int)) → Int → (List (Int × Int × Int)) → (List (Int)) → Int → (List (Int × Int × Int)) → (List (Int)) → Int → (List (Int × Int × Int)) → (List (Int)) → Int → Option (Int × (List (Int × Int × Int)) × (List (Int)) × Bool)
  | 0, _, _, _, _, _, _, _, _, _, _, _ => none
  | k + 1, x1, x2_0, x2_1, x2_2, x4_0, x4_1, x4_2, x6_0, x6_1, x6_2, x7 =>
    if (decide (x7 < (x2_1.length : Int))) = true then
      if 0 ≤ x7 ∧ x7 < (x2_1.length : Int) then (if 0 ≤ x7 ∧ x7 < (x2_1.length : Int) then (if 0 ≤ x7 ∧ x7 < (x2_1.length : Int) then ((spec_l2Painted.F n ((x2_1.getD x7.toNat ((0 : Int), (0 : Int), (0 : Int))).2.2) x1).bind fun r3 =>
      (spec_l2Put.F n x6_1 ((x2_1.getD x7.toNat ((0 : Int), (0 : Int), (0 : Int))).1) ((x2_1.getD x7.toNat ((0 : Int), (0 : Int), (0 : Int))).2.1) r3).bind fun r4 =>
      spec_RepaintMaze.l0 n K k x1 x2_0 x2_1 x2_2 x4_0 x4_1 x4_2 x6_0 r4 x6_2 (IntKind.wrap .i64 (x7 + (1 : Int)))) else none) else none) else none
    else
      K x1 x2_0 x2_1 x2_2 x4_0 x4_1 x4_2 x6_0 x6_1 x6_2
def spec_RepaintMaze.l2 (n : Nat) (K : Int → (List (Int × Int × Int)) → (List (Int)) → Int → (List (Int × Int × Int)) → (List (Int)) → Option (Int × (List (Int × Int × Int)) × (List (Int)) × Bool)) : Nat → (List (Int)) → Int → (List (Int × Int × Int)) → (List (Int)) → Int → (List (Int × Int × Int)) → (List (Int)) → Int → (List (Int × Int × Int)) → (List (Int)) → Int → Option (Int × (List (Int × Int × Int)) × (List (Int)) × Bool)
  | 0, _, _, _, _, _, _, _, _, _, _, _ => none
  | k + 1, x1, x2_0, x2_1, x2_2, x4_0, x4_1, x4_2, x6_0, x6_1, x6_2, x8 =>
    if (decide (x8 < x2_0)) = true then
      if 0 ≤ x8 ∧ x8 < (x2_2.length : Int) then ((spec_l2Painted.F n (x2_2.getD x8.toNat (0 : Int)) x1).bind fun r15 =>
      if x6_2.length + ([r15] : List (Int)).length ≤ 4398046511104 then (spec_RepaintMaze.l2 n K k x1 x2_0 x2_1 x2_2 x4_0 x4_1 x4_2 x6_0 x6_1 (x6_2 ++ ([r15] : List (Int))) (IntKind.wrap .i64 (x8 + (1 : Int)))) else none) else none
    else
      K x4_0 x4_1 x4_2 x6_0 x6_1 x6_2
def spec_RepaintMaze.F (n : Nat) (x0_0 : Int) (x0_1 : List (Int × Int × Int)) (x0_2 : List (Int)) (x1 : List (Int)) : Option (Int × (List (Int × Int × Int)) × (List (Int)) × Bool) :=
  let j3 : (List (Int)) → (Int) → (List (Int × Int × Int)) → (List (Int)) → (Int) → (List (Int × Int × Int)) → (List (Int)) → Option (Int × (List (Int × Int × Int)) × (List (Int)) × Bool) := fun j3_x1 j3_x2_0 j3_x2_1 j3_x2_2 j3_x4_0 j3_x4_1 j3_x4_2 =>
    spec_RepaintMaze.l0 n (fun y5 y6 y7 y8 y9 y10 y11 y12 y13 y14 =>
      spec_RepaintMaze.l2 n (fun y16 y17 y18 y19 y20 y21 =>
        some (y19, y20, y21, true)) n y5 y6 y7 y8 y9 y10 y11 y12 y13 y14 (0 : Int)) n j3_x1 j3_x2_0 j3_x2_1 j3_x2_2 j3_x4_0 j3_x4_1 j3_x4_2 j3_x2_0 ([] : List (Int × Int × Int)) ([] : List (Int)) (0 : Int)
  (spec_l2Maze.F n x0_0 x0_1 x0_2).bind fun r1 =>
  if (!r1) = true then
    some ((0 : Int), ([] : List (Int × Int × Int)), ([] : List (Int)), false)
  else
    (spec_l2Order.F n x1 (6 : Int)).bind fun r2 =>
    if (!r2) = true then
      some ((0 : Int), ([] : List (Int × Int × Int)), ([] : List (Int)), false)
    else
      j3 x1 x0_0 x0_1 x0_2 (0 : Int) ([] : List (Int × Int × Int)) ([] : List (Int))

/-- loop.example/g01158/impl.within -/
def impl_within.F (n : Nat) (x0 : Int) (x1 : Int) (x2 : Int) : Option (Bool) :=
  if (decide (x1 ≤ x0)) = true then
    some (decide (x0 ≤ x2))
  else
    some false

/-- loop.example/g01158/impl.isSet -/
def impl_isSet.F (n : Nat) (x0 : Int) : Option (Bool) :=
  (impl_within.F n x0 (0 : Int) (63 : Int)).bind fun r1 =>
  some r1

/-- cmp.isNaN[int] -/
def cmp_isNaN_int.F (n : Nat) (x0 : Int) : Option (Bool) :=
  some (!decide (x0 = x0))

/-- cmp.Compare[int] -/
def cmp_Compare_int.F (n : Nat) (x0 : Int) (x1 : Int) : Option (Int) :=
  (cmp_isNaN_int.F n x0).bind fun r1 =>
  (cmp_isNaN_int.F n x1).bind fun r2 =>
  if r1 = true then
    if r2 = true then
      some (0 : Int)
    else
      some (-1 : Int)
  else
    if r2 = true then
      some (1 : Int)
    else
      if (decide (x0 < x1)) = true then
        some (-1 : Int)
      else
        if (decide (x0 > x1)) = true then
          some (1 : Int)
        else
          some (0 : Int)

/-- cmp.Or[int] -/
def cmp_Or_int.l0 (n : Nat) (K : Int → Option (Int)) : Nat → Int → (List (Int)) → Int → Int → Option (Int)
  | 0, _, _, _, _ => none
  | k + 1, x3, x6, x7, x8 =>
    if (decide (x8 < x7)) = true then
      if 0 ≤ x8 ∧ x8 < (x6.length : Int) then (if (!decide ((x6.getD x8.toNat (0 : Int)) = x3)) = true then
        some (x6.getD x8.toNat (0 : Int))
      else
        cmp_Or_int.l0 n K k x3 x6 x7 (IntKind.wrap .i64 (x8 + (1 : Int)))) else none
    else
      K x3
def cmp_Or_int.F (n : Nat) (x0 : List (Int)) : Option (Int) :=
  cmp_Or_int.l0 n (fun y1 =>
    some y1) n (0 : Int) x0 (x0.length : Int) (0 : Int)

/-- loop.example/g01158/impl.compareDoors -/
def impl_compareDoors.F (n : Nat) (x0_0 : Int) (x0_1 : Int) (x0_2 : Int) (x1_0 : Int) (x1_1 : Int) (x1_2 : Int) : Option (Int) :=
  (cmp_Compare_int.F n x0_0 x1_0).bind fun r1 =>
  (cmp_Compare_int.F n x0_1 x1_1).bind fun r2 =>
  (cmp_Compare_int.F n x0_2 x1_2).bind fun r3 =>
  (cmp_Or_int.F n ([r1, r2, r3] : List (Int))).bind fun r4 =>
  some r4

/-- loop.example/g01158/impl.IsMaze$1 -/
def impl_IsMaze_1.F (n : Nat) (x0 : Int) : Option (Bool) :=
  (impl_isSet.F n x0).bind fun r1 =>
  some (!r1)

/-- slices.IndexFunc[[]int,int] -/
def slices_IndexFunc_int_int_cIsMaze_1.l0 (n : Nat) (K : Unit → Option (Int)) : Nat → (List (Int)) → Int → Int → Option (Int)
  | 0, _, _, _ => none
  | k + 1, x0, x7, x8 =>
    if (decide (x8 < x7)) = true then
      if 0 ≤ x8 ∧ x8 < (x0.length : Int) then ((impl_IsMaze_1.F n (x0.getD x8.toNat (0 : Int))).bind fun r1 =>
      if r1 = true then
        some x8
      else
        slices_IndexFunc_int_int_cIsMaze_1.l0 n K k x0 x7 (IntKind.wrap .i64 (x8 + (1 : Int)))) else none
    else
      K ()
def slices_IndexFunc_int_int_cIsMaze_1.F (n : Nat) (x0 : List (Int)) : Option (Int) :=
  slices_IndexFunc_int_int_cIsMaze_1.l0 n (fun _ =>
    some (-1 : Int)) n x0 (x0.length : Int) (0 : Int)

/-- slices.ContainsFunc[[]int,int] -/
def slices_ContainsFunc_int_int_cIsMaze_1.F (n : Nat) (x0 : List (Int)) : Option (Bool) :=
  (slices_IndexFunc_int_int_cIsMaze_1.F n x0).bind fun r1 =>
  some (decide (r1 ≥ (0 : Int)))

/-- loop.example/g01158/impl.IsMaze -/
def impl_IsMaze.l0 (n : Nat) (K : Int → (List (Int × Int × Int)) → (List (Int)) → Option (Bool)) : Nat → Int → (List (Int × Int × Int)) → (List (Int)) → Int → Int → Option (Bool)
  | 0, _, _, _, _, _ => none
  | k + 1, x1_0, x1_1, x1_2, x25, x26 =>
    if (decide (x26 < x25)) = true then
      if 0 ≤ x26 ∧ x26 < (x1_1.length : Int) then (if (decide (((x1_1.getD x26.toNat ((0 : Int), (0 : Int), (0 : Int))).1) < (0 : Int))) = true then
        some false
      else
        if (decide (((x1_1.getD x26.toNat ((0 : Int), (0 : Int), (0 : Int))).1) ≥ ((x1_1.getD x26.toNat ((0 : Int), (0 : Int), (0 : Int))).2.1))) = true then
          some false
        else
          if (decide (((x1_1.getD x26.toNat ((0 : Int), (0 : Int), (0 : Int))).2.1) ≥ x1_0)) = true then
            some false
          else
            (impl_isSet.F n ((x1_1.getD x26.toNat ((0 : Int), (0 : Int), (0 : Int))).2.2)).bind fun r2 =>
            if (!r2) = true then
              some false
            else
              if (decide (x26 > (0 : Int))) = true then
                if 0 ≤ (IntKind.wrap .i64 (x26 - (1 : Int))) ∧ (IntKind.wrap .i64 (x26 - (1 : Int))) < (x1_1.length : Int) then ((impl_compareDoors.F n ((x1_1.getD ((IntKind.wrap .i64 (x26 - (1 : Int))).toNat) ((0 : Int), (0 : Int), (0 : Int))).1) ((x1_1.getD ((IntKind.wrap .i64 (x26 - (1 : Int))).toNat) ((0 : Int), (0 : Int), (0 : Int))).2.1) ((x1_1.getD ((IntKind.wrap .i64 (x26 - (1 : Int))).toNat) ((0 : Int), (0 : Int), (0 : Int))).2.2) ((x1_1.getD x26.toNat ((0 : Int), (0 : Int), (0 : Int))).1) ((x1_1.getD x26.toNat ((0 : Int), (0 : Int), (0 : Int))).2.1) ((x1_1.getD x26.toNat ((0 : Int), (0 : Int), (0 : Int))).2.2)).bind fun r3 =>
                if (decide (r3 ≥ (0 : Int))) = true then
                  some false
                else
                  impl_IsMaze.l0 n K k x1_0 x1_1 x1_2 x25 (IntKind.wrap .i64 (x26 + (1 : Int)))) else none
              else
                impl_IsMaze.l0 n K k x1_0 x1_1 x1_2 x25 (IntKind.wrap .i64 (x26 + (1 : Int)))) else none
    else
      K x1_0 x1_1 x1_2
def impl_IsMaze.F (n : Nat) (x0_0 : Int) (x0_1 : List (Int × Int × Int)) (x0_2 : List (Int)) : Option (Bool) :=
  let j3 : (Int) → (List (Int × Int × Int)) → (List (Int)) → Option (Bool) := fun j3_x1_0 j3_x1_1 j3_x1_2 =>
    impl_IsMaze.l0 n (fun y4 y5 y6 =>
      (slices_ContainsFunc_int_int_cIsMaze_1.F n y6).bind fun r7 =>
      some (!r7)) n j3_x1_0 j3_x1_1 j3_x1_2 (j3_x1_1.length : Int) (0 : Int)
  (impl_within.F n x0_0 (1 : Int) (12 : Int)).bind fun r1 =>
  if (!r1) = true then
    some false
  else
    if (decide ((x0_1.length : Int) > (30 : Int))) = true then
      some false
    else
      if (!decide ((x0_2.length : Int) = x0_0)) = true then
        some false
      else
        j3 x0_0 x0_1 x0_2

/-- slices.Clone[[]int,int] -/
def slices_Clone_int_int.F (n : Nat) (x0 : List (Int)) : Option ((List (Int))) :=
  if ([] : List (Int)).length + x0.length ≤ 4398046511104 then (some (([] : List (Int)) ++ x0)) else none

/-- loop.example/g01158/impl.counting -/
def impl_counting.l0 (n : Nat) (K : (List (Int)) → Option ((List (Int)))) : Nat → (List (Int)) → Int → Int → Option ((List (Int)))
  | 0, _, _, _ => none
  | k + 1, x3, x6, x7 =>
    if (decide (x7 < x6)) = true then
      if x3.length + ([x7] : List (Int)).length ≤ 4398046511104 then (impl_counting.l0 n K k (x3 ++ ([x7] : List (Int))) x6 (IntKind.wrap .i64 (x7 + (1 : Int)))) else none
    else
      K x3
def impl_counting.F (n : Nat) (x0 : Int) : Option ((List (Int))) :=
  impl_counting.l0 n (fun y1 =>
    some y1) n ([] : List (Int)) x0 (0 : Int)

/-- slices.Equal[[]int,int] -/
def slices_Equal_int_int.l0 (n : Nat) (K : Unit → Option (Bool)) : Nat → (List (Int)) → (List (Int)) → Int → Int → Option (Bool)
  | 0, _, _, _, _ => none
  | k + 1, x0, x1, x12, x13 =>
    if (decide (x13 < x12)) = true then
      if 0 ≤ x13 ∧ x13 < (x0.length : Int) then (if 0 ≤ x13 ∧ x13 < (x1.length : Int) then (if (!decide ((x0.getD x13.toNat (0 : Int)) = (x1.getD x13.toNat (0 : Int)))) = true then
        some false
      else
        slices_Equal_int_int.l0 n K k x0 x1 x12 (IntKind.wrap .i64 (x13 + (1 : Int)))) else none) else none
    else
      K ()
def slices_Equal_int_int.F (n : Nat) (x0 : List (Int)) (x1 : List (Int)) : Option (Bool) :=
  if (!decide ((x0.length : Int) = (x1.length : Int))) = true then
    some false
  else
    slices_Equal_int_int.l0 n (fun _ =>
      some true) n x0 x1 (x0.length : Int) (0 : Int)

/-- loop.example/g01158/impl.isOrder -/
def impl_isOrder.F (n : Nat) (x0 : List (Int)) (x1 : Int) : Option (Bool) :=
  (slices_Clone_int_int.F n x0).bind fun r1 =>
  (sortInts.F n r1).bind fun r2 =>
  (impl_counting.F n x1).bind fun r3 =>
  (slices_Equal_int_int.F n r2 r3).bind fun r4 =>
  some r4

/-- slices.Clone[[][3]int,[3]int] -/
def slices_Clone_3_int_3_int.F (n : Nat) (x0 : List (Int × Int × Int)) : Option ((List (Int × Int × Int))) :=
  if ([] : List (Int × Int × Int)).length + x0.length ≤ 4398046511104 then (some (([] : List (Int × Int × Int)) ++ x0)) else none

/-- loop.example/g01158/impl.own -/
def impl_own.F (n : Nat) (x0_0 : Int) (x0_1 : List (Int × Int × Int)) (x0_2 : List (Int)) : Option (Int × (List (Int × Int × Int)) × (List (Int))) :=
  (slices_Clone_3_int_3_int.F n x0_1).bind fun r1 =>
  (slices_Clone_int_int.F n x0_2).bind fun r2 =>
  some (x0_0, r1, r2)

/-- loop.example/g01158/impl.members -/
def impl_members.l0 (n : Nat) (K : (List (Int)) → Option ((List (Int)))) : Nat → Int → (List (Int)) → Int → Option ((List (Int)))
  | 0, _, _, _ => none
  | k + 1, x0, x3, x4 =>
    if x4 < 0 then none else (if (decide ((shR .i64 x0 x4) > (0 : Int))) = true then
      if x4 < 0 then none else (if (decide ((bitAnd .i64 (shR .i64 x0 x4) 1) = (1 : Int))) = true then
        if x3.length + ([x4] : List (Int)).length ≤ 4398046511104 then (impl_members.l0 n K k x0 (x3 ++ ([x4] : List (Int))) (IntKind.wrap .i64 (x4 + (1 : Int)))) else none
      else
        impl_members.l0 n K k x0 x3 (IntKind.wrap .i64 (x4 + (1 : Int))))
    else
      K x3)
def impl_members.F (n : Nat) (x0 : Int) : Option ((List (Int))) :=
  impl_members.l0 n (fun y1 =>
    some y1) n x0 ([] : List (Int)) (0 : Int)

/-- loop.example/g01158/impl.RepaintMaze$1 -/
def impl_RepaintMaze_1_c0.l0 (n : Nat) (K : Int → Option (Int)) : Nat → (List (Int)) → Int → (List (Int)) → Int → Int → Option (Int)
  | 0, _, _, _, _, _ => none
  | k + 1, x1, x4, x8, x9, x10 =>
    if (decide (x10 < x9)) = true then
      if 0 ≤ x10 ∧ x10 < (x8.length : Int) then (if 0 ≤ (x8.getD x10.toNat (0 : Int)) ∧ (x8.getD x10.toNat (0 : Int)) < (x1.length : Int) then (if (x1.getD ((x8.getD x10.toNat (0 : Int)).toNat) (0 : Int)) < 0 then none else (impl_RepaintMaze_1_c0.l0 n K k x1 (bitOr .i64 x4 (shL .i64 1 (x1.getD ((x8.getD x10.toNat (0 : Int)).toNat) (0 : Int)))) x8 x9 (IntKind.wrap .i64 (x10 + (1 : Int))))) else none) else none
    else
      K x4
def impl_RepaintMaze_1_c0.F (n : Nat) (x0 : Int) (x1 : List (Int)) : Option (Int) :=
  (impl_members.F n x0).bind fun r1 =>
  impl_RepaintMaze_1_c0.l0 n (fun y2 =>
    some y2) n x1 (0 : Int) r1 (r1.length : Int) (0 : Int)

/-- slices.Compact[[][3]int,[3]int] -/
def slices_Compact_3_int_3_int.l2 (n : Nat) (K : (List (Int × Int × Int)) → Int → Option ((List (Int × Int × Int)))) : Nat → (List (Int × Int × Int)) → Int → Nat → Int → Option ((List (Int × Int × Int)))
  | 0, _, _, _, _ => none
  | k + 1, x0, x3, x4, x5 =>
    if (decide (x5 < ((x0.drop x4).length : Int))) = true then
      if 0 ≤ x5 ∧ x5 < ((x0.drop x4).length : Int) then (if 0 ≤ (IntKind.wrap .i64 (x5 - (1 : Int))) ∧ (IntKind.wrap .i64 (x5 - (1 : Int))) < ((x0.drop x4).length : Int) then (if (!(decide (((x0.getD (x4 + x5.toNat) ((0 : Int), (0 : Int), (0 : Int))).1) = ((x0.getD (x4 + ((IntKind.wrap .i64 (x5 - (1 : Int))).toNat)) ((0 : Int), (0 : Int), (0 : Int))).1)) && (decide (((x0.getD (x4 + x5.toNat) ((0 : Int), (0 : Int), (0 : Int))).2.1) = ((x0.getD (x4 + ((IntKind.wrap .i64 (x5 - (1 : Int))).toNat)) ((0 : Int), (0 : Int), (0 : Int))).2.1)) && (decide (((x0.getD (x4 + x5.toNat) ((0 : Int), (0 : Int), (0 : Int))).2.2) = ((x0.getD (x4 + ((IntKind.wrap .i64 (x5 - (1 : Int))).toNat)) ((0 : Int), (0 : Int), (0 : Int))).2.2)) && true)))) = true then
        if 0 ≤ x5 ∧ x5 < ((x0.drop x4).length : Int) then (if 0 ≤ x3 ∧ x3 < (x0.length : Int) then (slices_Compact_3_int_3_int.l2 n K k (x0.set x3.toNat (x0.getD (x4 + x5.toNat) ((0 : Int), (0 : Int), (0 : Int)))) (IntKind.wrap .i64 (x3 + (1 : Int))) x4 (IntKind.wrap .i64 (x5 + (1 : Int)))) else none) else none
      else
        slices_Compact_3_int_3_int.l2 n K k x0 x3 x4 (IntKind.wrap .i64 (x5 + (1 : Int)))) else none) else none
    else
      K x0 x3
def slices_Compact_3_int_3_int.l0 (n : Nat) (K : (List (Int × Int × Int)) → Option ((List (Int × Int × Int)))) : Nat → (List (Int × Int × Int)) → Int → Option ((List (Int × Int × Int)))
  | 0, _, _ => none
  | k + 1, x0, x3 =>
    if (decide (x3 < (x0.length : Int))) = true then
      if 0 ≤ x3 ∧ x3 < (x0.length : Int) then (if 0 ≤ (IntKind.wrap .i64 (x3 - (1 : Int))) ∧ (IntKind.wrap .i64 (x3 - (1 : Int))) < (x0.length : Int) then (if (decide (((x0.getD x3.toNat ((0 : Int), (0 : Int), (0 : Int))).1) = ((x0.getD ((IntKind.wrap .i64 (x3 - (1 : Int))).toNat) ((0 : Int), (0 : Int), (0 : Int))).1)) && (decide (((x0.getD x3.toNat ((0 : Int), (0 : Int), (0 : Int))).2.1) = ((x0.getD ((IntKind.wrap .i64 (x3 - (1 : Int))).toNat) ((0 : Int), (0 : Int), (0 : Int))).2.1)) && (decide (((x0.getD x3.toNat ((0 : Int), (0 : Int), (0 : Int))).2.2) = ((x0.getD ((IntKind.wrap .i64 (x3 - (1 : Int))).toNat) ((0 : Int), (0 : Int), (0 : Int))).2.2)) && true))) = true then
        if 0 ≤ x3 ∧ x3 ≤ (x0.length : Int) then (slices_Compact_3_int_3_int.l2 n (fun y1 y2 =>
          if 0 ≤ y2 ∧ y2 ≤ (y1.length : Int) then (if 0 ≤ y2 ∧ y2 ≤ ((y1.take y2.toNat ++ List.replicate (y1.length - y2.toNat) ((0 : Int), (0 : Int), (0 : Int))).length : Int) then (some ((y1.take y2.toNat ++ List.replicate (y1.length - y2.toNat) ((0 : Int), (0 : Int), (0 : Int))).take y2.toNat)) else none) else none) n x0 x3 x3.toNat (1 : Int)) else none
      else
        slices_Compact_3_int_3_int.l0 n K k x0 (IntKind.wrap .i64 (x3 + (1 : Int)))) else none) else none
    else
      K x0
def slices_Compact_3_int_3_int.F (n : Nat) (x0 : List (Int × Int × Int)) : Option ((List (Int × Int × Int))) :=
  if (decide ((x0.length : Int) < (2 : Int))) = true then
    some x0
  else
    slices_Compact_3_int_3_int.l0 n (fun y3 =>
      some y3) n x0 (1 : Int)

/-- loop.example/g01158/impl.tidy -/
def impl_tidy.l0 (n : Nat) (K : Int → (List (Int × Int × Int)) → (List (Int)) → Int → (List (Int × Int × Int)) → (List (Int)) → Option (Int × (List (Int × Int × Int)) × (List (Int)))) : Nat → Int → (List (Int × Int × Int)) → (List (Int)) → Int → (List (Int × Int × Int)) → (List (Int)) → Int → Int → Option (Int × (List (Int × Int × Int)) × (List (Int)))
  | 0, _, _, _, _, _, _, _, _ => none
  | k + 1, x1_0, x1_1, x1_2, x2_0, x2_1, x2_2, x7, x8 =>
    if (decide (x8 < x7)) = true then
      if 0 ≤ x8 ∧ x8 < (x1_1.length : Int) then (if 0 ≤ x8 ∧ x8 < (x1_1.length : Int) then (impl_tidy.l0 n K k x1_0 (x1_1.set x8.toNat (if ((x1_1.getD x8.toNat ((0 : Int), (0 : Int), (0 : Int))).2.1) < ((x1_1.getD x8.toNat ((0 : Int), (0 : Int), (0 : Int))).1) then (x1_1.getD x8.toNat ((0 : Int), (0 : Int), (0 : Int))).2.1 else (x1_1.getD x8.toNat ((0 : Int), (0 : Int), (0 : Int))).1, if ((x1_1.getD x8.toNat ((0 : Int), (0 : Int), (0 : Int))).2.1) > ((x1_1.getD x8.toNat ((0 : Int), (0 : Int), (0 : Int))).1) then (x1_1.getD x8.toNat ((0 : Int), (0 : Int), (0 : Int))).2.1 else (x1_1.getD x8.toNat ((0 : Int), (0 : Int), (0 : Int))).1, (x1_1.getD x8.toNat ((0 : Int), (0 : Int), (0 : Int))).2.2)) x1_2 x2_0 x2_1 x2_2 x7 (IntKind.wrap .i64 (x8 + (1 : Int)))) else none) else none
    else
      K x1_0 x1_1 x1_2 x2_0 x2_1 x2_2
def impl_tidy.F (n : Nat) (x0_0 : Int) (x0_1 : List (Int × Int × Int)) (x0_2 : List (Int)) : Option (Int × (List (Int × Int × Int)) × (List (Int))) :=
  impl_tidy.l0 n (fun y1 y2 y3 y4 y5 y6 =>
    (sortDoors.F n y2).bind fun r7 =>
    (slices_Compact_3_int_3_int.F n r7).bind fun r8 =>
    some (y1, r8, y3)) n x0_0 x0_1 x0_2 (0 : Int) ([] : List (Int × Int × Int)) ([] : List (Int)) (x0_1.length : Int) (0 : Int)

/-- loop.example/g01158/impl.changed -/
def impl_changed_cRepaintMaze_1.l0 (n : Nat) (K : (List (Int)) → Int → (List (Int × Int × Int)) → (List (Int)) → Int → (List (Int × Int × Int)) → (List (Int)) → Option (Int × (List (Int × Int × Int)) × (List (Int)))) : Nat → (List (Int)) → Int → (List (Int × Int × Int)) → (List (Int)) → Int → (List (Int × Int × Int)) → (List (Int)) → Int → Int → Option (Int × (List (Int × Int × Int)) × (List (Int)))
  | 0, _, _, _, _, _, _, _, _, _ => none
  | k + 1, x1, x4_0, x4_1, x4_2, x5_0, x5_1, x5_2, x13, x14 =>
    if (decide (x14 < x13)) = true then
      if 0 ≤ x14 ∧ x14 < (x5_1.length : Int) then ((impl_RepaintMaze_1_c0.F n ((x5_1.getD x14.toNat ((0 : Int), (0 : Int), (0 : Int))).2.2) x1).bind fun r2 =>
      if 0 ≤ x14 ∧ x14 < (x5_1.length : Int) then (impl_changed_cRepaintMaze_1.l0 n K k x1 x4_0 x4_1 x4_2 x5_0 (x5_1.set x14.toNat ((x5_1.getD x14.toNat ((0 : Int), (0 : Int), (0 : Int))).1, (x5_1.getD x14.toNat ((0 : Int), (0 : Int), (0 : Int))).2.1, r2)) x5_2 x13 (IntKind.wrap .i64 (x14 + (1 : Int)))) else none) else none
    else
      K x1 x4_0 x4_1 x4_2 x5_0 x5_1 x5_2
def impl_changed_cRepaintMaze_1.l2 (n : Nat) (K : Int → (List (Int × Int × Int)) → (List (Int)) → Int → (List (Int × Int × Int)) → (List (Int)) → Option (Int × (List (Int × Int × Int)) × (List (Int)))) : Nat → (List (Int)) → Int → (List (Int × Int × Int)) → (List (Int)) → Int → (List (Int × Int × Int)) → (List (Int)) → Int → Int → Option (Int × (List (Int × Int × Int)) × (List (Int)))
  | 0, _, _, _, _, _, _, _, _, _ => none
  | k + 1, x1, x4_0, x4_1, x4_2, x5_0, x5_1, x5_2, x33, x34 =>
    if (decide (x34 < x33)) = true then
      if 0 ≤ x34 ∧ x34 < (x5_2.length : Int) then ((impl_RepaintMaze_1_c0.F n (x5_2.getD x34.toNat (0 : Int)) x1).bind fun r10 =>
      if 0 ≤ x34 ∧ x34 < (x5_2.length : Int) then (impl_changed_cRepaintMaze_1.l2 n K k x1 x4_0 x4_1 x4_2 x5_0 x5_1 (x5_2.set x34.toNat r10) x33 (IntKind.wrap .i64 (x34 + (1 : Int)))) else none) else none
    else
      K x4_0 x4_1 x4_2 x5_0 x5_1 x5_2
def impl_changed_cRepaintMaze_1.F (n : Nat) (x0_0 : Int) (x0_1 : List (Int × Int × Int)) (x0_2 : List (Int)) (x1 : List (Int)) : Option (Int × (List (Int × Int × Int)) × (List (Int))) :=
  (impl_own.F n x0_0 x0_1 x0_2).bind fun r1 =>
  impl_changed_cRepaintMaze_1.l0 n (fun y3 y4 y5 y6 y7 y8 y9 =>
    impl_changed_cRepaintMaze_1.l2 n (fun y11 y12 y13 y14 y15 y16 =>
      (impl_tidy.F n y14 y15 y16).bind fun r17 =>
      some (r17.1, r17.2.1, r17.2.2)) n y3 y4 y5 y6 y7 y8 y9 (y9.length : Int) (0 : Int)) n x1 (0 : Int) ([] : List (Int × Int × Int)) ([] : List (Int)) r1.1 r1.2.1 r1.2.2 (r1.2.1.length : Int) (0 : Int)

/-- loop.example/g01158/impl.RepaintMaze -/
def impl_RepaintMaze.F (n : Nat) (x0_0 : Int) (x0_1 : List (Int × Int × Int)) (x0_2 : List (Int)) (x1 : List (Int)) : Option (Int × (List (Int × Int × Int)) × (List (Int)) × Bool) :=
  (impl_IsMaze.F n x0_0 x0_1 x0_2).bind fun r1 =>
  if (!r1) = true then
    some ((0 : Int), ([] : List (Int × Int × Int)), ([] : List (Int)), false)
  else
    (impl_isOrder.F n x1 (6 : Int)).bind fun r2 =>
    if (!r2) = true then
      some ((0 : Int), ([] : List (Int × Int × Int)), ([] : List (Int)), false)
    else
      (impl_changed_cRepaintMaze_1.F n x0_0 x0_1 x0_2 x1).bind fun r3 =>
      some (r3.1, r3.2.1, r3.2.2, true)

/-- loop.example/g01158/laws.eqIntA3 -/
def laws_eqIntA3.F (n : Nat) (x0_0 : Int) (x0_1 : Int) (x0_2 : Int) (x1_0 : Int) (x1_1 : Int) (x1_2 : Int) : Option (Bool) :=
  if (!decide (x0_0 = x1_0)) = true then
    some false
  else
    if (!decide (x0_1 = x1_1)) = true then
      some false
    else
      if (!decide (x0_2 = x1_2)) = true then
        some false
      else
        some true

/-- loop.example/g01158/laws.eqIntA3S -/
def laws_eqIntA3S.l0 (n : Nat) (K : Unit → Option (Bool)) : Nat → (List (Int × Int × Int)) → (List (Int × Int × Int)) → Int → Option (Bool)
  | 0, _, _, _ => none
  | k + 1, x0, x1, x5 =>
    if (decide (x5 < (x0.length : Int))) = true then
      if 0 ≤ x5 ∧ x5 < (x0.length : Int) then (if 0 ≤ x5 ∧ x5 < (x1.length : Int) then ((laws_eqIntA3.F n ((x0.getD x5.toNat ((0 : Int), (0 : Int), (0 : Int))).1) ((x0.getD x5.toNat ((0 : Int), (0 : Int), (0 : Int))).2.1) ((x0.getD x5.toNat ((0 : Int), (0 : Int), (0 : Int))).2.2) ((x1.getD x5.toNat ((0 : Int), (0 : Int), (0 : Int))).1) ((x1.getD x5.toNat ((0 : Int), (0 : Int), (0 : Int))).2.1) ((x1.getD x5.toNat ((0 : Int), (0 : Int), (0 : Int))).2.2)).bind fun r1 =>
      if (!r1) = true then
        some false
      else
        laws_eqIntA3S.l0 n K k x0 x1 (IntKind.wrap .i64 (x5 + (1 : Int)))) else none) else none
    else
      K ()
def laws_eqIntA3S.F (n : Nat) (x0 : List (Int × Int × Int)) (x1 : List (Int × Int × Int)) : Option (Bool) :=
  if (!decide ((x0.length : Int) = (x1.length : Int))) = true then
    some false
  else
    laws_eqIntA3S.l0 n (fun _ =>
      some true) n x0 x1 (0 : Int)

/-- loop.example/g01158/laws.eqIntS -/
def laws_eqIntS.l0 (n : Nat) (K : Unit → Option (Bool)) : Nat → (List (Int)) → (List (Int)) → Int → Option (Bool)
  | 0, _, _, _ => none
  | k + 1, x0, x1, x5 =>
    if (decide (x5 < (x0.length : Int))) = true then
      if 0 ≤ x5 ∧ x5 < (x0.length : Int) then (if 0 ≤ x5 ∧ x5 < (x1.length : Int) then (if (!decide ((x0.getD x5.toNat (0 : Int)) = (x1.getD x5.toNat (0 : Int)))) = true then
        some false
      else
        laws_eqIntS.l0 n K k x0 x1 (IntKind.wrap .i64 (x5 + (1 : Int)))) else none) else none
    else
      K ()
def laws_eqIntS.F (n : Nat) (x0 : List (Int)) (x1 : List (Int)) : Option (Bool) :=
  if (!decide ((x0.length : Int) = (x1.length : Int))) = true then
    some false
  else
    laws_eqIntS.l0 n (fun _ =>
      some true) n x0 x1 (0 : Int)

/-- loop.example/g01158/laws.eqMaze -/
def laws_eqMaze.F (n : Nat) (x0_0 : Int) (x0_1 : List (Int × Int × Int)) (x0_2 : List (Int)) (x1_0 : Int) (x1_1 : List (Int × Int × Int)) (x1_2 : List (Int)) : Option (Bool) :=
  if (!decide (x0_0 = x1_0)) = true then
    some false
  else
    (laws_eqIntA3S.F n x0_1 x1_1).bind fun r1 =>
    if (!r1) = true then
      some false
    else
      (laws_eqIntS.F n x0_2 x1_2).bind fun r2 =>
      if (!r2) = true then
        some false
      else
        some true

/-- loop.example/g01158/laws.markIntA3S -/
def laws_markIntA3S.l0 (n : Nat) (K : (List (Int × Int × Int)) → Int → Option (Int × (List (Int × Int × Int)))) : Nat → (List (Int × Int × Int)) → Int → Int → Option (Int × (List (Int × Int × Int)))
  | 0, _, _, _ => none
  | k + 1, x0, x1, x5 =>
    if (decide (x5 < (x0.length : Int))) = true then
      if 0 ≤ x5 ∧ x5 < (x0.length : Int) then (if 0 ≤ x5 ∧ x5 < ((x0.set x5.toNat (x1, (x0.getD x5.toNat ((0 : Int), (0 : Int), (0 : Int))).2.1, (x0.getD x5.toNat ((0 : Int), (0 : Int), (0 : Int))).2.2)).length : Int) then (if 0 ≤ x5 ∧ x5 < (((x0.set x5.toNat (x1, (x0.getD x5.toNat ((0 : Int), (0 : Int), (0 : Int))).2.1, (x0.getD x5.toNat ((0 : Int), (0 : Int), (0 : Int))).2.2)).set x5.toNat (((x0.set x5.toNat (x1, (x0.getD x5.toNat ((0 : Int), (0 : Int), (0 : Int))).2.1, (x0.getD x5.toNat ((0 : Int), (0 : Int), (0 : Int))).2.2)).getD x5.toNat ((0 : Int), (0 : Int), (0 : Int))).1, IntKind.wrap .i64 (x1 + (1 : Int)), ((x0.set x5.toNat (x1, (x0.getD x5.toNat ((0 : Int), (0 : Int), (0 : Int))).2.1, (x0.getD x5.toNat ((0 : Int), (0 : Int), (0 : Int))).2.2)).getD x5.toNat ((0 : Int), (0 : Int), (0 : Int))).2.2)).length : Int) then (laws_markIntA3S.l0 n K k (((x0.set x5.toNat (x1, (x0.getD x5.toNat ((0 : Int), (0 : Int), (0 : Int))).2.1, (x0.getD x5.toNat ((0 : Int), (0 : Int), (0 : Int))).2.2)).set x5.toNat (((x0.set x5.toNat (x1, (x0.getD x5.toNat ((0 : Int), (0 : Int), (0 : Int))).2.1, (x0.getD x5.toNat ((0 : Int), (0 : Int), (0 : Int))).2.2)).getD x5.toNat ((0 : Int), (0 : Int), (0 : Int))).1, IntKind.wrap .i64 (x1 + (1 : Int)), ((x0.set x5.toNat (x1, (x0.getD x5.toNat ((0 : Int), (0 : Int), (0 : Int))).2.1, (x0.getD x5.toNat ((0 : Int), (0 : Int), (0 : Int))).2.2)).getD x5.toNat ((0 : Int), (0 : Int), (0 : Int))).2.2)).set x5.toNat ((((x0.set x5.toNat (x1, (x0.getD x5.toNat ((0 : Int), (0 : Int), (0 : Int))).2.1, (x0.getD x5.toNat ((0 : Int), (0 : Int), (0 : Int))).2.2)).set x5.toNat (((x0.set x5.toNat (x1, (x0.getD x5.toNat ((0 : Int), (0 : Int), (0 : Int))).2.1, (x0.getD x5.toNat ((0 : Int), (0 : Int), (0 : Int))).2.2)).getD x5.toNat ((0 : Int), (0 : Int), (0 : Int))).1, IntKind.wrap .i64 (x1 + (1 : Int)), ((x0.set x5.toNat (x1, (x0.getD x5.toNat ((0 : Int), (0 : Int), (0 : Int))).2.1, (x0.getD x5.toNat ((0 : Int), (0 : Int), (0 : Int))).2.2)).getD x5.toNat ((0 : Int), (0 : Int), (0 : Int))).2.2)).getD x5.toNat ((0 : Int), (0 : Int), (0 : Int))).1, (((x0.set x5.toNat (x1, (x0.getD x5.toNat ((0 : Int), (0 : Int), (0 : Int))).2.1, (x0.getD x5.toNat ((0 : Int), (0 : Int), (0 : Int))).2.2)).set x5.toNat (((x0.set x5.toNat (x1, (x0.getD x5.toNat ((0 : Int), (0 : Int), (0 : Int))).2.1, (x0.getD x5.toNat ((0 : Int), (0 : Int), (0 : Int))).2.2)).getD x5.toNat ((0 : Int), (0 : Int), (0 : Int))).1, IntKind.wrap .i64 (x1 + (1 : Int)), ((x0.set x5.toNat (x1, (x0.getD x5.toNat ((0 : Int), (0 : Int), (0 : Int))).2.1, (x0.getD x5.toNat ((0 : Int), (0 : Int), (0 : Int))).2.2)).getD x5.toNat ((0 : Int), (0 : Int), (0 : Int))).2.2)).getD x5.toNat ((0 : Int), (0 : Int), (0 : Int))).2.1, IntKind.wrap .i64 ((IntKind.wrap .i64 (x1 + (1 : Int))) + (1 : Int)))) (IntKind.wrap .i64 ((IntKind.wrap .i64 ((IntKind.wrap .i64 (x1 + (1 : Int))) + (1 : Int))) + (1 : Int))) (IntKind.wrap .i64 (x5 + (1 : Int)))) else none) else none) else none
    else
      K x0 x1
def laws_markIntA3S.F (n : Nat) (x0 : List (Int × Int × Int)) (x1 : Int) : Option (Int × (List (Int × Int × Int))) :=
  laws_markIntA3S.l0 n (fun y1 y2 =>
    some (y2, y1)) n x0 x1 (0 : Int)

/-- loop.example/g01158/laws.markIntS -/
def laws_markIntS.l0 (n : Nat) (K : (List (Int)) → Int → Option (Int × (List (Int)))) : Nat → (List (Int)) → Int → Int → Option (Int × (List (Int)))
  | 0, _, _, _ => none
  | k + 1, x0, x1, x5 =>
    if (decide (x5 < (x0.length : Int))) = true then
      if 0 ≤ x5 ∧ x5 < (x0.length : Int) then (laws_markIntS.l0 n K k (x0.set x5.toNat x1) (IntKind.wrap .i64 (x1 + (1 : Int))) (IntKind.wrap .i64 (x5 + (1 : Int)))) else none
    else
      K x0 x1
def laws_markIntS.F (n : Nat) (x0 : List (Int)) (x1 : Int) : Option (Int × (List (Int))) :=
  laws_markIntS.l0 n (fun y1 y2 =>
    some (y2, y1)) n x0 x1 (0 : Int)

/-- loop.example/g01158/laws.markMaze -/
def laws_markMaze.F (n : Nat) (x0_0 : Int) (x0_1 : List (Int × Int × Int)) (x0_2 : List (Int)) (x1 : Int) : Option (Int × Int × (List (Int × Int × Int)) × (List (Int))) :=
  (laws_markIntA3S.F n x0_1 x1).bind fun r1 =>
  (laws_markIntS.F n x0_2 r1.1).bind fun r2 =>
  some (r2.1, x0_0, r1.2, r2.2)

/-- loop.example/g01158/laws.heldIntA3S -/
def laws_heldIntA3S.l0 (n : Nat) (K : Int → Option (Int)) : Nat → (List (Int × Int × Int)) → Int → Int → Option (Int)
  | 0, _, _, _ => none
  | k + 1, x0, x1, x5 =>
    if (decide (x5 < (x0.length : Int))) = true then
      if 0 ≤ x5 ∧ x5 < (x0.length : Int) then (if (!decide (((x0.getD x5.toNat ((0 : Int), (0 : Int), (0 : Int))).1) = x1)) = true then
        some (-1 : Int)
      else
        if 0 ≤ x5 ∧ x5 < (x0.length : Int) then (if (!decide (((x0.getD x5.toNat ((0 : Int), (0 : Int), (0 : Int))).2.1) = (IntKind.wrap .i64 (x1 + (1 : Int))))) = true then
          some (-1 : Int)
        else
          if 0 ≤ x5 ∧ x5 < (x0.length : Int) then (if (!decide (((x0.getD x5.toNat ((0 : Int), (0 : Int), (0 : Int))).2.2) = (IntKind.wrap .i64 ((IntKind.wrap .i64 (x1 + (1 : Int))) + (1 : Int))))) = true then
            some (-1 : Int)
          else
            laws_heldIntA3S.l0 n K k x0 (IntKind.wrap .i64 ((IntKind.wrap .i64 ((IntKind.wrap .i64 (x1 + (1 : Int))) + (1 : Int))) + (1 : Int))) (IntKind.wrap .i64 (x5 + (1 : Int)))) else none) else none) else none
    else
      K x1
def laws_heldIntA3S.F (n : Nat) (x0 : List (Int × Int × Int)) (x1 : Int) : Option (Int) :=
  laws_heldIntA3S.l0 n (fun y1 =>
    some y1) n x0 x1 (0 : Int)

/-- loop.example/g01158/laws.heldIntS -/
def laws_heldIntS.l0 (n : Nat) (K : Int → Option (Int)) : Nat → (List (Int)) → Int → Int → Option (Int)
  | 0, _, _, _ => none
  | k + 1, x0, x1, x5 =>
    if (decide (x5 < (x0.length : Int))) = true then
      if 0 ≤ x5 ∧ x5 < (x0.length : Int) then (if (!decide ((x0.getD x5.toNat (0 : Int)) = x1)) = true then
        some (-1 : Int)
      else
        laws_heldIntS.l0 n K k x0 (IntKind.wrap .i64 (x1 + (1 : Int))) (IntKind.wrap .i64 (x5 + (1 : Int)))) else none
    else
      K x1
def laws_heldIntS.F (n : Nat) (x0 : List (Int)) (x1 : Int) : Option (Int) :=
  laws_heldIntS.l0 n (fun y1 =>
    some y1) n x0 x1 (0 : Int)

/-- loop.example/g01158/laws.heldMaze -/
def laws_heldMaze.F (n : Nat) (x0_0 : Int) (x0_1 : List (Int × Int × Int)) (x0_2 : List (Int)) (x1 : Int) : Option (Int) :=
  (laws_heldIntA3S.F n x0_1 x1).bind fun r1 =>
  if (decide (r1 < (0 : Int))) = true then
    some (-1 : Int)
  else
    (laws_heldIntS.F n x0_2 r1).bind fun r2 =>
    if (decide (r2 < (0 : Int))) = true then
      some (-1 : Int)
    else
      some r2

/-- loop.example/g01158/laws.FnExactRepaintMaze -/
def laws_FnExactRepaintMaze.F (n : Nat) (x0_0 : Int) (x0_1 : List (Int × Int × Int)) (x0_2 : List (Int)) (x1 : List (Int)) : Option (Bool) :=
  if (decide ((x1.length : Int) > (1048576 : Int))) = true then
    some true
  else
    (laws_szMaze.F n x0_0 x0_1 x0_2 (1048576 : Int)).bind fun r1 =>
    if (decide (r1 < (0 : Int))) = true then
      some true
    else
      (laws_toMaze.F n x0_0 x0_1 x0_2).bind fun r2 =>
      (laws_toIntS.F n x1).bind fun r3 =>
      (spec_RepaintMaze.F n r2.1 r2.2.1 r2.2.2 r3).bind fun r4 =>
      (laws_toMaze.F n x0_0 x0_1 x0_2).bind fun r5 =>
      (laws_toIntS.F n x1).bind fun r6 =>
      (impl_RepaintMaze.F n r5.1 r5.2.1 r5.2.2 r6).bind fun r7 =>
      let j13 : (List (Int)) → (Int) → (List (Int × Int × Int)) → (List (Int)) → (Int) → (List (Int × Int × Int)) → (List (Int)) → (Bool) → (Int) → (List (Int × Int × Int)) → (List (Int)) → (List (Int)) → (Int) → (List (Int × Int × Int)) → (List (Int)) → (Bool) → Option (Bool) := fun j13_x1 j13_x2_0 j13_x2_1 j13_x2_2 j13_x6_0 j13_x6_1 j13_x6_2 j13_x7 j13_x8_0 j13_x8_1 j13_x8_2 j13_x9 j13_x10_0 j13_x10_1 j13_x10_2 j13_x11 =>
        (laws_toMaze.F n j13_x2_0 j13_x2_1 j13_x2_2).bind fun r9 =>
        (laws_eqMaze.F n j13_x8_0 j13_x8_1 j13_x8_2 r9.1 r9.2.1 r9.2.2).bind fun r10 =>
        if (!r10) = true then
          some false
        else
          (laws_toIntS.F n j13_x1).bind fun r11 =>
          (laws_eqIntS.F n j13_x9 r11).bind fun r12 =>
          if (!r12) = true then
            some false
          else
            (laws_markMaze.F n j13_x8_0 j13_x8_1 j13_x8_2 (1 : Int)).bind fun r13 =>
            (laws_markIntS.F n j13_x9 r13.1).bind fun r14 =>
            let j22 : (List (Int)) → (Int) → (List (Int × Int × Int)) → (List (Int)) → (Int) → (List (Int × Int × Int)) → (List (Int)) → (Bool) → (Int) → (List (Int × Int × Int)) → (List (Int)) → Option (Bool) := fun j22_x1 j22_x2_0 j22_x2_1 j22_x2_2 j22_x6_0 j22_x6_1 j22_x6_2 j22_x7 j22_x10_0 j22_x10_1 j22_x10_2 =>
              (laws_markMaze.F n j22_x10_0 j22_x10_1 j22_x10_2 (1 : Int)).bind fun r16 =>
              (laws_heldMaze.F n j22_x10_0 r16.2.2.1 r16.2.2.2 (1 : Int)).bind fun r17 =>
              if (decide (r17 < (0 : Int))) = true then
                some false
              else
                if (!decide (r17 = r16.1)) = true then
                  some false
                else
                  (laws_toMaze.F n j22_x2_0 j22_x2_1 j22_x2_2).bind fun r18 =>
                  (laws_toIntS.F n j22_x1).bind fun r19 =>
                  (impl_RepaintMaze.F n r18.1 r18.2.1 r18.2.2 r19).bind fun r20 =>
                  (laws_eqMaze.F n r20.1 r20.2.1 r20.2.2.1 j22_x6_0 j22_x6_1 j22_x6_2).bind fun r21 =>
                  if (!r21) = true then
                    some false
                  else
                    if (!(r20.2.2.2 == j22_x7)) = true then
                      some false
                    else
                      (laws_heldMaze.F n j22_x10_0 r16.2.2.1 r16.2.2.2 (1 : Int)).bind fun r22 =>
                      if (decide (r22 < (0 : Int))) = true then
                        some false
                      else
                        if (!decide (r22 = r16.1)) = true then
                          some false
                        else
                          some true
            if (decide (r14.1 < (0 : Int))) = true then
              some false
            else
              (laws_eqMaze.F n j13_x10_0 j13_x10_1 j13_x10_2 j13_x6_0 j13_x6_1 j13_x6_2).bind fun r15 =>
              if (!r15) = true then
                some false
              else
                if (!(j13_x11 == j13_x7)) = true then
                  some false
                else
                  j22 j13_x1 j13_x2_0 j13_x2_1 j13_x2_2 j13_x6_0 j13_x6_1 j13_x6_2 j13_x7 j13_x10_0 j13_x10_1 j13_x10_2
      (laws_eqMaze.F n r7.1 r7.2.1 r7.2.2.1 r4.1 r4.2.1 r4.2.2.1).bind fun r8 =>
      if (!r8) = true then
        some false
      else
        if (!(r7.2.2.2 == r4.2.2.2)) = true then
          some false
        else
          j13 x1 x0_0 x0_1 x0_2 r4.1 r4.2.1 r4.2.2.1 r4.2.2.2 r5.1 r5.2.1 r5.2.2 r6 r7.1 r7.2.1 r7.2.2.1 r7.2.2.2

/-- loop.example/g01158/spec.l2Barred -/
def spec_l2Barred.l0 (n : Nat) (K : Int → Int → (List (Int × Int × Int)) → (List (Int)) → Int → (List (Int × Int × Int)) → (List (Int)) → Int → (List (Int × Int × Int)) → (List (Int)) → Option (Int × (List (Int × Int × Int)) × (List (Int)))) : Nat → Int → Int → (List (Int × Int × Int)) → (List (Int)) → Int → (List (Int × Int × Int)) → (List (Int)) → Int → (List (Int × Int × Int)) → (List (Int)) → Int → Option (Int × (List (Int × Int × Int)) × (List (Int)))
  | 0, _, _, _, _, _, _, _, _, _, _, _ => none
  | k + 1, x1, x2_0, x2_1, x2_2, x4_0, x4_1, x4_2, x5_0, x5_1, x5_2, x6 =>
    if (decide (x6 < (x2_1.length : Int))) = true then
      if 0 ≤ x6 ∧ x6 < (x2_1.length : Int) then (if (decide ((bitAnd .i64 ((x2_1.getD x6.toNat ((0 : Int), (0 : Int), (0 : Int))).2.2) x1) = (0 : Int))) = true then
        if 0 ≤ x6 ∧ x6 < (x2_1.length : Int) then (if x5_1.length + ([(x2_1.getD x6.toNat ((0 : Int), (0 : Int), (0 : Int)))] : List (Int × Int × Int)).length ≤ 4398046511104 then (spec_l2Barred.l0 n K k x1 x2_0 x2_1 x2_2 x4_0 x4_1 x4_2 x5_0 (x5_1 ++ ([(x2_1.getD x6.toNat ((0 : Int), (0 : Int), (0 : Int)))] : List (Int × Int × Int))) x5_2 (IntKind.wrap .i64 (x6 + (1 : Int)))) else none) else none
      else
        spec_l2Barred.l0 n K k x1 x2_0 x2_1 x2_2 x4_0 x4_1 x4_2 x5_0 x5_1 x5_2 (IntKind.wrap .i64 (x6 + (1 : Int)))) else none
    else
      K x1 x2_0 x2_1 x2_2 x4_0 x4_1 x4_2 x5_0 x5_1 x5_2
def spec_l2Barred.l2 (n : Nat) (K : Int → (List (Int × Int × Int)) → (List (Int)) → Int → (List (Int × Int × Int)) → (List (Int)) → Option (Int × (List (Int × Int × Int)) × (List (Int)))) : Nat → Int → Int → (List (Int × Int × Int)) → (List (Int)) → Int → (List (Int × Int × Int)) → (List (Int)) → Int → (List (Int × Int × Int)) → (List (Int)) → Int → Option (Int × (List (Int × Int × Int)) × (List (Int)))
  | 0, _, _, _, _, _, _, _, _, _, _, _ => none
  | k + 1, x1, x2_0, x2_1, x2_2, x4_0, x4_1, x4_2, x5_0, x5_1, x5_2, x7 =>
    if (decide (x7 < x2_0)) = true then
      if 0 ≤ x7 ∧ x7 < (x2_2.length : Int) then (if x5_2.length + ([bitClr .i64 (x2_2.getD x7.toNat (0 : Int)) x1] : List (Int)).length ≤ 4398046511104 then (spec_l2Barred.l2 n K k x1 x2_0 x2_1 x2_2 x4_0 x4_1 x4_2 x5_0 x5_1 (x5_2 ++ ([bitClr .i64 (x2_2.getD x7.toNat (0 : Int)) x1] : List (Int))) (IntKind.wrap .i64 (x7 + (1 : Int)))) else none) else none
    else
      K x4_0 x4_1 x4_2 x5_0 x5_1 x5_2
def spec_l2Barred.F (n : Nat) (x0_0 : Int) (x0_1 : List (Int × Int × Int)) (x0_2 : List (Int)) (x1 : Int) : Option (Int × (List (Int × Int × Int)) × (List (Int))) :=
  spec_l2Barred.l0 n (fun y1 y2 y3 y4 y5 y6 y7 y8 y9 y10 =>
    spec_l2Barred.l2 n (fun y11 y12 y13 y14 y15 y16 =>
      some (y14, y15, y16)) n y1 y2 y3 y4 y5 y6 y7 y8 y9 y10 (0 : Int)) n x1 x0_0 x0_1 x0_2 (0 : Int) ([] : List (Int × Int × Int)) ([] : List (Int)) x0_0 ([] : List (Int × Int × Int)) ([] : List (Int)) (0 : Int)

/-- loop.example/g01158/spec.BarColours -/
def spec_BarColours.F (n : Nat) (x0_0 : Int) (x0_1 : List (Int × Int × Int)) (x0_2 : List (Int)) (x1 : Int) : Option (Int × (List (Int × Int × Int)) × (List (Int)) × Bool) :=
  (spec_l2Maze.F n x0_0 x0_1 x0_2).bind fun r1 =>
  if (!r1) = true then
    some ((0 : Int), ([] : List (Int × Int × Int)), ([] : List (Int)), false)
  else
    (spec_l2Set.F n x1).bind fun r2 =>
    if (!r2) = true then
      some ((0 : Int), ([] : List (Int × Int × Int)), ([] : List (Int)), false)
    else
      (spec_l2Barred.F n x0_0 x0_1 x0_2 x1).bind fun r3 =>
      some (r3.1, r3.2.1, r3.2.2, true)

/-- loop.example/g01158/impl.BarColours$1 -/
def impl_BarColours_1_c0.F (n : Nat) (x0 : Int) (x1 : Int) : Option (Int) :=
  some (bitClr .i64 x0 x1)

/-- loop.example/g01158/impl.changed -/
def impl_changed_cBarColours_1.l0 (n : Nat) (K : Int → Int → (List (Int × Int × Int)) → (List (Int)) → Int → (List (Int × Int × Int)) → (List (Int)) → Option (Int × (List (Int × Int × Int)) × (List (Int)))) : Nat → Int → Int → (List (Int × Int × Int)) → (List (Int)) → Int → (List (Int × Int × Int)) → (List (Int)) → Int → Int → Option (Int × (List (Int × Int × Int)) × (List (Int)))
  | 0, _, _, _, _, _, _, _, _, _ => none
  | k + 1, x1, x4_0, x4_1, x4_2, x5_0, x5_1, x5_2, x13, x14 =>
    if (decide (x14 < x13)) = true then
      if 0 ≤ x14 ∧ x14 < (x5_1.length : Int) then ((impl_BarColours_1_c0.F n ((x5_1.getD x14.toNat ((0 : Int), (0 : Int), (0 : Int))).2.2) x1).bind fun r2 =>
      if 0 ≤ x14 ∧ x14 < (x5_1.length : Int) then (impl_changed_cBarColours_1.l0 n K k x1 x4_0 x4_1 x4_2 x5_0 (x5_1.set x14.toNat ((x5_1.getD x14.toNat ((0 : Int), (0 : Int), (0 : Int))).1, (x5_1.getD x14.toNat ((0 : Int), (0 : Int), (0 : Int))).2.1, r2)) x5_2 x13 (IntKind.wrap .i64 (x14 + (1 : Int)))) else none) else none
    else
      K x1 x4_0 x4_1 x4_2 x5_0 x5_1 x5_2
def impl_changed_cBarColours_1.l2 (n : Nat) (K : Int → (List (Int × Int × Int)) → (List (Int)) → Int → (List (Int × Int × Int)) → (List (Int)) → Option (Int × (List (Int × Int × Int)) × (List (Int)))) : Nat → Int → Int → (List (Int × Int × Int)) → (List (Int)) → Int → (List (Int × Int × Int)) → (List (Int)) → Int → Int → Option (Int × (List (Int × Int × Int)) × (List (Int)))
  | 0, _, _, _, _, _, _, _, _, _ => none
  | k + 1, x1, x4_0, x4_1, x4_2, x5_0, x5_1, x5_2, x33, x34 =>
    if (decide (x34 < x33)) = true then
      if 0 ≤ x34 ∧ x34 < (x5_2.length : Int) then ((impl_BarColours_1_c0.F n (x5_2.getD x34.toNat (0 : Int)) x1).bind fun r10 =>
      if 0 ≤ x34 ∧ x34 < (x5_2.length : Int) then (impl_changed_cBarColours_1.l2 n K k x1 x4_0 x4_1 x4_2 x5_0 x5_1 (x5_2.set x34.toNat r10) x33 (IntKind.wrap .i64 (x34 + (1 : Int)))) else none) else none
    else
      K x4_0 x4_1 x4_2 x5_0 x5_1 x5_2
def impl_changed_cBarColours_1.F (n : Nat) (x0_0 : Int) (x0_1 : List (Int × Int × Int)) (x0_2 : List (Int)) (x1 : Int) : Option (Int × (List (Int × Int × Int)) × (List (Int))) :=
  (impl_own.F n x0_0 x0_1 x0_2).bind fun r1 =>
  impl_changed_cBarColours_1.l0 n (fun y3 y4 y5 y6 y7 y8 y9 =>
    impl_changed_cBarColours_1.l2 n (fun y11 y12 y13 y14 y15 y16 =>
      (impl_tidy.F n y14 y15 y16).bind fun r17 =>
      some (r17.1, r17.2.1, r17.2.2)) n y3 y4 y5 y6 y7 y8 y9 (y9.length : Int) (0 : Int)) n x1 (0 : Int) ([] : List (Int × Int × Int)) ([] : List (Int)) r1.1 r1.2.1 r1.2.2 (r1.2.1.length : Int) (0 : Int)

/-- loop.example/g01158/impl.BarColours$2 -/
def impl_BarColours_2_c0.F (n : Nat) (x0_0 : Int) (x0_1 : Int) (x0_2 : Int) (x1 : Int) : Option (Bool) :=
  some (!decide ((bitAnd .i64 x0_2 x1) = (0 : Int)))

/-- slices.IndexFunc[[][3]int,[3]int] -/
def slices_IndexFunc_3_int_3_int_cBarColours_2.l0 (n : Nat) (K : Unit → Option (Int)) : Nat → (List (Int × Int × Int)) → Int → Int → Int → Option (Int)
  | 0, _, _, _, _ => none
  | k + 1, x0, x1, x7, x8 =>
    if (decide (x8 < x7)) = true then
      if 0 ≤ x8 ∧ x8 < (x0.length : Int) then ((impl_BarColours_2_c0.F n ((x0.getD x8.toNat ((0 : Int), (0 : Int), (0 : Int))).1) ((x0.getD x8.toNat ((0 : Int), (0 : Int), (0 : Int))).2.1) ((x0.getD x8.toNat ((0 : Int), (0 : Int), (0 : Int))).2.2) x1).bind fun r1 =>
      if r1 = true then
        some x8
      else
        slices_IndexFunc_3_int_3_int_cBarColours_2.l0 n K k x0 x1 x7 (IntKind.wrap .i64 (x8 + (1 : Int)))) else none
    else
      K ()
def slices_IndexFunc_3_int_3_int_cBarColours_2.F (n : Nat) (x0 : List (Int × Int × Int)) (x1 : Int) : Option (Int) :=
  slices_IndexFunc_3_int_3_int_cBarColours_2.l0 n (fun _ =>
    some (-1 : Int)) n x0 x1 (x0.length : Int) (0 : Int)

/-- slices.DeleteFunc[[][3]int,[3]int] -/
def slices_DeleteFunc_3_int_3_int_cBarColours_2.l0 (n : Nat) (K : (List (Int × Int × Int)) → Int → Option ((List (Int × Int × Int)))) : Nat → (List (Int × Int × Int)) → Int → Int → Int → Option ((List (Int × Int × Int)))
  | 0, _, _, _, _ => none
  | k + 1, x0, x1, x5, x6 =>
    if (decide (x6 < (x0.length : Int))) = true then
      if 0 ≤ x6 ∧ x6 < (x0.length : Int) then ((impl_BarColours_2_c0.F n ((x0.getD x6.toNat ((0 : Int), (0 : Int), (0 : Int))).1) ((x0.getD x6.toNat ((0 : Int), (0 : Int), (0 : Int))).2.1) ((x0.getD x6.toNat ((0 : Int), (0 : Int), (0 : Int))).2.2) x1).bind fun r2 =>
      if (!r2) = true then
        if 0 ≤ x5 ∧ x5 < (x0.length : Int) then (slices_DeleteFunc_3_int_3_int_cBarColours_2.l0 n K k (x0.set x5.toNat (x0.getD x6.toNat ((0 : Int), (0 : Int), (0 : Int)))) x1 (IntKind.wrap .i64 (x5 + (1 : Int))) (IntKind.wrap .i64 (x6 + (1 : Int)))) else none
      else
        slices_DeleteFunc_3_int_3_int_cBarColours_2.l0 n K k x0 x1 x5 (IntKind.wrap .i64 (x6 + (1 : Int)))) else none
    else
      K x0 x5
def slices_DeleteFunc_3_int_3_int_cBarColours_2.F (n : Nat) (x0 : List (Int × Int × Int)) (x1 : Int) : Option ((List (Int × Int × Int))) :=
  (slices_IndexFunc_3_int_3_int_cBarColours_2.F n x0 x1).bind fun r1 =>
  if (decide (r1 = (-1 : Int))) = true then
    some x0
  else
    slices_DeleteFunc_3_int_3_int_cBarColours_2.l0 n (fun y3 y4 =>
      if 0 ≤ y4 ∧ y4 ≤ (y3.length : Int) then (if 0 ≤ y4 ∧ y4 ≤ ((y3.take y4.toNat ++ List.replicate (y3.length - y4.toNat) ((0 : Int), (0 : Int), (0 : Int))).length : Int) then (some ((y3.take y4.toNat ++ List.replicate (y3.length - y4.toNat) ((0 : Int), (0 : Int), (0 : Int))).take y4.toNat)) else none) else none) n x0 x1 r1 (IntKind.wrap .i64 (r1 + (1 : Int)))

/-- loop.example/g01158/impl.BarColours -/
def impl_BarColours.F (n : Nat) (x0_0 : Int) (x0_1 : List (Int × Int × Int)) (x0_2 : List (Int)) (x1 : Int) : Option (Int × (List (Int × Int × Int)) × (List (Int)) × Bool) :=
  (impl_IsMaze.F n x0_0 x0_1 x0_2).bind fun r1 =>
  if (!r1) = true then
    some ((0 : Int), ([] : List (Int × Int × Int)), ([] : List (Int)), false)
  else
    (impl_isSet.F n x1).bind fun r2 =>
    if (!r2) = true then
      some ((0 : Int), ([] : List (Int × Int × Int)), ([] : List (Int)), false)
    else
      (impl_changed_cBarColours_1.F n x0_0 x0_1 x0_2 x1).bind fun r3 =>
      (slices_Clone_3_int_3_int.F n x0_1).bind fun r4 =>
      (slices_DeleteFunc_3_int_3_int_cBarColours_2.F n r4 x1).bind fun r5 =>
      some (r3.1, r5, r3.2.2, true)

/-- loop.example/g01158/laws.FnExactBarColours -/
def laws_FnExactBarColours.F (n : Nat) (x0_0 : Int) (x0_1 : List (Int × Int × Int)) (x0_2 : List (Int)) (x1 : Int) : Option (Bool) :=
  (laws_szMaze.F n x0_0 x0_1 x0_2 (1048576 : Int)).bind fun r1 =>
  if (decide (r1 < (0 : Int))) = true then
    some true
  else
    (laws_toMaze.F n x0_0 x0_1 x0_2).bind fun r2 =>
    (spec_BarColours.F n r2.1 r2.2.1 r2.2.2 x1).bind fun r3 =>
    (laws_toMaze.F n x0_0 x0_1 x0_2).bind fun r4 =>
    (impl_BarColours.F n r4.1 r4.2.1 r4.2.2 x1).bind fun r5 =>
    let j10 : (Int) → (Int) → (List (Int × Int × Int)) → (List (Int)) → (Int) → (List (Int × Int × Int)) → (List (Int)) → (Bool) → (Int) → (List (Int × Int × Int)) → (List (Int)) → (Int) → (List (Int × Int × Int)) → (List (Int)) → (Bool) → Option (Bool) := fun j10_x1 j10_x2_0 j10_x2_1 j10_x2_2 j10_x6_0 j10_x6_1 j10_x6_2 j10_x7 j10_x8_0 j10_x8_1 j10_x8_2 j10_x9_0 j10_x9_1 j10_x9_2 j10_x10 =>
      (laws_toMaze.F n j10_x2_0 j10_x2_1 j10_x2_2).bind fun r7 =>
      (laws_eqMaze.F n j10_x8_0 j10_x8_1 j10_x8_2 r7.1 r7.2.1 r7.2.2).bind fun r8 =>
      if (!r8) = true then
        some false
      else
        (laws_markMaze.F n j10_x8_0 j10_x8_1 j10_x8_2 (1 : Int)).bind fun r9 =>
        let j16 : (Int) → (Int) → (List (Int × Int × Int)) → (List (Int)) → (Int) → (List (Int × Int × Int)) → (List (Int)) → (Bool) → (Int) → (List (Int × Int × Int)) → (List (Int)) → Option (Bool) := fun j16_x1 j16_x2_0 j16_x2_1 j16_x2_2 j16_x6_0 j16_x6_1 j16_x6_2 j16_x7 j16_x9_0 j16_x9_1 j16_x9_2 =>
          (laws_markMaze.F n j16_x9_0 j16_x9_1 j16_x9_2 (1 : Int)).bind fun r11 =>
          (laws_heldMaze.F n j16_x9_0 r11.2.2.1 r11.2.2.2 (1 : Int)).bind fun r12 =>
          if (decide (r12 < (0 : Int))) = true then
            some false
          else
            if (!decide (r12 = r11.1)) = true then
              some false
            else
              (laws_toMaze.F n j16_x2_0 j16_x2_1 j16_x2_2).bind fun r13 =>
              (impl_BarColours.F n r13.1 r13.2.1 r13.2.2 j16_x1).bind fun r14 =>
              (laws_eqMaze.F n r14.1 r14.2.1 r14.2.2.1 j16_x6_0 j16_x6_1 j16_x6_2).bind fun r15 =>
              if (!r15) = true then
                some false
              else
                if (!(r14.2.2.2 == j16_x7)) = true then
                  some false
                else
                  (laws_heldMaze.F n j16_x9_0 r11.2.2.1 r11.2.2.2 (1 : Int)).bind fun r16 =>
                  if (decide (r16 < (0 : Int))) = true then
                    some false
                  else
                    if (!decide (r16 = r11.1)) = true then
                      some false
                    else
                      some true
        if (decide (r9.1 < (0 : Int))) = true then
          some false
        else
          (laws_eqMaze.F n j10_x9_0 j10_x9_1 j10_x9_2 j10_x6_0 j10_x6_1 j10_x6_2).bind fun r10 =>
          if (!r10) = true then
            some false
          else
            if (!(j10_x10 == j10_x7)) = true then
              some false
            else
              j16 j10_x1 j10_x2_0 j10_x2_1 j10_x2_2 j10_x6_0 j10_x6_1 j10_x6_2 j10_x7 j10_x9_0 j10_x9_1 j10_x9_2
    (laws_eqMaze.F n r5.1 r5.2.1 r5.2.2.1 r3.1 r3.2.1 r3.2.2.1).bind fun r6 =>
    if (!r6) = true then
      some false
    else
      if (!(r5.2.2.2 == r3.2.2.2)) = true then
        some false
      else
        j10 x1 x0_0 x0_1 x0_2 r3.1 r3.2.1 r3.2.2.1 r3.2.2.2 r4.1 r4.2.1 r4.2.2 r5.1 r5.2.1 r5.2.2.1 r5.2.2.2

/-- loop.example/g01158/spec.FreeColours -/
def spec_FreeColours.l0 (n : Nat) (K : Int → Int → (List (Int × Int × Int)) → (List (Int)) → Int → (List (Int × Int × Int)) → (List (Int)) → Int → (List (Int × Int × Int)) → (List (Int)) → Option (Int × (List (Int × Int × Int)) × (List (Int)) × Bool)) : Nat → Int → Int → (List (Int × Int × Int)) → (List (Int)) → Int → (List (Int × Int × Int)) → (List (Int)) → Int → (List (Int × Int × Int)) → (List (Int)) → Int → Option (Int × (List (Int × Int × Int)) × (List (Int)) × Bool)
  | 0, _, _, _, _, _, _, _, _, _, _, _ => none
  | k + 1, x1, x2_0, x2_1, x2_2, x4_0, x4_1, x4_2, x6_0, x6_1, x6_2, x7 =>
    if (decide (x7 < (x2_1.length : Int))) = true then
      if 0 ≤ x7 ∧ x7 < (x2_1.length : Int) then (if 0 ≤ x7 ∧ x7 < (x2_1.length : Int) then (if 0 ≤ x7 ∧ x7 < (x2_1.length : Int) then ((spec_l2Put.F n x6_1 ((x2_1.getD x7.toNat ((0 : Int), (0 : Int), (0 : Int))).1) ((x2_1.getD x7.toNat ((0 : Int), (0 : Int), (0 : Int))).2.1) (bitClr .i64 ((x2_1.getD x7.toNat ((0 : Int), (0 : Int), (0 : Int))).2.2) x1)).bind fun r3 =>
      spec_FreeColours.l0 n K k x1 x2_0 x2_1 x2_2 x4_0 x4_1 x4_2 x6_0 r3 x6_2 (IntKind.wrap .i64 (x7 + (1 : Int)))) else none) else none) else none
    else
      K x1 x2_0 x2_1 x2_2 x4_0 x4_1 x4_2 x6_0 x6_1 x6_2
def spec_FreeColours.l2 (n : Nat) (K : Int → (List (Int × Int × Int)) → (List (Int)) → Int → (List (Int × Int × Int)) → (List (Int)) → Option (Int × (List (Int × Int × Int)) × (List (Int)) × Bool)) : Nat → Int → Int → (List (Int × Int × Int)) → (List (Int)) → Int → (List (Int × Int × Int)) → (List (Int)) → Int → (List (Int × Int × Int)) → (List (Int)) → Int → Option (Int × (List (Int × Int × Int)) × (List (Int)) × Bool)
  | 0, _, _, _, _, _, _, _, _, _, _, _ => none
  | k + 1, x1, x2_0, x2_1, x2_2, x4_0, x4_1, x4_2, x6_0, x6_1, x6_2, x8 =>
    if (decide (x8 < x2_0)) = true then
      if 0 ≤ x8 ∧ x8 < (x2_2.length : Int) then (if x6_2.length + ([bitClr .i64 (x2_2.getD x8.toNat (0 : Int)) x1] : List (Int)).length ≤ 4398046511104 then (spec_FreeColours.l2 n K k x1 x2_0 x2_1 x2_2 x4_0 x4_1 x4_2 x6_0 x6_1 (x6_2 ++ ([bitClr .i64 (x2_2.getD x8.toNat (0 : Int)) x1] : List (Int))) (IntKind.wrap .i64 (x8 + (1 : Int)))) else none) else none
    else
      K x4_0 x4_1 x4_2 x6_0 x6_1 x6_2
def spec_FreeColours.F (n : Nat) (x0_0 : Int) (x0_1 : List (Int × Int × Int)) (x0_2 : List (Int)) (x1 : Int) : Option (Int × (List (Int × Int × Int)) × (List (Int)) × Bool) :=
  let j3 : (Int) → (Int) → (List (Int × Int × Int)) → (List (Int)) → (Int) → (List (Int × Int × Int)) → (List (Int)) → Option (Int × (List (Int × Int × Int)) × (List (Int)) × Bool) := fun j3_x1 j3_x2_0 j3_x2_1 j3_x2_2 j3_x4_0 j3_x4_1 j3_x4_2 =>
    spec_FreeColours.l0 n (fun y4 y5 y6 y7 y8 y9 y10 y11 y12 y13 =>
      spec_FreeColours.l2 n (fun y14 y15 y16 y17 y18 y19 =>
        some (y17, y18, y19, true)) n y4 y5 y6 y7 y8 y9 y10 y11 y12 y13 (0 : Int)) n j3_x1 j3_x2_0 j3_x2_1 j3_x2_2 j3_x4_0 j3_x4_1 j3_x4_2 j3_x2_0 ([] : List (Int × Int × Int)) ([] : List (Int)) (0 : Int)
  (spec_l2Maze.F n x0_0 x0_1 x0_2).bind fun r1 =>
  if (!r1) = true then
    some ((0 : Int), ([] : List (Int × Int × Int)), ([] : List (Int)), false)
  else
    (spec_l2Set.F n x1).bind fun r2 =>
    if (!r2) = true then
      some ((0 : Int), ([] : List (Int × Int × Int)), ([] : List (Int)), false)
    else
      j3 x1 x0_0 x0_1 x0_2 (0 : Int) ([] : List (Int × Int × Int)) ([] : List (Int))

/-- loop.example/g01158/impl.FreeColours$1 -/
def impl_FreeColours_1_c0.F (n : Nat) (x0 : Int) (x1 : Int) : Option (Int) :=
  some (bitClr .i64 x0 x1)

/-- loop.example/g01158/impl.changed -/
def impl_changed_cFreeColours_1.l0 (n : Nat) (K : Int → Int → (List (Int × Int × Int)) → (List (Int)) → Int → (List (Int × Int × Int)) → (List (Int)) → Option (Int × (List (Int × Int × Int)) × (List (Int)))) : Nat → Int → Int → (List (Int × Int × Int)) → (List (Int)) → Int → (List (Int × Int × Int)) → (List (Int)) → Int → Int → Option (Int × (List (Int × Int × Int)) × (List (Int)))
  | 0, _, _, _, _, _, _, _, _, _ => none
  | k + 1, x1, x4_0, x4_1, x4_2, x5_0, x5_1, x5_2, x13, x14 =>
    if (decide (x14 < x13)) = true then
      if 0 ≤ x14 ∧ x14 < (x5_1.length : Int) then ((impl_FreeColours_1_c0.F n ((x5_1.getD x14.toNat ((0 : Int), (0 : Int), (0 : Int))).2.2) x1).bind fun r2 =>
      if 0 ≤ x14 ∧ x14 < (x5_1.length : Int) then (impl_changed_cFreeColours_1.l0 n K k x1 x4_0 x4_1 x4_2 x5_0 (x5_1.set x14.toNat ((x5_1.getD x14.toNat ((0 : Int), (0 : Int), (0 : Int))).1, (x5_1.getD x14.toNat ((0 : Int), (0 : Int), (0 : Int))).2.1, r2)) x5_2 x13 (IntKind.wrap .i64 (x14 + (1 : Int)))) else none) else none
    else
      K x1 x4_0 x4_1 x4_2 x5_0 x5_1 x5_2
def impl_changed_cFreeColours_1.l2 (n : Nat) (K : Int → (List (Int × Int × Int)) → (List (Int)) → Int → (List (Int × Int × Int)) → (List (Int)) → Option (Int × (List (Int × Int × Int)) × (List (Int)))) : Nat → Int → Int → (List (Int × Int × Int)) → (List (Int)) → Int → (List (Int × Int × Int)) → (List (Int)) → Int → Int → Option (Int × (List (Int × Int × Int)) × (List (Int)))
  | 0, _, _, _, _, _, _, _, _, _ => none
  | k + 1, x1, x4_0, x4_1, x4_2, x5_0, x5_1, x5_2, x33, x34 =>
    if (decide (x34 < x33)) = true then
      if 0 ≤ x34 ∧ x34 < (x5_2.length : Int) then ((impl_FreeColours_1_c0.F n (x5_2.getD x34.toNat (0 : Int)) x1).bind fun r10 =>
      if 0 ≤ x34 ∧ x34 < (x5_2.length : Int) then (impl_changed_cFreeColours_1.l2 n K k x1 x4_0 x4_1 x4_2 x5_0 x5_1 (x5_2.set x34.toNat r10) x33 (IntKind.wrap .i64 (x34 + (1 : Int)))) else none) else none
    else
      K x4_0 x4_1 x4_2 x5_0 x5_1 x5_2
def impl_changed_cFreeColours_1.F (n : Nat) (x0_0 : Int) (x0_1 : List (Int × Int × Int)) (x0_2 : List (Int)) (x1 : Int) : Option (Int × (List (Int × Int × Int)) × (List (Int))) :=
  (impl_own.F n x0_0 x0_1 x0_2).bind fun r1 =>
  impl_changed_cFreeColours_1.l0 n (fun y3 y4 y5 y6 y7 y8 y9 =>
    impl_changed_cFreeColours_1.l2 n (fun y11 y12 y13 y14 y15 y16 =>
      (impl_tidy.F n y14 y15 y16).bind fun r17 =>
      some (r17.1, r17.2.1, r17.2.2)) n y3 y4 y5 y6 y7 y8 y9 (y9.length : Int) (0 : Int)) n x1 (0 : Int) ([] : List (Int × Int × Int)) ([] : List (Int)) r1.1 r1.2.1 r1.2.2 (r1.2.1.length : Int) (0 : Int)

/-- loop.example/g01158/impl.FreeColours -/
def impl_FreeColours.F (n : Nat) (x0_0 : Int) (x0_1 : List (Int × Int × Int)) (x0_2 : List (Int)) (x1 : Int) : Option (Int × (List (Int × Int × Int)) × (List (Int)) × Bool) :=
  (impl_IsMaze.F n x0_0 x0_1 x0_2).bind fun r1 =>
  if (!r1) = true then
    some ((0 : Int), ([] : List (Int × Int × Int)), ([] : List (Int)), false)
  else
    (impl_isSet.F n x1).bind fun r2 =>
    if (!r2) = true then
      some ((0 : Int), ([] : List (Int × Int × Int)), ([] : List (Int)), false)
    else
      (impl_changed_cFreeColours_1.F n x0_0 x0_1 x0_2 x1).bind fun r3 =>
      some (r3.1, r3.2.1, r3.2.2, true)

/-- loop.example/g01158/laws.FnExactFreeColours -/
def laws_FnExactFreeColours.F (n : Nat) (x0_0 : Int) (x0_1 : List (Int × Int × Int)) (x0_2 : List (Int)) (x1 : Int) : Option (Bool) :=
  (laws_szMaze.F n x0_0 x0_1 x0_2 (1048576 : Int)).bind fun r1 =>
  if (decide (r1 < (0 : Int))) = true then
    some true
  else
    (laws_toMaze.F n x0_0 x0_1 x0_2).bind fun r2 =>
    (spec_FreeColours.F n r2.1 r2.2.1 r2.2.2 x1).bind fun r3 =>
    (laws_toMaze.F n x0_0 x0_1 x0_2).bind fun r4 =>
    (impl_FreeColours.F n r4.1 r4.2.1 r4.2.2 x1).bind fun r5 =>
    let j10 : (Int) → (Int) → (List (Int × Int × Int)) → (List (Int)) → (Int) → (List (Int × Int × Int)) → (List (Int)) → (Bool) → (Int) → (List (Int × Int × Int)) → (List (Int)) → (Int) → (List (Int × Int × Int)) → (List (Int)) → (Bool) → Option (Bool) := fun j10_x1 j10_x2_0 j10_x2_1 j10_x2_2 j10_x6_0 j10_x6_1 j10_x6_2 j10_x7 j10_x8_0 j10_x8_1 j10_x8_2 j10_x9_0 j10_x9_1 j10_x9_2 j10_x10 =>
      (laws_toMaze.F n j10_x2_0 j10_x2_1 j10_x2_2).bind fun r7 =>
      (laws_eqMaze.F n j10_x8_0 j10_x8_1 j10_x8_2 r7.1 r7.2.1 r7.2.2).bind fun r8 =>
      if (!r8) = true then
        some false
      else
        (laws_markMaze.F n j10_x8_0 j10_x8_1 j10_x8_2 (1 : Int)).bind fun r9 =>
        let j16 : (Int) → (Int) → (List (Int × Int × Int)) → (List (Int)) → (Int) → (List (Int × Int × Int)) → (List (Int)) → (Bool) → (Int) → (List (Int × Int × Int)) → (List (Int)) → Option (Bool) := fun j16_x1 j16_x2_0 j16_x2_1 j16_x2_2 j16_x6_0 j16_x6_1 j16_x6_2 j16_x7 j16_x9_0 j16_x9_1 j16_x9_2 =>
          (laws_markMaze.F n j16_x9_0 j16_x9_1 j16_x9_2 (1 : Int)).bind fun r11 =>
          (laws_heldMaze.F n j16_x9_0 r11.2.2.1 r11.2.2.2 (1 : Int)).bind fun r12 =>
          if (decide (r12 < (0 : Int))) = true then
            some false
          else
            if (!decide (r12 = r11.1)) = true then
              some false
            else
              (laws_toMaze.F n j16_x2_0 j16_x2_1 j16_x2_2).bind fun r13 =>
              (impl_FreeColours.F n r13.1 r13.2.1 r13.2.2 j16_x1).bind fun r14 =>
              (laws_eqMaze.F n r14.1 r14.2.1 r14.2.2.1 j16_x6_0 j16_x6_1 j16_x6_2).bind fun r15 =>
              if (!r15) = true then
                some false
              else
                if (!(r14.2.2.2 == j16_x7)) = true then
                  some false
                else
                  (laws_heldMaze.F n j16_x9_0 r11.2.2.1 r11.2.2.2 (1 : Int)).bind fun r16 =>
                  if (decide (r16 < (0 : Int))) = true then
                    some false
                  else
                    if (!decide (r16 = r11.1)) = true then
                      some false
                    else
                      some true
        if (decide (r9.1 < (0 : Int))) = true then
          some false
        else
          (laws_eqMaze.F n j10_x9_0 j10_x9_1 j10_x9_2 j10_x6_0 j10_x6_1 j10_x6_2).bind fun r10 =>
          if (!r10) = true then
            some false
          else
            if (!(j10_x10 == j10_x7)) = true then
              some false
            else
              j16 j10_x1 j10_x2_0 j10_x2_1 j10_x2_2 j10_x6_0 j10_x6_1 j10_x6_2 j10_x7 j10_x9_0 j10_x9_1 j10_x9_2
    (laws_eqMaze.F n r5.1 r5.2.1 r5.2.2.1 r3.1 r3.2.1 r3.2.2.1).bind fun r6 =>
    if (!r6) = true then
      some false
    else
      if (!(r5.2.2.2 == r3.2.2.2)) = true then
        some false
      else
        j10 x1 x0_0 x0_1 x0_2 r3.1 r3.2.1 r3.2.2.1 r3.2.2.2 r4.1 r4.2.1 r4.2.2 r5.1 r5.2.1 r5.2.2.1 r5.2.2.2

/-- loop.example/g01158/spec.l2Node -/
def spec_l2Node.F (n : Nat) (x0_0 : Int) (x0_1 : List (Int × Int × Int)) (x0_2 : List (Int)) (x1 : Int) : Option (Bool) :=
  (spec_l2Maze.F n x0_0 x0_1 x0_2).bind fun r1 =>
  if r1 = true then
    (spec_l1In.F n x1 (0 : Int) (IntKind.wrap .i64 (x0_0 - (1 : Int)))).bind fun r2 =>
    some r2
  else
    some false

/-- loop.example/g01158/spec.l1Own -/
def spec_l1Own.F (n : Nat) (x0 : List (Int)) : Option ((List (Int))) :=
  if ([] : List (Int)).length + x0.length ≤ 4398046511104 then (some (([] : List (Int)) ++ x0)) else none

/-- loop.example/g01158/spec.l2Own -/
def spec_l2Own.F (n : Nat) (x0_0 : Int) (x0_1 : List (Int × Int × Int)) (x0_2 : List (Int)) : Option (Int × (List (Int × Int × Int)) × (List (Int))) :=
  if ([] : List (Int × Int × Int)).length + x0_1.length ≤ 4398046511104 then ((spec_l1Own.F n x0_2).bind fun r1 =>
  some (x0_0, ([] : List (Int × Int × Int)) ++ x0_1, r1)) else none

/-- loop.example/g01158/spec.l2Kept -/
def spec_l2Kept.F (n : Nat) (x0_0 : Int) (x0_1 : List (Int × Int × Int)) (x0_2 : List (Int)) : Option (Int × (List (Int × Int × Int)) × (List (Int)) × Bool) :=
  (spec_l2Maze.F n x0_0 x0_1 x0_2).bind fun r1 =>
  if (!r1) = true then
    some ((0 : Int), ([] : List (Int × Int × Int)), ([] : List (Int)), false)
  else
    some (x0_0, x0_1, x0_2, true)

/-- loop.example/g01158/spec.AddDoor -/
def spec_AddDoor.F (n : Nat) (x0_0 : Int) (x0_1 : List (Int × Int × Int)) (x0_2 : List (Int)) (x1 : Int) (x2 : Int) (x3 : Int) : Option (Int × (List (Int × Int × Int)) × (List (Int)) × Bool) :=
  (spec_l2Node.F n x0_0 x0_1 x0_2 x1).bind fun r1 =>
  if (!r1) = true then
    some ((0 : Int), ([] : List (Int × Int × Int)), ([] : List (Int)), false)
  else
    (spec_l2Node.F n x0_0 x0_1 x0_2 x2).bind fun r2 =>
    if (!r2) = true then
      some ((0 : Int), ([] : List (Int × Int × Int)), ([] : List (Int)), false)
    else
      if (decide (x1 = x2)) = true then
        some ((0 : Int), ([] : List (Int × Int × Int)), ([] : List (Int)), false)
      else
        (spec_l2Set.F n x3).bind fun r3 =>
        if (!r3) = true then
          some ((0 : Int), ([] : List (Int × Int × Int)), ([] : List (Int)), false)
        else
          (spec_l2Own.F n x0_0 x0_1 x0_2).bind fun r4 =>
          (spec_l2Put.F n r4.2.1 x1 x2 x3).bind fun r5 =>
          if (decide ((r5.length : Int) = (x0_1.length : Int))) = true then
            some ((0 : Int), ([] : List (Int × Int × Int)), ([] : List (Int)), false)
          else
            (spec_l2Kept.F n r4.1 r5 r4.2.2).bind fun r6 =>
            some (r6.1, r6.2.1, r6.2.2.1, r6.2.2.2)

/-- loop.example/g01158/impl.isNode$1 -/
def impl_isNode_1_c0.F (n : Nat) (x0 : Int) (x1_0 : Int) (x1_1 : List (Int × Int × Int)) (x1_2 : List (Int)) : Option (Bool) :=
  (impl_within.F n x0 (0 : Int) (IntKind.wrap .i64 (x1_0 - (1 : Int)))).bind fun r1 =>
  some (!r1)

/-- slices.IndexFunc[[]int,int] -/
def slices_IndexFunc_int_int_cisNode_1.l0 (n : Nat) (K : Unit → Option (Int)) : Nat → (List (Int)) → Int → (List (Int × Int × Int)) → (List (Int)) → Int → Int → Option (Int)
  | 0, _, _, _, _, _, _ => none
  | k + 1, x0, x1_0, x1_1, x1_2, x7, x8 =>
    if (decide (x8 < x7)) = true then
      if 0 ≤ x8 ∧ x8 < (x0.length : Int) then ((impl_isNode_1_c0.F n (x0.getD x8.toNat (0 : Int)) x1_0 x1_1 x1_2).bind fun r1 =>
      if r1 = true then
        some x8
      else
        slices_IndexFunc_int_int_cisNode_1.l0 n K k x0 x1_0 x1_1 x1_2 x7 (IntKind.wrap .i64 (x8 + (1 : Int)))) else none
    else
      K ()
def slices_IndexFunc_int_int_cisNode_1.F (n : Nat) (x0 : List (Int)) (x1_0 : Int) (x1_1 : List (Int × Int × Int)) (x1_2 : List (Int)) : Option (Int) :=
  slices_IndexFunc_int_int_cisNode_1.l0 n (fun _ =>
    some (-1 : Int)) n x0 x1_0 x1_1 x1_2 (x0.length : Int) (0 : Int)

/-- slices.ContainsFunc[[]int,int] -/
def slices_ContainsFunc_int_int_cisNode_1.F (n : Nat) (x0 : List (Int)) (x1_0 : Int) (x1_1 : List (Int × Int × Int)) (x1_2 : List (Int)) : Option (Bool) :=
  (slices_IndexFunc_int_int_cisNode_1.F n x0 x1_0 x1_1 x1_2).bind fun r1 =>
  some (decide (r1 ≥ (0 : Int)))

/-- loop.example/g01158/impl.isNode -/
def impl_isNode.F (n : Nat) (x0_0 : Int) (x0_1 : List (Int × Int × Int)) (x0_2 : List (Int)) (x1 : List (Int)) : Option (Bool) :=
  (impl_IsMaze.F n x0_0 x0_1 x0_2).bind fun r1 =>
  if r1 = true then
    (slices_ContainsFunc_int_int_cisNode_1.F n x1 x0_0 x0_1 x0_2).bind fun r2 =>
    some (!r2)
  else
    some false

/-- slices.Index[[][3]int,[3]int] -/
def slices_Index_3_int_3_int.l0 (n : Nat) (K : Unit → Option (Int)) : Nat → (List (Int × Int × Int)) → Int → Int → Int → Int → Int → Option (Int)
  | 0, _, _, _, _, _, _ => none
  | k + 1, x0, x3_0, x3_1, x3_2, x7, x8 =>
    if (decide (x8 < x7)) = true then
      if 0 ≤ x8 ∧ x8 < (x0.length : Int) then (if (decide (x3_0 = ((x0.getD x8.toNat ((0 : Int), (0 : Int), (0 : Int))).1)) && (decide (x3_1 = ((x0.getD x8.toNat ((0 : Int), (0 : Int), (0 : Int))).2.1)) && (decide (x3_2 = ((x0.getD x8.toNat ((0 : Int), (0 : Int), (0 : Int))).2.2)) && true))) = true then
        some x8
      else
        slices_Index_3_int_3_int.l0 n K k x0 x3_0 x3_1 x3_2 x7 (IntKind.wrap .i64 (x8 + (1 : Int)))) else none
    else
      K ()
def slices_Index_3_int_3_int.F (n : Nat) (x0 : List (Int × Int × Int)) (x1_0 : Int) (x1_1 : Int) (x1_2 : Int) : Option (Int) :=
  slices_Index_3_int_3_int.l0 n (fun _ =>
    some (-1 : Int)) n x0 x1_0 x1_1 x1_2 (x0.length : Int) (0 : Int)

/-- slices.Contains[[][3]int,[3]int] -/
def slices_Contains_3_int_3_int.F (n : Nat) (x0 : List (Int × Int × Int)) (x1_0 : Int) (x1_1 : Int) (x1_2 : Int) : Option (Bool) :=
  (slices_Index_3_int_3_int.F n x0 x1_0 x1_1 x1_2).bind fun r1 =>
  some (decide (r1 ≥ (0 : Int)))

/-- loop.example/g01158/impl.AddDoor -/
def impl_AddDoor.F (n : Nat) (x0_0 : Int) (x0_1 : List (Int × Int × Int)) (x0_2 : List (Int)) (x1 : Int) (x2 : Int) (x3 : Int) : Option (Int × (List (Int × Int × Int)) × (List (Int)) × Bool) :=
  (impl_isNode.F n x0_0 x0_1 x0_2 ([x1, x2] : List (Int))).bind fun r1 =>
  if (!r1) = true then
    some ((0 : Int), ([] : List (Int × Int × Int)), ([] : List (Int)), false)
  else
    if (decide (x1 = x2)) = true then
      some ((0 : Int), ([] : List (Int × Int × Int)), ([] : List (Int)), false)
    else
      (impl_isSet.F n x3).bind fun r2 =>
      if (!r2) = true then
        some ((0 : Int), ([] : List (Int × Int × Int)), ([] : List (Int)), false)
      else
        (slices_Contains_3_int_3_int.F n x0_1 (if x2 < x1 then x2 else x1) (if x2 > x1 then x2 else x1) x3).bind fun r3 =>
        if r3 = true then
          some ((0 : Int), ([] : List (Int × Int × Int)), ([] : List (Int)), false)
        else
          if (decide ((x0_1.length : Int) = (30 : Int))) = true then
            some ((0 : Int), ([] : List (Int × Int × Int)), ([] : List (Int)), false)
          else
            (impl_own.F n x0_0 x0_1 x0_2).bind fun r4 =>
            if r4.2.1.length + ([(if x2 < x1 then x2 else x1, if x2 > x1 then x2 else x1, x3)] : List (Int × Int × Int)).length ≤ 4398046511104 then ((impl_tidy.F n r4.1 (r4.2.1 ++ ([(if x2 < x1 then x2 else x1, if x2 > x1 then x2 else x1, x3)] : List (Int × Int × Int))) r4.2.2).bind fun r5 =>
            some (r5.1, r5.2.1, r5.2.2, true)) else none

/-- loop.example/g01158/laws.FnExactAddDoor -/
def laws_FnExactAddDoor.F (n : Nat) (x0_0 : Int) (x0_1 : List (Int × Int × Int)) (x0_2 : List (Int)) (x1 : Int) (x2 : Int) (x3 : Int) : Option (Bool) :=
  (laws_szMaze.F n x0_0 x0_1 x0_2 (1048576 : Int)).bind fun r1 =>
  if (decide (r1 < (0 : Int))) = true then
    some true
  else
    (laws_toMaze.F n x0_0 x0_1 x0_2).bind fun r2 =>
    (spec_AddDoor.F n r2.1 r2.2.1 r2.2.2 x1 x2 x3).bind fun r3 =>
    (laws_toMaze.F n x0_0 x0_1 x0_2).bind fun r4 =>
    (impl_AddDoor.F n r4.1 r4.2.1 r4.2.2 x1 x2 x3).bind fun r5 =>
    let j10 : (Int) → (Int) → (Int) → (Int) → (List (Int × Int × Int)) → (List (Int)) → (Int) → (List (Int × Int × Int)) → (List (Int)) → (Bool) → (Int) → (List (Int × Int × Int)) → (List (Int)) → (Int) → (List (Int × Int × Int)) → (List (Int)) → (Bool) → Option (Bool) := fun j10_x1 j10_x2 j10_x3 j10_x4_0 j10_x4_1 j10_x4_2 j10_x10_0 j10_x10_1 j10_x10_2 j10_x11 j10_x12_0 j10_x12_1 j10_x12_2 j10_x13_0 j10_x13_1 j10_x13_2 j10_x14 =>
      (laws_toMaze.F n j10_x4_0 j10_x4_1 j10_x4_2).bind fun r7 =>
      (laws_eqMaze.F n j10_x12_0 j10_x12_1 j10_x12_2 r7.1 r7.2.1 r7.2.2).bind fun r8 =>
      if (!r8) = true then
        some false
      else
        (laws_markMaze.F n j10_x12_0 j10_x12_1 j10_x12_2 (1 : Int)).bind fun r9 =>
        let j16 : (Int) → (Int) → (Int) → (Int) → (List (Int × Int × Int)) → (List (Int)) → (Int) → (List (Int × Int × Int)) → (List (Int)) → (Bool) → (Int) → (List (Int × Int × Int)) → (List (Int)) → Option (Bool) := fun j16_x1 j16_x2 j16_x3 j16_x4_0 j16_x4_1 j16_x4_2 j16_x10_0 j16_x10_1 j16_x10_2 j16_x11 j16_x13_0 j16_x13_1 j16_x13_2 =>
          (laws_markMaze.F n j16_x13_0 j16_x13_1 j16_x13_2 (1 : Int)).bind fun r11 =>
          (laws_heldMaze.F n j16_x13_0 r11.2.2.1 r11.2.2.2 (1 : Int)).bind fun r12 =>
          if (decide (r12 < (0 : Int))) = true then
            some false
          else
            if (!decide (r12 = r11.1)) = true then
              some false
            else
              (laws_toMaze.F n j16_x4_0 j16_x4_1 j16_x4_2).bind fun r13 =>
              (impl_AddDoor.F n r13.1 r13.2.1 r13.2.2 j16_x1 j16_x2 j16_x3).bind fun r14 =>
              (laws_eqMaze.F n r14.1 r14.2.1 r14.2.2.1 j16_x10_0 j16_x10_1 j16_x10_2).bind fun r15 =>
              if (!r15) = true then
                some false
              else
                if (!(r14.2.2.2 == j16_x11)) = true then
                  some false
                else
                  (laws_heldMaze.F n j16_x13_0 r11.2.2.1 r11.2.2.2 (1 : Int)).bind fun r16 =>
                  if (decide (r16 < (0 : Int))) = true then
                    some false
                  else
                    if (!decide (r16 = r11.1)) = true then
                      some false
                    else
                      some true
        if (decide (r9.1 < (0 : Int))) = true then
          some false
        else
          (laws_eqMaze.F n j10_x13_0 j10_x13_1 j10_x13_2 j10_x10_0 j10_x10_1 j10_x10_2).bind fun r10 =>
          if (!r10) = true then
            some false
          else
            if (!(j10_x14 == j10_x11)) = true then
              some false
            else
              j16 j10_x1 j10_x2 j10_x3 j10_x4_0 j10_x4_1 j10_x4_2 j10_x10_0 j10_x10_1 j10_x10_2 j10_x11 j10_x13_0 j10_x13_1 j10_x13_2
    (laws_eqMaze.F n r5.1 r5.2.1 r5.2.2.1 r3.1 r3.2.1 r3.2.2.1).bind fun r6 =>
    if (!r6) = true then
      some false
    else
      if (!(r5.2.2.2 == r3.2.2.2)) = true then
        some false
      else
        j10 x1 x2 x3 x0_0 x0_1 x0_2 r3.1 r3.2.1 r3.2.2.1 r3.2.2.2 r4.1 r4.2.1 r4.2.2 r5.1 r5.2.1 r5.2.2.1 r5.2.2.2

/-- loop.example/g01158/spec.l2Numbered -/
def spec_l2Numbered.l0 (n : Nat) (K : (List (Int)) → Int → (List (Int × Int × Int)) → (List (Int)) → Int → (List (Int × Int × Int)) → (List (Int)) → Int → (List (Int × Int × Int)) → (List (Int)) → Option (Int × (List (Int × Int × Int)) × (List (Int)))) : Nat → (List (Int)) → Int → (List (Int × Int × Int)) → (List (Int)) → Int → (List (Int × Int × Int)) → (List (Int)) → Int → (List (Int × Int × Int)) → (List (Int)) → Int → Option (Int × (List (Int × Int × Int)) × (List (Int)))
  | 0, _, _, _, _, _, _, _, _, _, _, _ => none
  | k + 1, x1, x2_0, x2_1, x2_2, x4_0, x4_1, x4_2, x5_0, x5_1, x5_2, x6 =>
    if (decide (x6 < (x2_1.length : Int))) = true then
      if 0 ≤ x6 ∧ x6 < (x2_1.length : Int) then (if 0 ≤ ((x2_1.getD x6.toNat ((0 : Int), (0 : Int), (0 : Int))).1) ∧ ((x2_1.getD x6.toNat ((0 : Int), (0 : Int), (0 : Int))).1) < (x1.length : Int) then (if 0 ≤ x6 ∧ x6 < (x2_1.length : Int) then (if 0 ≤ ((x2_1.getD x6.toNat ((0 : Int), (0 : Int), (0 : Int))).2.1) ∧ ((x2_1.getD x6.toNat ((0 : Int), (0 : Int), (0 : Int))).2.1) < (x1.length : Int) then (if 0 ≤ x6 ∧ x6 < (x2_1.length : Int) then ((spec_l2Put.F n x5_1 (x1.getD (((x2_1.getD x6.toNat ((0 : Int), (0 : Int), (0 : Int))).1).toNat) (0 : Int)) (x1.getD (((x2_1.getD x6.toNat ((0 : Int), (0 : Int), (0 : Int))).2.1).toNat) (0 : Int)) ((x2_1.getD x6.toNat ((0 : Int), (0 : Int), (0 : Int))).2.2)).bind fun r1 =>
      spec_l2Numbered.l0 n K k x1 x2_0 x2_1 x2_2 x4_0 x4_1 x4_2 x5_0 r1 x5_2 (IntKind.wrap .i64 (x6 + (1 : Int)))) else none) else none) else none) else none) else none
    else
      K x1 x2_0 x2_1 x2_2 x4_0 x4_1 x4_2 x5_0 x5_1 x5_2
def spec_l2Numbered.l2 (n : Nat) (K : Int → (List (Int × Int × Int)) → (List (Int)) → Int → (List (Int × Int × Int)) → (List (Int)) → Option (Int × (List (Int × Int × Int)) × (List (Int)))) : Nat → (List (Int)) → Int → (List (Int × Int × Int)) → (List (Int)) → Int → (List (Int × Int × Int)) → (List (Int)) → Int → (List (Int × Int × Int)) → (List (Int)) → Int → Option (Int × (List (Int × Int × Int)) × (List (Int)))
  | 0, _, _, _, _, _, _, _, _, _, _, _ => none
  | k + 1, x1, x2_0, x2_1, x2_2, x4_0, x4_1, x4_2, x5_0, x5_1, x5_2, x7 =>
    if (decide (x7 < x2_0)) = true then
      if 0 ≤ x7 ∧ x7 < (x1.length : Int) then (if 0 ≤ x7 ∧ x7 < (x2_2.length : Int) then (if 0 ≤ (x1.getD x7.toNat (0 : Int)) ∧ (x1.getD x7.toNat (0 : Int)) < (x5_2.length : Int) then (spec_l2Numbered.l2 n K k x1 x2_0 x2_1 x2_2 x4_0 x4_1 x4_2 x5_0 x5_1 (x5_2.set ((x1.getD x7.toNat (0 : Int)).toNat) (x2_2.getD x7.toNat (0 : Int))) (IntKind.wrap .i64 (x7 + (1 : Int)))) else none) else none) else none
    else
      K x4_0 x4_1 x4_2 x5_0 x5_1 x5_2
def spec_l2Numbered.F (n : Nat) (x0_0 : Int) (x0_1 : List (Int × Int × Int)) (x0_2 : List (Int)) (x1 : List (Int)) : Option (Int × (List (Int × Int × Int)) × (List (Int))) :=
  if 0 ≤ x0_0 ∧ x0_0 ≤ x0_0 ∧ x0_0 ≤ 4398046511104 then (spec_l2Numbered.l0 n (fun y2 y3 y4 y5 y6 y7 y8 y9 y10 y11 =>
    spec_l2Numbered.l2 n (fun y12 y13 y14 y15 y16 y17 =>
      some (y15, y16, y17)) n y2 y3 y4 y5 y6 y7 y8 y9 y10 y11 (0 : Int)) n x1 x0_0 x0_1 x0_2 (0 : Int) ([] : List (Int × Int × Int)) ([] : List (Int)) x0_0 ([] : List (Int × Int × Int)) (List.replicate x0_0.toNat (0 : Int)) (0 : Int)) else none

/-- loop.example/g01158/spec.MirrorMaze -/
def spec_MirrorMaze.l0 (n : Nat) (K : Int → (List (Int × Int × Int)) → (List (Int)) → Int → (List (Int × Int × Int)) → (List (Int)) → (List (Int)) → Option (Int × (List (Int × Int × Int)) × (List (Int)) × Bool)) : Nat → Int → (List (Int × Int × Int)) → (List (Int)) → Int → (List (Int × Int × Int)) → (List (Int)) → (List (Int)) → Int → Option (Int × (List (Int × Int × Int)) × (List (Int)) × Bool)
  | 0, _, _, _, _, _, _, _, _ => none
  | k + 1, x1_0, x1_1, x1_2, x2_0, x2_1, x2_2, x4, x5 =>
    if (decide (x5 ≥ (0 : Int))) = true then
      if x4.length + ([x5] : List (Int)).length ≤ 4398046511104 then (spec_MirrorMaze.l0 n K k x1_0 x1_1 x1_2 x2_0 x2_1 x2_2 (x4 ++ ([x5] : List (Int))) (IntKind.wrap .i64 (x5 - (1 : Int)))) else none
    else
      K x1_0 x1_1 x1_2 x2_0 x2_1 x2_2 x4
def spec_MirrorMaze.F (n : Nat) (x0_0 : Int) (x0_1 : List (Int × Int × Int)) (x0_2 : List (Int)) : Option (Int × (List (Int × Int × Int)) × (List (Int)) × Bool) :=
  (spec_l2Maze.F n x0_0 x0_1 x0_2).bind fun r1 =>
  if (!r1) = true then
    some ((0 : Int), ([] : List (Int × Int × Int)), ([] : List (Int)), false)
  else
    spec_MirrorMaze.l0 n (fun y2 y3 y4 y5 y6 y7 y8 =>
      (spec_l2Numbered.F n y2 y3 y4 y8).bind fun r9 =>
      some (r9.1, r9.2.1, r9.2.2, true)) n x0_0 x0_1 x0_2 (0 : Int) ([] : List (Int × Int × Int)) ([] : List (Int)) ([] : List (Int)) (IntKind.wrap .i64 (x0_0 - (1 : Int)))

/-- slices.Reverse[[]int,int] -/
def slices_Reverse_int_int.l0 (n : Nat) (K : (List (Int)) → Option ((List (Int)))) : Nat → (List (Int)) → Int → Int → Option ((List (Int)))
  | 0, _, _, _ => none
  | k + 1, x0, x2, x3 =>
    if (decide (x2 < x3)) = true then
      if 0 ≤ x3 ∧ x3 < (x0.length : Int) then (if 0 ≤ x2 ∧ x2 < (x0.length : Int) then (if 0 ≤ x2 ∧ x2 < (x0.length : Int) then (if 0 ≤ x3 ∧ x3 < ((x0.set x2.toNat (x0.getD x3.toNat (0 : Int))).length : Int) then (slices_Reverse_int_int.l0 n K k ((x0.set x2.toNat (x0.getD x3.toNat (0 : Int))).set x3.toNat (x0.getD x2.toNat (0 : Int))) (IntKind.wrap .i64 (x2 + (1 : Int))) (IntKind.wrap .i64 (x3 - (1 : Int)))) else none) else none) else none) else none
    else
      K x0
def slices_Reverse_int_int.F (n : Nat) (x0 : List (Int)) : Option ((List (Int))) :=
  slices_Reverse_int_int.l0 n (fun y1 =>
    some y1) n x0 (0 : Int) (IntKind.wrap .i64 ((x0.length : Int) - (1 : Int)))

/-- loop.example/g01158/impl.numbered -/
def impl_numbered.l0 (n : Nat) (K : (List (Int)) → Int → (List (Int × Int × Int)) → (List (Int)) → Int → (List (Int × Int × Int)) → (List (Int)) → Int → (List (Int × Int × Int)) → (List (Int)) → Option (Int × (List (Int × Int × Int)) × (List (Int)))) : Nat → (List (Int)) → Int → (List (Int × Int × Int)) → (List (Int)) → Int → (List (Int × Int × Int)) → (List (Int)) → Int → (List (Int × Int × Int)) → (List (Int)) → Int → Int → Option (Int × (List (Int × Int × Int)) × (List (Int)))
  | 0, _, _, _, _, _, _, _, _, _, _, _, _ => none
  | k + 1, x1, x2_0, x2_1, x2_2, x4_0, x4_1, x4_2, x5_0, x5_1, x5_2, x14, x15 =>
    if (decide (x15 < x14)) = true then
      if 0 ≤ x15 ∧ x15 < (x2_1.length : Int) then (if 0 ≤ ((x2_1.getD x15.toNat ((0 : Int), (0 : Int), (0 : Int))).1) ∧ ((x2_1.getD x15.toNat ((0 : Int), (0 : Int), (0 : Int))).1) < (x1.length : Int) then (if 0 ≤ ((x2_1.getD x15.toNat ((0 : Int), (0 : Int), (0 : Int))).2.1) ∧ ((x2_1.getD x15.toNat ((0 : Int), (0 : Int), (0 : Int))).2.1) < (x1.length : Int) then (if 0 ≤ x15 ∧ x15 < (x5_1.length : Int) then (impl_numbered.l0 n K k x1 x2_0 x2_1 x2_2 x4_0 x4_1 x4_2 x5_0 (x5_1.set x15.toNat (x1.getD (((x2_1.getD x15.toNat ((0 : Int), (0 : Int), (0 : Int))).1).toNat) (0 : Int), x1.getD (((x2_1.getD x15.toNat ((0 : Int), (0 : Int), (0 : Int))).2.1).toNat) (0 : Int), (x2_1.getD x15.toNat ((0 : Int), (0 : Int), (0 : Int))).2.2)) x5_2 x14 (IntKind.wrap .i64 (x15 + (1 : Int)))) else none) else none) else none) else none
    else
      K x1 x2_0 x2_1 x2_2 x4_0 x4_1 x4_2 x5_0 x5_1 x5_2
def impl_numbered.l2 (n : Nat) (K : Int → (List (Int × Int × Int)) → (List (Int)) → Int → (List (Int × Int × Int)) → (List (Int)) → Option (Int × (List (Int × Int × Int)) × (List (Int)))) : Nat → (List (Int)) → Int → (List (Int × Int × Int)) → (List (Int)) → Int → (List (Int × Int × Int)) → (List (Int)) → (List (Int)) → Int → Int → Option (Int × (List (Int × Int × Int)) × (List (Int)))
  | 0, _, _, _, _, _, _, _, _, _, _ => none
  | k + 1, x1, x4_0, x4_1, x4_2, x5_0, x5_1, x5_2, x39, x40, x41 =>
    if (decide (x41 < x40)) = true then
      if 0 ≤ x41 ∧ x41 < (x39.length : Int) then (if 0 ≤ x41 ∧ x41 < (x1.length : Int) then (if 0 ≤ (x1.getD x41.toNat (0 : Int)) ∧ (x1.getD x41.toNat (0 : Int)) < (x5_2.length : Int) then (impl_numbered.l2 n K k x1 x4_0 x4_1 x4_2 x5_0 x5_1 (x5_2.set ((x1.getD x41.toNat (0 : Int)).toNat) (x39.getD x41.toNat (0 : Int))) x39 x40 (IntKind.wrap .i64 (x41 + (1 : Int)))) else none) else none) else none
    else
      K x4_0 x4_1 x4_2 x5_0 x5_1 x5_2
def impl_numbered.F (n : Nat) (x0_0 : Int) (x0_1 : List (Int × Int × Int)) (x0_2 : List (Int)) (x1 : List (Int)) : Option (Int × (List (Int × Int × Int)) × (List (Int))) :=
  (impl_own.F n x0_0 x0_1 x0_2).bind fun r1 =>
  impl_numbered.l0 n (fun y2 y3 y4 y5 y6 y7 y8 y9 y10 y11 =>
    impl_numbered.l2 n (fun y12 y13 y14 y15 y16 y17 =>
      (impl_tidy.F n y15 y16 y17).bind fun r18 =>
      some (r18.1, r18.2.1, r18.2.2)) n y2 y6 y7 y8 y9 y10 y11 y5 (y5.length : Int) (0 : Int)) n x1 x0_0 x0_1 x0_2 (0 : Int) ([] : List (Int × Int × Int)) ([] : List (Int)) r1.1 r1.2.1 r1.2.2 (x0_1.length : Int) (0 : Int)

/-- loop.example/g01158/impl.MirrorMaze -/
def impl_MirrorMaze.F (n : Nat) (x0_0 : Int) (x0_1 : List (Int × Int × Int)) (x0_2 : List (Int)) : Option (Int × (List (Int × Int × Int)) × (List (Int)) × Bool) :=
  (impl_IsMaze.F n x0_0 x0_1 x0_2).bind fun r1 =>
  if (!r1) = true then
    some ((0 : Int), ([] : List (Int × Int × Int)), ([] : List (Int)), false)
  else
    (impl_counting.F n x0_0).bind fun r2 =>
    (slices_Reverse_int_int.F n r2).bind fun r3 =>
    (impl_numbered.F n x0_0 x0_1 x0_2 r3).bind fun r4 =>
    some (r4.1, r4.2.1, r4.2.2, true)

/-- loop.example/g01158/laws.FnExactMirrorMaze -/
def laws_FnExactMirrorMaze.F (n : Nat) (x0_0 : Int) (x0_1 : List (Int × Int × Int)) (x0_2 : List (Int)) : Option (Bool) :=
  (laws_szMaze.F n x0_0 x0_1 x0_2 (1048576 : Int)).bind fun r1 =>
  if (decide (r1 < (0 : Int))) = true then
    some true
  else
    (laws_toMaze.F n x0_0 x0_1 x0_2).bind fun r2 =>
    (spec_MirrorMaze.F n r2.1 r2.2.1 r2.2.2).bind fun r3 =>
    (laws_toMaze.F n x0_0 x0_1 x0_2).bind fun r4 =>
    (impl_MirrorMaze.F n r4.1 r4.2.1 r4.2.2).bind fun r5 =>
    let j10 : (Int) → (List (Int × Int × Int)) → (List (Int)) → (Int) → (List (Int × Int × Int)) → (List (Int)) → (Bool) → (Int) → (List (Int × Int × Int)) → (List (Int)) → (Int) → (List (Int × Int × Int)) → (List (Int)) → (Bool) → Option (Bool) := fun j10_x1_0 j10_x1_1 j10_x1_2 j10_x4_0 j10_x4_1 j10_x4_2 j10_x5 j10_x6_0 j10_x6_1 j10_x6_2 j10_x7_0 j10_x7_1 j10_x7_2 j10_x8 =>
      (laws_toMaze.F n j10_x1_0 j10_x1_1 j10_x1_2).bind fun r7 =>
      (laws_eqMaze.F n j10_x6_0 j10_x6_1 j10_x6_2 r7.1 r7.2.1 r7.2.2).bind fun r8 =>
      if (!r8) = true then
        some false
      else
        (laws_markMaze.F n j10_x6_0 j10_x6_1 j10_x6_2 (1 : Int)).bind fun r9 =>
        let j16 : (Int) → (List (Int × Int × Int)) → (List (Int)) → (Int) → (List (Int × Int × Int)) → (List (Int)) → (Bool) → (Int) → (List (Int × Int × Int)) → (List (Int)) → Option (Bool) := fun j16_x1_0 j16_x1_1 j16_x1_2 j16_x4_0 j16_x4_1 j16_x4_2 j16_x5 j16_x7_0 j16_x7_1 j16_x7_2 =>
          (laws_markMaze.F n j16_x7_0 j16_x7_1 j16_x7_2 (1 : Int)).bind fun r11 =>
          (laws_heldMaze.F n j16_x7_0 r11.2.2.1 r11.2.2.2 (1 : Int)).bind fun r12 =>
          if (decide (r12 < (0 : Int))) = true then
            some false
          else
            if (!decide (r12 = r11.1)) = true then
              some false
            else
              (laws_toMaze.F n j16_x1_0 j16_x1_1 j16_x1_2).bind fun r13 =>
              (impl_MirrorMaze.F n r13.1 r13.2.1 r13.2.2).bind fun r14 =>
              (laws_eqMaze.F n r14.1 r14.2.1 r14.2.2.1 j16_x4_0 j16_x4_1 j16_x4_2).bind fun r15 =>
              if (!r15) = true then
                some false
              else
                if (!(r14.2.2.2 == j16_x5)) = true then
                  some false
                else
                  (laws_heldMaze.F n j16_x7_0 r11.2.2.1 r11.2.2.2 (1 : Int)).bind fun r16 =>
                  if (decide (r16 < (0 : Int))) = true then
                    some false
                  else
                    if (!decide (r16 = r11.1)) = true then
                      some false
                    else
                      some true
        if (decide (r9.1 < (0 : Int))) = true then
          some false
        else
          (laws_eqMaze.F n j10_x7_0 j10_x7_1 j10_x7_2 j10_x4_0 j10_x4_1 j10_x4_2).bind fun r10 =>
          if (!r10) = true then
            some false
          else
            if (!(j10_x8 == j10_x5)) = true then
              some false
            else
              j16 j10_x1_0 j10_x1_1 j10_x1_2 j10_x4_0 j10_x4_1 j10_x4_2 j10_x5 j10_x7_0 j10_x7_1 j10_x7_2
    (laws_eqMaze.F n r5.1 r5.2.1 r5.2.2.1 r3.1 r3.2.1 r3.2.2.1).bind fun r6 =>
    if (!r6) = true then
      some false
    else
      if (!(r5.2.2.2 == r3.2.2.2)) = true then
        some false
      else
        j10 x0_0 x0_1 x0_2 r3.1 r3.2.1 r3.2.2.1 r3.2.2.2 r4.1 r4.2.1 r4.2.2 r5.1 r5.2.1 r5.2.2.1 r5.2.2.2

/-- loop.example/g01158/spec.NumberMaze -/
def spec_NumberMaze.F (n : Nat) (x0_0 : Int) (x0_1 : List (Int × Int × Int)) (x0_2 : List (Int)) (x1 : List (Int)) : Option (Int × (List (Int × Int × Int)) × (List (Int)) × Bool) :=
  (spec_l2Maze.F n x0_0 x0_1 x0_2).bind fun r1 =>
  if (!r1) = true then
    some ((0 : Int), ([] : List (Int × Int × Int)), ([] : List (Int)), false)
  else
    (spec_l2Order.F n x1 x0_0).bind fun r2 =>
    if (!r2) = true then
      some ((0 : Int), ([] : List (Int × Int × Int)), ([] : List (Int)), false)
    else
      (spec_l2Numbered.F n x0_0 x0_1 x0_2 x1).bind fun r3 =>
      some (r3.1, r3.2.1, r3.2.2, true)

/-- loop.example/g01158/impl.NumberMaze -/
def impl_NumberMaze.F (n : Nat) (x0_0 : Int) (x0_1 : List (Int × Int × Int)) (x0_2 : List (Int)) (x1 : List (Int)) : Option (Int × (List (Int × Int × Int)) × (List (Int)) × Bool) :=
  (impl_IsMaze.F n x0_0 x0_1 x0_2).bind fun r1 =>
  if (!r1) = true then
    some ((0 : Int), ([] : List (Int × Int × Int)), ([] : List (Int)), false)
  else
    (impl_isOrder.F n x1 x0_0).bind fun r2 =>
    if (!r2) = true then
      some ((0 : Int), ([] : List (Int × Int × Int)), ([] : List (Int)), false)
    else
      (impl_numbered.F n x0_0 x0_1 x0_2 x1).bind fun r3 =>
      some (r3.1, r3.2.1, r3.2.2, true)

/-- loop.example/g01158/laws.FnExactNumberMaze -/
def laws_FnExactNumberMaze.F (n : Nat) (x0_0 : Int) (x0_1 : List (Int × Int × Int)) (x0_2 : List (Int)) (x1 : List (Int)) : Option (Bool) :=
  if (decide ((x1.length : Int) > (1048576 : Int))) = true then
    some true
  else
    (laws_szMaze.F n x0_0 x0_1 x0_2 (1048576 : Int)).bind fun r1 =>
    if (decide (r1 < (0 : Int))) = true then
      some true
    else
      (laws_toMaze.F n x0_0 x0_1 x0_2).bind fun r2 =>
      (laws_toIntS.F n x1).bind fun r3 =>
      (spec_NumberMaze.F n r2.1 r2.2.1 r2.2.2 r3).bind fun r4 =>
      (laws_toMaze.F n x0_0 x0_1 x0_2).bind fun r5 =>
      (laws_toIntS.F n x1).bind fun r6 =>
      (impl_NumberMaze.F n r5.1 r5.2.1 r5.2.2 r6).bind fun r7 =>
      let j13 : (List (Int)) → (Int) → (List (Int × Int × Int)) → (List (Int)) → (Int) → (List (Int × Int × Int)) → (List (Int)) → (Bool) → (Int) → (List (Int × Int × Int)) → (List (Int)) → (List (Int)) → (Int) → (List (Int × Int × Int)) → (List (Int)) → (Bool) → Option (Bool) := fun j13_x1 j13_x2_0 j13_x2_1 j13_x2_2 j13_x6_0 j13_x6_1 j13_x6_2 j13_x7 j13_x8_0 j13_x8_1 j13_x8_2 j13_x9 j13_x10_0 j13_x10_1 j13_x10_2 j13_x11 =>
        (laws_toMaze.F n j13_x2_0 j13_x2_1 j13_x2_2).bind fun r9 =>
        (laws_eqMaze.F n j13_x8_0 j13_x8_1 j13_x8_2 r9.1 r9.2.1 r9.2.2).bind fun r10 =>
        if (!r10) = true then
          some false
        else
          (laws_toIntS.F n j13_x1).bind fun r11 =>
          (laws_eqIntS.F n j13_x9 r11).bind fun r12 =>
          if (!r12) = true then
            some false
          else
            (laws_markMaze.F n j13_x8_0 j13_x8_1 j13_x8_2 (1 : Int)).bind fun r13 =>
            (laws_markIntS.F n j13_x9 r13.1).bind fun r14 =>
            let j22 : (List (Int)) → (Int) → (List (Int × Int × Int)) → (List (Int)) → (Int) → (List (Int × Int × Int)) → (List (Int)) → (Bool) → (Int) → (List (Int × Int × Int)) → (List (Int)) → Option (Bool) := fun j22_x1 j22_x2_0 j22_x2_1 j22_x2_2 j22_x6_0 j22_x6_1 j22_x6_2 j22_x7 j22_x10_0 j22_x10_1 j22_x10_2 =>
              (laws_markMaze.F n j22_x10_0 j22_x10_1 j22_x10_2 (1 : Int)).bind fun r16 =>
              (laws_heldMaze.F n j22_x10_0 r16.2.2.1 r16.2.2.2 (1 : Int)).bind fun r17 =>
              if (decide (r17 < (0 : Int))) = true then
                some false
              else
                if (!decide (r17 = r16.1)) = true then
                  some false
                else
                  (laws_toMaze.F n j22_x2_0 j22_x2_1 j22_x2_2).bind fun r18 =>
                  (laws_toIntS.F n j22_x1).bind fun r19 =>
                  (impl_NumberMaze.F n r18.1 r18.2.1 r18.2.2 r19).bind fun r20 =>
                  (laws_eqMaze.F n r20.1 r20.2.1 r20.2.2.1 j22_x6_0 j22_x6_1 j22_x6_2).bind fun r21 =>
                  if (!r21) = true then
                    some false
                  else
                    if (!(r20.2.2.2 == j22_x7)) = true then
                      some false
                    else
                      (laws_heldMaze.F n j22_x10_0 r16.2.2.1 r16.2.2.2 (1 : Int)).bind fun r22 =>
                      if (decide (r22 < (0 : Int))) = true then
                        some false
                      else
                        if (!decide (r22 = r16.1)) = true then
                          some false
                        else
                          some true
            if (decide (r14.1 < (0 : Int))) = true then
              some false
            else
              (laws_eqMaze.F n j13_x10_0 j13_x10_1 j13_x10_2 j13_x6_0 j13_x6_1 j13_x6_2).bind fun r15 =>
              if (!r15) = true then
                some false
              else
                if (!(j13_x11 == j13_x7)) = true then
                  some false
                else
                  j22 j13_x1 j13_x2_0 j13_x2_1 j13_x2_2 j13_x6_0 j13_x6_1 j13_x6_2 j13_x7 j13_x10_0 j13_x10_1 j13_x10_2
      (laws_eqMaze.F n r7.1 r7.2.1 r7.2.2.1 r4.1 r4.2.1 r4.2.2.1).bind fun r8 =>
      if (!r8) = true then
        some false
      else
        if (!(r7.2.2.2 == r4.2.2.2)) = true then
          some false
        else
          j13 x1 x0_0 x0_1 x0_2 r4.1 r4.2.1 r4.2.2.1 r4.2.2.2 r5.1 r5.2.1 r5.2.2 r6 r7.1 r7.2.1 r7.2.2.1 r7.2.2.2

/-- loop.example/g01158/impl.has -/
def impl_has.F (n : Nat) (x0 : Int) (x1 : Int) : Option (Bool) :=
  some (decide ((bitClr .i64 x1 x0) = (0 : Int)))

/-- loop.example/g01158/impl.steps -/
def impl_steps.l0 (n : Nat) (K : Int → Option (Int)) : Nat → Int → Int → Int → (List (Int × Int × Int)) → Int → Int → Option (Int)
  | 0, _, _, _, _, _, _ => none
  | k + 1, x1, x2, x7, x11, x12, x13 =>
    if (decide (x13 < x12)) = true then
      if 0 ≤ x13 ∧ x13 < (x11.length : Int) then ((impl_has.F n x2 ((x11.getD x13.toNat ((0 : Int), (0 : Int), (0 : Int))).2.2)).bind fun r1 =>
      if (!r1) = true then
        impl_steps.l0 n K k x1 x2 x7 x11 x12 (IntKind.wrap .i64 (x13 + (1 : Int)))
      else
        if (decide (((x11.getD x13.toNat ((0 : Int), (0 : Int), (0 : Int))).1) = x1)) = true then
          if ((x11.getD x13.toNat ((0 : Int), (0 : Int), (0 : Int))).2.1) < 0 then none else (if (decide (((x11.getD x13.toNat ((0 : Int), (0 : Int), (0 : Int))).2.1) = x1)) = true then
            if ((x11.getD x13.toNat ((0 : Int), (0 : Int), (0 : Int))).1) < 0 then none else (impl_steps.l0 n K k x1 x2 (bitOr .i64 (bitOr .i64 x7 (shL .i64 1 ((x11.getD x13.toNat ((0 : Int), (0 : Int), (0 : Int))).2.1))) (shL .i64 1 ((x11.getD x13.toNat ((0 : Int), (0 : Int), (0 : Int))).1))) x11 x12 (IntKind.wrap .i64 (x13 + (1 : Int))))
          else
            impl_steps.l0 n K k x1 x2 (bitOr .i64 x7 (shL .i64 1 ((x11.getD x13.toNat ((0 : Int), (0 : Int), (0 : Int))).2.1))) x11 x12 (IntKind.wrap .i64 (x13 + (1 : Int))))
        else
          if (decide (((x11.getD x13.toNat ((0 : Int), (0 : Int), (0 : Int))).2.1) = x1)) = true then
            if ((x11.getD x13.toNat ((0 : Int), (0 : Int), (0 : Int))).1) < 0 then none else (impl_steps.l0 n K k x1 x2 (bitOr .i64 x7 (shL .i64 1 ((x11.getD x13.toNat ((0 : Int), (0 : Int), (0 : Int))).1))) x11 x12 (IntKind.wrap .i64 (x13 + (1 : Int))))
          else
            impl_steps.l0 n K k x1 x2 x7 x11 x12 (IntKind.wrap .i64 (x13 + (1 : Int)))) else none
    else
      K x7
def impl_steps.F (n : Nat) (x0_0 : Int) (x0_1 : List (Int × Int × Int)) (x0_2 : List (Int)) (x1 : Int) (x2 : Int) : Option (Int) :=
  impl_steps.l0 n (fun y2 =>
    some y2) n x1 x2 (0 : Int) x0_1 (x0_1.length : Int) (0 : Int)

/-- loop.example/g01158/spec.l2Joins -/
def spec_l2Joins.F (n : Nat) (x0_0 : Int) (x0_1 : Int) (x0_2 : Int) (x1 : Int) (x2 : Int) : Option (Bool) :=
  if (decide (x0_0 = x1)) = true then
    if (decide (x0_1 = x2)) = true then
      some true
    else
      if (decide (x0_0 = x2)) = true then
        some (decide (x0_1 = x1))
      else
        some false
  else
    if (decide (x0_0 = x2)) = true then
      some (decide (x0_1 = x1))
    else
      some false

/-- loop.example/g01158/spec.l2Has -/
def spec_l2Has.F (n : Nat) (x0 : Int) (x1 : Int) : Option (Bool) :=
  some (decide ((bitAnd .i64 x0 x1) = x1))

/-- loop.example/g01158/spec.l2Open -/
def spec_l2Open.l0 (n : Nat) (K : Unit → Option (Bool)) : Nat → Int → Int → Int → Int → (List (Int × Int × Int)) → (List (Int)) → Int → Option (Bool)
  | 0, _, _, _, _, _, _, _ => none
  | k + 1, x1, x2, x3, x4_0, x4_1, x4_2, x9 =>
    if (decide (x9 < (x4_1.length : Int))) = true then
      if 0 ≤ x9 ∧ x9 < (x4_1.length : Int) then ((spec_l2Joins.F n ((x4_1.getD x9.toNat ((0 : Int), (0 : Int), (0 : Int))).1) ((x4_1.getD x9.toNat ((0 : Int), (0 : Int), (0 : Int))).2.1) ((x4_1.getD x9.toNat ((0 : Int), (0 : Int), (0 : Int))).2.2) x1 x2).bind fun r1 =>
      if r1 = true then
        if 0 ≤ x9 ∧ x9 < (x4_1.length : Int) then ((spec_l2Has.F n x3 ((x4_1.getD x9.toNat ((0 : Int), (0 : Int), (0 : Int))).2.2)).bind fun r2 =>
        if r2 = true then
          some true
        else
          spec_l2Open.l0 n K k x1 x2 x3 x4_0 x4_1 x4_2 (IntKind.wrap .i64 (x9 + (1 : Int)))) else none
      else
        spec_l2Open.l0 n K k x1 x2 x3 x4_0 x4_1 x4_2 (IntKind.wrap .i64 (x9 + (1 : Int)))) else none
    else
      K ()
def spec_l2Open.F (n : Nat) (x0_0 : Int) (x0_1 : List (Int × Int × Int)) (x0_2 : List (Int)) (x1 : Int) (x2 : Int) (x3 : Int) : Option (Bool) :=
  spec_l2Open.l0 n (fun _ =>
    some false) n x1 x2 x3 x0_0 x0_1 x0_2 (0 : Int)

end Go.Pf
