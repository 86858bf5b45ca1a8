/- The pure functions of this seat's Go functions, as a program of mine (mach.py) printed them. -/
import Derived.Test.YtjhidgbicfegkaaFw1
set_option linter.unusedVariables false
set_option autoImplicit false
namespace Go.Pf
open Go Go.Fx

/-- loop.example/g01158/laws.szIntA3S -/
def laws_szIntA3S.F (n : Nat) (x0 : List (Int × Int × Int)) (x1 : Int) : Option (Int) :=
  if (decide ((IntKind.wrap .i64 (x1 - (x0.length : Int))) < (0 : Int))) = true then
    some (-1 : Int)
  else
    some (IntKind.wrap .i64 (x1 - (x0.length : Int)))

/-- loop.example/g01158/laws.szIntS -/
def laws_szIntS.F (n : Nat) (x0 : List (Int)) (x1 : Int) : Option (Int) :=
  if (decide ((IntKind.wrap .i64 (x1 - (x0.length : Int))) < (0 : Int))) = true then
    some (-1 : Int)
  else
    some (IntKind.wrap .i64 (x1 - (x0.length : Int)))

/-- loop.example/g01158/laws.szMaze -/
def laws_szMaze.F (n : Nat) (x0_0 : Int) (x0_1 : List (Int × Int × Int)) (x0_2 : List (Int)) (x1 : Int) : Option (Int) :=
  (laws_szIntA3S.F n x0_1 x1).bind fun r1 =>
  if (decide (r1 < (0 : Int))) = true then
    some (-1 : Int)
  else
    (laws_szIntS.F n x0_2 r1).bind fun r2 =>
    if (decide (r2 < (0 : Int))) = true then
      some (-1 : Int)
    else
      some r2

/-- loop.example/g01158/laws.toIntA3 -/
def laws_toIntA3.F (n : Nat) (x0_0 : Int) (x0_1 : Int) (x0_2 : Int) : Option (Int × Int × Int) :=
  some (x0_0, x0_1, x0_2)

/-- loop.example/g01158/laws.toIntA3S -/
def laws_toIntA3S.l0 (n : Nat) (K : (List (Int × Int × Int)) → Option ((List (Int × Int × Int)))) : Nat → (List (Int × Int × Int)) → (List (Int × Int × Int)) → Int → Option ((List (Int × Int × Int)))
  | 0, _, _, _ => none
  | k + 1, x0, x3, x4 =>
    if (decide (x4 < (x0.length : Int))) = true then
      if 0 ≤ x4 ∧ x4 < (x0.length : Int) then ((laws_toIntA3.F n ((x0.getD x4.toNat ((0 : Int), (0 : Int), (0 : Int))).1) ((x0.getD x4.toNat ((0 : Int), (0 : Int), (0 : Int))).2.1) ((x0.getD x4.toNat ((0 : Int), (0 : Int), (0 : Int))).2.2)).bind fun r1 =>
      if 0 ≤ x4 ∧ x4 < (x3.length : Int) then (laws_toIntA3S.l0 n K k x0 (x3.set x4.toNat r1) (IntKind.wrap .i64 (x4 + (1 : Int)))) else none) else none
    else
      K x3
def laws_toIntA3S.F (n : Nat) (x0 : List (Int × Int × Int)) : Option ((List (Int × Int × Int))) :=
  if 0 ≤ (x0.length : Int) ∧ (x0.length : Int) ≤ (x0.length : Int) ∧ (x0.length : Int) ≤ 4398046511104 then (laws_toIntA3S.l0 n (fun y2 =>
    some y2) n x0 (List.replicate ((x0.length : Int).toNat) ((0 : Int), (0 : Int), (0 : Int))) (0 : Int)) else none

/-- loop.example/g01158/laws.toIntS -/
def laws_toIntS.l0 (n : Nat) (K : (List (Int)) → Option ((List (Int)))) : Nat → (List (Int)) → (List (Int)) → Int → Option ((List (Int)))
  | 0, _, _, _ => none
  | k + 1, x0, x3, x4 =>
    if (decide (x4 < (x0.length : Int))) = true then
      if 0 ≤ x4 ∧ x4 < (x0.length : Int) then (if 0 ≤ x4 ∧ x4 < (x3.length : Int) then (laws_toIntS.l0 n K k x0 (x3.set x4.toNat (x0.getD x4.toNat (0 : Int))) (IntKind.wrap .i64 (x4 + (1 : Int)))) else none) else none
    else
      K x3
def laws_toIntS.F (n : Nat) (x0 : List (Int)) : Option ((List (Int))) :=
  if 0 ≤ (x0.length : Int) ∧ (x0.length : Int) ≤ (x0.length : Int) ∧ (x0.length : Int) ≤ 4398046511104 then (laws_toIntS.l0 n (fun y1 =>
    some y1) n x0 (List.replicate ((x0.length : Int).toNat) (0 : Int)) (0 : Int)) else none

/-- loop.example/g01158/laws.toMaze -/
def laws_toMaze.F (n : Nat) (x0_0 : Int) (x0_1 : List (Int × Int × Int)) (x0_2 : List (Int)) : Option (Int × (List (Int × Int × Int)) × (List (Int))) :=
  (laws_toIntA3S.F n x0_1).bind fun r1 =>
  (laws_toIntS.F n x0_2).bind fun r2 =>
  some (x0_0, r1, r2)

/-- loop.example/g01158/spec.l1In -/
def spec_l1In.F (n : Nat) (x0 : Int) (x1 : Int) (x2 : Int) : Option (Bool) :=
  if (decide (x0 ≥ x1)) = true then
    some (decide (x0 ≤ x2))
  else
    some false

/-- loop.example/g01158/spec.l2Set -/
def spec_l2Set.F (n : Nat) (x0 : Int) : Option (Bool) :=
  (spec_l1In.F n x0 (0 : Int) (63 : Int)).bind fun r1 =>
  some r1

/-- loop.example/g01158/spec.l2Before -/
def spec_l2Before.F (n : Nat) (x0_0 : Int) (x0_1 : Int) (x0_2 : Int) (x1_0 : Int) (x1_1 : Int) (x1_2 : Int) : Option (Bool) :=
  if (!decide (x0_0 = x1_0)) = true then
    some (decide (x0_0 < x1_0))
  else
    if (!decide (x0_1 = x1_1)) = true then
      some (decide (x0_1 < x1_1))
    else
      if (!decide (x0_2 = x1_2)) = true then
        some (decide (x0_2 < x1_2))
      else
        some false

/-- loop.example/g01158/spec.l2Maze -/
def spec_l2Maze.l0 (n : Nat) (K : Int → (List (Int × Int × Int)) → (List (Int)) → Option (Bool)) : Nat → Int → (List (Int × Int × Int)) → (List (Int)) → Int → Option (Bool)
  | 0, _, _, _, _ => none
  | k + 1, x1_0, x1_1, x1_2, x3 =>
    if (decide (x3 < (x1_1.length : Int))) = true then
      if 0 ≤ x3 ∧ x3 < (x1_1.length : Int) then ((spec_l1In.F n ((x1_1.getD x3.toNat ((0 : Int), (0 : Int), (0 : Int))).1) (0 : Int) (IntKind.wrap .i64 (x1_0 - (1 : Int)))).bind fun r2 =>
      if (!r2) = true then
        some false
      else
        (spec_l1In.F n ((x1_1.getD x3.toNat ((0 : Int), (0 : Int), (0 : Int))).2.1) (IntKind.wrap .i64 (((x1_1.getD x3.toNat ((0 : Int), (0 : Int), (0 : Int))).1) + (1 : Int))) (IntKind.wrap .i64 (x1_0 - (1 : Int)))).bind fun r3 =>
        if (!r3) = true then
          some false
        else
          (spec_l2Set.F n ((x1_1.getD x3.toNat ((0 : Int), (0 : Int), (0 : Int))).2.2)).bind fun r4 =>
          if (!r4) = true then
            some false
          else
            if (decide (x3 > (0 : Int))) = true then
              if 0 ≤ (IntKind.wrap .i64 (x3 - (1 : Int))) ∧ (IntKind.wrap .i64 (x3 - (1 : Int))) < (x1_1.length : Int) then ((spec_l2Before.F n ((x1_1.getD ((IntKind.wrap .i64 (x3 - (1 : Int))).toNat) ((0 : Int), (0 : Int), (0 : Int))).1) ((x1_1.getD ((IntKind.wrap .i64 (x3 - (1 : Int))).toNat) ((0 : Int), (0 : Int), (0 : Int))).2.1) ((x1_1.getD ((IntKind.wrap .i64 (x3 - (1 : Int))).toNat) ((0 : Int), (0 : Int), (0 : Int))).2.2) ((x1_1.getD x3.toNat ((0 : Int), (0 : Int), (0 : Int))).1) ((x1_1.getD x3.toNat ((0 : Int), (0 : Int), (0 : Int))).2.1) ((x1_1.getD x3.toNat ((0 : Int), (0 : Int), (0 : Int))).2.2)).bind fun r5 =>
              if (!r5) = true then
                some false
              else
                spec_l2Maze.l0 n K k x1_0 x1_1 x1_2 (IntKind.wrap .i64 (x3 + (1 : Int)))) else none
            else
              spec_l2Maze.l0 n K k x1_0 x1_1 x1_2 (IntKind.wrap .i64 (x3 + (1 : Int)))) else none
    else
      K x1_0 x1_1 x1_2
def spec_l2Maze.l2 (n : Nat) (K : Unit → Option (Bool)) : Nat → Int → (List (Int × Int × Int)) → (List (Int)) → Int → Option (Bool)
  | 0, _, _, _, _ => none
  | k + 1, x1_0, x1_1, x1_2, x5 =>
    if (decide (x5 < x1_0)) = true then
      if 0 ≤ x5 ∧ x5 < (x1_2.length : Int) then ((spec_l2Set.F n (x1_2.getD x5.toNat (0 : Int))).bind fun r9 =>
      if (!r9) = true then
        some false
      else
        spec_l2Maze.l2 n K k x1_0 x1_1 x1_2 (IntKind.wrap .i64 (x5 + (1 : Int)))) else none
    else
      K ()
def spec_l2Maze.F (n : Nat) (x0_0 : Int) (x0_1 : List (Int × Int × Int)) (x0_2 : List (Int)) : Option (Bool) :=
  let j3 : (Int) → (List (Int × Int × Int)) → (List (Int)) → Option (Bool) := fun j3_x1_0 j3_x1_1 j3_x1_2 =>
    spec_l2Maze.l0 n (fun y6 y7 y8 =>
      spec_l2Maze.l2 n (fun _ =>
        some true) n y6 y7 y8 (0 : Int)) n j3_x1_0 j3_x1_1 j3_x1_2 (0 : Int)
  (spec_l1In.F n x0_0 (1 : Int) (12 : Int)).bind fun r1 =>
  if (!r1) = true then
    some false
  else
    if (decide ((x0_1.length : Int) > (30 : Int))) = true then
      some false
    else
      if (!decide ((x0_2.length : Int) = x0_0)) = true then
        some false
      else
        j3 x0_0 x0_1 x0_2

/-- loop.example/g01158/spec.l4Id -/
def spec_l4Id.F (n : Nat) (x0 : Int) (x1 : Int) : Option (Int) :=
  some (IntKind.wrap .i64 ((IntKind.wrap .i64 (x0 * (64 : Int))) + x1))

/-- loop.example/g01158/spec.l2Joins -/
def spec_l2Joins.F (n : Nat) (x0_0 : Int) (x0_1 : Int) (x0_2 : Int) (x1 : Int) (x2 : Int) : Option (Bool) :=
  if (decide (x0_0 = x1)) = true then
    if (decide (x0_1 = x2)) = true then
      some true
    else
      if (decide (x0_0 = x2)) = true then
        some (decide (x0_1 = x1))
      else
        some false
  else
    if (decide (x0_0 = x2)) = true then
      some (decide (x0_1 = x1))
    else
      some false

/-- loop.example/g01158/spec.l2Has -/
def spec_l2Has.F (n : Nat) (x0 : Int) (x1 : Int) : Option (Bool) :=
  some (decide ((bitAnd .i64 x0 x1) = x1))

/-- loop.example/g01158/spec.l2Open -/
def spec_l2Open.l0 (n : Nat) (K : Unit → Option (Bool)) : Nat → Int → Int → Int → Int → (List (Int × Int × Int)) → (List (Int)) → Int → Option (Bool)
  | 0, _, _, _, _, _, _, _ => none
  | k + 1, x1, x2, x3, x4_0, x4_1, x4_2, x9 =>
    if (decide (x9 < (x4_1.length : Int))) = true then
      if 0 ≤ x9 ∧ x9 < (x4_1.length : Int) then ((spec_l2Joins.F n ((x4_1.getD x9.toNat ((0 : Int), (0 : Int), (0 : Int))).1) ((x4_1.getD x9.toNat ((0 : Int), (0 : Int), (0 : Int))).2.1) ((x4_1.getD x9.toNat ((0 : Int), (0 : Int), (0 : Int))).2.2) x1 x2).bind fun r1 =>
      if r1 = true then
        if 0 ≤ x9 ∧ x9 < (x4_1.length : Int) then ((spec_l2Has.F n x3 ((x4_1.getD x9.toNat ((0 : Int), (0 : Int), (0 : Int))).2.2)).bind fun r2 =>
        if r2 = true then
          some true
        else
          spec_l2Open.l0 n K k x1 x2 x3 x4_0 x4_1 x4_2 (IntKind.wrap .i64 (x9 + (1 : Int)))) else none
      else
        spec_l2Open.l0 n K k x1 x2 x3 x4_0 x4_1 x4_2 (IntKind.wrap .i64 (x9 + (1 : Int)))) else none
    else
      K ()
def spec_l2Open.F (n : Nat) (x0_0 : Int) (x0_1 : List (Int × Int × Int)) (x0_2 : List (Int)) (x1 : Int) (x2 : Int) (x3 : Int) : Option (Bool) :=
  spec_l2Open.l0 n (fun _ =>
    some false) n x1 x2 x3 x0_0 x0_1 x0_2 (0 : Int)

/-- loop.example/g01158/spec.l4Step -/
def spec_l4Step.l0 (n : Nat) (K : (List (Int)) → Option ((List (Int)))) : Nat → Int → Int → Int → (List (Int × Int × Int)) → (List (Int)) → (List (Int)) → Int → Option ((List (Int)))
  | 0, _, _, _, _, _, _, _ => none
  | k + 1, x1, x2, x3_0, x3_1, x3_2, x7, x8 =>
    if (decide (x8 < x3_0)) = true then
      (spec_l2Open.F n x3_0 x3_1 x3_2 x1 x8 x2).bind fun r1 =>
      if r1 = true then
        if 0 ≤ x8 ∧ x8 < (x3_2.length : Int) then ((spec_l4Id.F n x8 (bitOr .i64 x2 (x3_2.getD x8.toNat (0 : Int)))).bind fun r2 =>
        if x7.length + ([r2] : List (Int)).length ≤ 4398046511104 then (spec_l4Step.l0 n K k x1 x2 x3_0 x3_1 x3_2 (x7 ++ ([r2] : List (Int))) (IntKind.wrap .i64 (x8 + (1 : Int)))) else none) else none
      else
        spec_l4Step.l0 n K k x1 x2 x3_0 x3_1 x3_2 x7 (IntKind.wrap .i64 (x8 + (1 : Int)))
    else
      K x7
def spec_l4Step.F (n : Nat) (x0_0 : Int) (x0_1 : List (Int × Int × Int)) (x0_2 : List (Int)) (x1 : Int) (x2 : Int) : Option ((List (Int))) :=
  spec_l4Step.l0 n (fun y3 =>
    some y3) n x1 x2 x0_0 x0_1 x0_2 ([] : List (Int)) (0 : Int)

/-- loop.example/g01158/spec.l4Spread -/
def spec_l4Spread.l0 (n : Nat) (K : Int → Int → Int → (List (Int × Int × Int)) → (List (Int)) → (List (Int)) → Option ((List (Int)))) : Nat → Int → Int → Int → (List (Int × Int × Int)) → (List (Int)) → (List (Int)) → Int → Option ((List (Int)))
  | 0, _, _, _, _, _, _, _ => none
  | k + 1, x1, x2, x3_0, x3_1, x3_2, x7, x8 =>
    if (decide (x8 < (x7.length : Int))) = true then
      if 0 ≤ x8 ∧ x8 < (x7.length : Int) then (spec_l4Spread.l0 n K k x1 x2 x3_0 x3_1 x3_2 (x7.set x8.toNat (-1 : Int)) (IntKind.wrap .i64 (x8 + (1 : Int)))) else none
    else
      K x1 x2 x3_0 x3_1 x3_2 x7
def spec_l4Spread.l4 (n : Nat) (K : Int → (List (Int × Int × Int)) → (List (Int)) → (List (Int)) → (List (Int)) → Int → Option ((List (Int)))) : Nat → Int → (List (Int × Int × Int)) → (List (Int)) → (List (Int)) → (List (Int)) → Int → (List (Int)) → Int → Option ((List (Int)))
  | 0, _, _, _, _, _, _, _, _ => none
  | k + 1, x3_0, x3_1, x3_2, x7, x9, x10, x11, x12 =>
    if (decide (x12 < (x11.length : Int))) = true then
      if 0 ≤ x12 ∧ x12 < (x11.length : Int) then (if 0 ≤ (x11.getD x12.toNat (0 : Int)) ∧ (x11.getD x12.toNat (0 : Int)) < (x7.length : Int) then (if (decide ((x7.getD ((x11.getD x12.toNat (0 : Int)).toNat) (0 : Int)) < (0 : Int))) = true then
        if 0 ≤ x12 ∧ x12 < (x11.length : Int) then (if 0 ≤ x10 ∧ x10 < (x9.length : Int) then (if 0 ≤ (x9.getD x10.toNat (0 : Int)) ∧ (x9.getD x10.toNat (0 : Int)) < (x7.length : Int) then (if 0 ≤ (x11.getD x12.toNat (0 : Int)) ∧ (x11.getD x12.toNat (0 : Int)) < (x7.length : Int) then (if 0 ≤ x12 ∧ x12 < (x11.length : Int) then (if x9.length + ([x11.getD x12.toNat (0 : Int)] : List (Int)).length ≤ 4398046511104 then (spec_l4Spread.l4 n K k x3_0 x3_1 x3_2 (x7.set ((x11.getD x12.toNat (0 : Int)).toNat) (IntKind.wrap .i64 ((x7.getD ((x9.getD x10.toNat (0 : Int)).toNat) (0 : Int)) + (1 : Int)))) (x9 ++ ([x11.getD x12.toNat (0 : Int)] : List (Int))) x10 x11 (IntKind.wrap .i64 (x12 + (1 : Int)))) else none) else none) else none) else none) else none) else none
      else
        spec_l4Spread.l4 n K k x3_0 x3_1 x3_2 x7 x9 x10 x11 (IntKind.wrap .i64 (x12 + (1 : Int)))) else none) else none
    else
      K x3_0 x3_1 x3_2 x7 x9 x10
def spec_l4Spread.l2 (n : Nat) (K : (List (Int)) → Option ((List (Int)))) : Nat → Int → (List (Int × Int × Int)) → (List (Int)) → (List (Int)) → (List (Int)) → Int → Option ((List (Int)))
  | 0, _, _, _, _, _, _ => none
  | k + 1, x3_0, x3_1, x3_2, x7, x9, x10 =>
    if (decide (x10 < (x9.length : Int))) = true then
      if 0 ≤ x10 ∧ x10 < (x9.length : Int) then (if 0 ≤ x10 ∧ x10 < (x9.length : Int) then ((spec_l4Step.F n x3_0 x3_1 x3_2 (IntKind.wrap .i64 (Int.tdiv (x9.getD x10.toNat (0 : Int)) 64)) (Int.tmod (x9.getD x10.toNat (0 : Int)) 64)).bind fun r8 =>
      spec_l4Spread.l4 n (fun y9 y10 y11 y12 y13 y14 =>
        spec_l4Spread.l2 n K k y9 y10 y11 y12 y13 (IntKind.wrap .i64 (y14 + (1 : Int)))) n x3_0 x3_1 x3_2 x7 x9 x10 r8 (0 : Int)) else none) else none
    else
      K x7
def spec_l4Spread.F (n : Nat) (x0_0 : Int) (x0_1 : List (Int × Int × Int)) (x0_2 : List (Int)) (x1 : Int) (x2 : Int) : Option ((List (Int))) :=
  if 0 ≤ (IntKind.wrap .i64 (x0_0 * (64 : Int))) ∧ (IntKind.wrap .i64 (x0_0 * (64 : Int))) ≤ (IntKind.wrap .i64 (x0_0 * (64 : Int))) ∧ (IntKind.wrap .i64 (x0_0 * (64 : Int))) ≤ 4398046511104 then (spec_l4Spread.l0 n (fun y1 y2 y3 y4 y5 y6 =>
    (spec_l4Id.F n y1 y2).bind fun r7 =>
    if 0 ≤ (0 : Int) ∧ (0 : Int) < (([r7] : List (Int)).length : Int) then (if 0 ≤ (([r7] : List (Int)).getD 0 (0 : Int)) ∧ (([r7] : List (Int)).getD 0 (0 : Int)) < (y6.length : Int) then (spec_l4Spread.l2 n (fun y15 =>
      some y15) n y3 y4 y5 (y6.set ((([r7] : List (Int)).getD 0 (0 : Int)).toNat) (0 : Int)) ([r7] : List (Int)) (0 : Int)) else none) else none) n x1 x2 x0_0 x0_1 x0_2 (List.replicate ((IntKind.wrap .i64 (x0_0 * (64 : Int))).toNat) (0 : Int)) (0 : Int)) else none

/-- loop.example/g01158/spec.l4First -/
def spec_l4First.F (n : Nat) (x0_0 : Int) (x0_1 : List (Int × Int × Int)) (x0_2 : List (Int)) : Option ((List (Int))) :=
  if 0 ≤ (0 : Int) ∧ (0 : Int) < (x0_2.length : Int) then ((spec_l4Spread.F n x0_0 x0_1 x0_2 (0 : Int) (x0_2.getD 0 (0 : Int))).bind fun r1 =>
  some r1) else none

/-- loop.example/g01158/spec.StatesOf -/
def spec_StatesOf.l0 (n : Nat) (K : Int → Option (Int × Bool)) : Nat → Int → (List (Int)) → Int → Option (Int × Bool)
  | 0, _, _, _ => none
  | k + 1, x4, x5, x6 =>
    if (decide (x6 < (x5.length : Int))) = true then
      if 0 ≤ x6 ∧ x6 < (x5.length : Int) then (if (decide ((x5.getD x6.toNat (0 : Int)) ≥ (0 : Int))) = true then
        spec_StatesOf.l0 n K k (IntKind.wrap .i64 (x4 + (1 : Int))) x5 (IntKind.wrap .i64 (x6 + (1 : Int)))
      else
        spec_StatesOf.l0 n K k x4 x5 (IntKind.wrap .i64 (x6 + (1 : Int)))) else none
    else
      K x4
def spec_StatesOf.F (n : Nat) (x0_0 : Int) (x0_1 : List (Int × Int × Int)) (x0_2 : List (Int)) : Option (Int × Bool) :=
  (spec_l2Maze.F n x0_0 x0_1 x0_2).bind fun r1 =>
  if (!r1) = true then
    some ((0 : Int), false)
  else
    (spec_l4First.F n x0_0 x0_1 x0_2).bind fun r2 =>
    spec_StatesOf.l0 n (fun y3 =>
      some (y3, true)) n (0 : Int) r2 (0 : Int)

/-- loop.example/g01158/impl.within -/
def impl_within.F (n : Nat) (x0 : Int) (x1 : Int) (x2 : Int) : Option (Bool) :=
  if (decide (x1 ≤ x0)) = true then
    some (decide (x0 ≤ x2))
  else
    some false

/-- loop.example/g01158/impl.isSet -/
def impl_isSet.F (n : Nat) (x0 : Int) : Option (Bool) :=
  (impl_within.F n x0 (0 : Int) (63 : Int)).bind fun r1 =>
  some r1

/-- cmp.isNaN[int] -/
def cmp_isNaN_int.F (n : Nat) (x0 : Int) : Option (Bool) :=
  some (!decide (x0 = x0))

/-- cmp.Compare[int] -/
def cmp_Compare_int.F (n : Nat) (x0 : Int) (x1 : Int) : Option (Int) :=
  (cmp_isNaN_int.F n x0).bind fun r1 =>
  (cmp_isNaN_int.F n x1).bind fun r2 =>
  if r1 = true then
    if r2 = true then
      some (0 : Int)
    else
      some (-1 : Int)
  else
    if r2 = true then
      some (1 : Int)
    else
      if (decide (x0 < x1)) = true then
        some (-1 : Int)
      else
        if (decide (x0 > x1)) = true then
          some (1 : Int)
        else
          some (0 : Int)

/-- cmp.Or[int] -/
def cmp_Or_int.l0 (n : Nat) (K : Int → Option (Int)) : Nat → Int → (List (Int)) → Int → Int → Option (Int)
  | 0, _, _, _, _ => none
  | k + 1, x3, x6, x7, x8 =>
    if (decide (x8 < x7)) = true then
      if 0 ≤ x8 ∧ x8 < (x6.length : Int) then (if (!decide ((x6.getD x8.toNat (0 : Int)) = x3)) = true then
        some (x6.getD x8.toNat (0 : Int))
      else
        cmp_Or_int.l0 n K k x3 x6 x7 (IntKind.wrap .i64 (x8 + (1 : Int)))) else none
    else
      K x3
def cmp_Or_int.F (n : Nat) (x0 : List (Int)) : Option (Int) :=
  cmp_Or_int.l0 n (fun y1 =>
    some y1) n (0 : Int) x0 (x0.length : Int) (0 : Int)

/-- loop.example/g01158/impl.compareDoors -/
def impl_compareDoors.F (n : Nat) (x0_0 : Int) (x0_1 : Int) (x0_2 : Int) (x1_0 : Int) (x1_1 : Int) (x1_2 : Int) : Option (Int) :=
  (cmp_Compare_int.F n x0_0 x1_0).bind fun r1 =>
  (cmp_Compare_int.F n x0_1 x1_1).bind fun r2 =>
  (cmp_Compare_int.F n x0_2 x1_2).bind fun r3 =>
  (cmp_Or_int.F n ([r1, r2, r3] : List (Int))).bind fun r4 =>
  some r4

/-- loop.example/g01158/impl.IsMaze$1 -/
def impl_IsMaze_1.F (n : Nat) (x0 : Int) : Option (Bool) :=
  (impl_isSet.F n x0).bind fun r1 =>
  some (!r1)

/-- slices.IndexFunc[[]int,int] -/
def slices_IndexFunc_int_int_cIsMaze_1.l0 (n : Nat) (K : Unit → Option (Int)) : Nat → (List (Int)) → Int → Int → Option (Int)
  | 0, _, _, _ => none
  | k + 1, x0, x7, x8 =>
    if (decide (x8 < x7)) = true then
      if 0 ≤ x8 ∧ x8 < (x0.length : Int) then ((impl_IsMaze_1.F n (x0.getD x8.toNat (0 : Int))).bind fun r1 =>
      if r1 = true then
        some x8
      else
        slices_IndexFunc_int_int_cIsMaze_1.l0 n K k x0 x7 (IntKind.wrap .i64 (x8 + (1 : Int)))) else none
    else
      K ()
def slices_IndexFunc_int_int_cIsMaze_1.F (n : Nat) (x0 : List (Int)) : Option (Int) :=
  slices_IndexFunc_int_int_cIsMaze_1.l0 n (fun _ =>
    some (-1 : Int)) n x0 (x0.length : Int) (0 : Int)

/-- slices.ContainsFunc[[]int,int] -/
def slices_ContainsFunc_int_int_cIsMaze_1.F (n : Nat) (x0 : List (Int)) : Option (Bool) :=
  (slices_IndexFunc_int_int_cIsMaze_1.F n x0).bind fun r1 =>
  some (decide (r1 ≥ (0 : Int)))

/-- loop.example/g01158/impl.IsMaze -/
def impl_IsMaze.l0 (n : Nat) (K : Int → (List (Int × Int × Int)) → (List (Int)) → Option (Bool)) : Nat → Int → (List (Int × Int × Int)) → (List (Int)) → Int → Int → Option (Bool)
  | 0, _, _, _, _, _ => none
  | k + 1, x1_0, x1_1, x1_2, x25, x26 =>
    if (decide (x26 < x25)) = true then
      if 0 ≤ x26 ∧ x26 < (x1_1.length : Int) then (if (decide (((x1_1.getD x26.toNat ((0 : Int), (0 : Int), (0 : Int))).1) < (0 : Int))) = true then
        some false
      else
        if (decide (((x1_1.getD x26.toNat ((0 : Int), (0 : Int), (0 : Int))).1) ≥ ((x1_1.getD x26.toNat ((0 : Int), (0 : Int), (0 : Int))).2.1))) = true then
          some false
        else
          if (decide (((x1_1.getD x26.toNat ((0 : Int), (0 : Int), (0 : Int))).2.1) ≥ x1_0)) = true then
            some false
          else
            (impl_isSet.F n ((x1_1.getD x26.toNat ((0 : Int), (0 : Int), (0 : Int))).2.2)).bind fun r2 =>
            if (!r2) = true then
              some false
            else
              if (decide (x26 > (0 : Int))) = true then
                if 0 ≤ (IntKind.wrap .i64 (x26 - (1 : Int))) ∧ (IntKind.wrap .i64 (x26 - (1 : Int))) < (x1_1.length : Int) then ((impl_compareDoors.F n ((x1_1.getD ((IntKind.wrap .i64 (x26 - (1 : Int))).toNat) ((0 : Int), (0 : Int), (0 : Int))).1) ((x1_1.getD ((IntKind.wrap .i64 (x26 - (1 : Int))).toNat) ((0 : Int), (0 : Int), (0 : Int))).2.1) ((x1_1.getD ((IntKind.wrap .i64 (x26 - (1 : Int))).toNat) ((0 : Int), (0 : Int), (0 : Int))).2.2) ((x1_1.getD x26.toNat ((0 : Int), (0 : Int), (0 : Int))).1) ((x1_1.getD x26.toNat ((0 : Int), (0 : Int), (0 : Int))).2.1) ((x1_1.getD x26.toNat ((0 : Int), (0 : Int), (0 : Int))).2.2)).bind fun r3 =>
                if (decide (r3 ≥ (0 : Int))) = true then
                  some false
                else
                  impl_IsMaze.l0 n K k x1_0 x1_1 x1_2 x25 (IntKind.wrap .i64 (x26 + (1 : Int)))) else none
              else
                impl_IsMaze.l0 n K k x1_0 x1_1 x1_2 x25 (IntKind.wrap .i64 (x26 + (1 : Int)))) else none
    else
      K x1_0 x1_1 x1_2
def impl_IsMaze.F (n : Nat) (x0_0 : Int) (x0_1 : List (Int × Int × Int)) (x0_2 : List (Int)) : Option (Bool) :=
  let j3 : (Int) → (List (Int × Int × Int)) → (List (Int)) → Option (Bool) := fun j3_x1_0 j3_x1_1 j3_x1_2 =>
    impl_IsMaze.l0 n (fun y4 y5 y6 =>
      (slices_ContainsFunc_int_int_cIsMaze_1.F n y6).bind fun r7 =>
      some (!r7)) n j3_x1_0 j3_x1_1 j3_x1_2 (j3_x1_1.length : Int) (0 : Int)
  (impl_within.F n x0_0 (1 : Int) (12 : Int)).bind fun r1 =>
  if (!r1) = true then
    some false
  else
    if (decide ((x0_1.length : Int) > (30 : Int))) = true then
      some false
    else
      if (!decide ((x0_2.length : Int) = x0_0)) = true then
        some false
      else
        j3 x0_0 x0_1 x0_2

/-- loop.example/g01158/impl.has -/
def impl_has.F (n : Nat) (x0 : Int) (x1 : Int) : Option (Bool) :=
  some (decide ((bitClr .i64 x1 x0) = (0 : Int)))

/-- loop.example/g01158/impl.steps -/
def impl_steps.l0 (n : Nat) (K : Int → Option (Int)) : Nat → Int → Int → Int → (List (Int × Int × Int)) → Int → Int → Option (Int)
  | 0, _, _, _, _, _, _ => none
  | k + 1, x1, x2, x7, x11, x12, x13 =>
    if (decide (x13 < x12)) = true then
      if 0 ≤ x13 ∧ x13 < (x11.length : Int) then ((impl_has.F n x2 ((x11.getD x13.toNat ((0 : Int), (0 : Int), (0 : Int))).2.2)).bind fun r1 =>
      if (!r1) = true then
        impl_steps.l0 n K k x1 x2 x7 x11 x12 (IntKind.wrap .i64 (x13 + (1 : Int)))
      else
        if (decide (((x11.getD x13.toNat ((0 : Int), (0 : Int), (0 : Int))).1) = x1)) = true then
          if ((x11.getD x13.toNat ((0 : Int), (0 : Int), (0 : Int))).2.1) < 0 then none else (if (decide (((x11.getD x13.toNat ((0 : Int), (0 : Int), (0 : Int))).2.1) = x1)) = true then
            if ((x11.getD x13.toNat ((0 : Int), (0 : Int), (0 : Int))).1) < 0 then none else (impl_steps.l0 n K k x1 x2 (bitOr .i64 (bitOr .i64 x7 (shL .i64 1 ((x11.getD x13.toNat ((0 : Int), (0 : Int), (0 : Int))).2.1))) (shL .i64 1 ((x11.getD x13.toNat ((0 : Int), (0 : Int), (0 : Int))).1))) x11 x12 (IntKind.wrap .i64 (x13 + (1 : Int))))
          else
            impl_steps.l0 n K k x1 x2 (bitOr .i64 x7 (shL .i64 1 ((x11.getD x13.toNat ((0 : Int), (0 : Int), (0 : Int))).2.1))) x11 x12 (IntKind.wrap .i64 (x13 + (1 : Int))))
        else
          if (decide (((x11.getD x13.toNat ((0 : Int), (0 : Int), (0 : Int))).2.1) = x1)) = true then
            if ((x11.getD x13.toNat ((0 : Int), (0 : Int), (0 : Int))).1) < 0 then none else (impl_steps.l0 n K k x1 x2 (bitOr .i64 x7 (shL .i64 1 ((x11.getD x13.toNat ((0 : Int), (0 : Int), (0 : Int))).1))) x11 x12 (IntKind.wrap .i64 (x13 + (1 : Int))))
          else
            impl_steps.l0 n K k x1 x2 x7 x11 x12 (IntKind.wrap .i64 (x13 + (1 : Int)))) else none
    else
      K x7
def impl_steps.F (n : Nat) (x0_0 : Int) (x0_1 : List (Int × Int × Int)) (x0_2 : List (Int)) (x1 : Int) (x2 : Int) : Option (Int) :=
  impl_steps.l0 n (fun y2 =>
    some y2) n x1 x2 (0 : Int) x0_1 (x0_1.length : Int) (0 : Int)

/-- loop.example/g01158/impl.members -/
def impl_members.l0 (n : Nat) (K : (List (Int)) → Option ((List (Int)))) : Nat → Int → (List (Int)) → Int → Option ((List (Int)))
  | 0, _, _, _ => none
  | k + 1, x0, x3, x4 =>
    if x4 < 0 then none else (if (decide ((shR .i64 x0 x4) > (0 : Int))) = true then
      if x4 < 0 then none else (if (decide ((bitAnd .i64 (shR .i64 x0 x4) 1) = (1 : Int))) = true then
        if x3.length + ([x4] : List (Int)).length ≤ 4398046511104 then (impl_members.l0 n K k x0 (x3 ++ ([x4] : List (Int))) (IntKind.wrap .i64 (x4 + (1 : Int)))) else none
      else
        impl_members.l0 n K k x0 x3 (IntKind.wrap .i64 (x4 + (1 : Int))))
    else
      K x3)
def impl_members.F (n : Nat) (x0 : Int) : Option ((List (Int))) :=
  impl_members.l0 n (fun y1 =>
    some y1) n x0 ([] : List (Int)) (0 : Int)

/-- loop.example/g01158/impl.distances -/
def impl_distances.l2 (n : Nat) (K : Int → Int → Int → (List (Int × Int × Int)) → (List (Int)) → (List Int) → (List Int) → Int → Option ((List Int))) : Nat → Int → Int → Int → (List (Int × Int × Int)) → (List (Int)) → (List Int) → (List Int) → Int → Int → Int → Option ((List Int))
  | 0, _, _, _, _, _, _, _, _, _, _ => none
  | k + 1, x1, x2, x3_0, x3_1, x3_2, x6, x7, x8, x17, x20 =>
    if (decide (x20 < (64 : Int))) = true then
      if 0 ≤ x8 ∧ x8 < (12 : Int) ∧ (0 + (x8.toNat * 64)) < 768 then (if 0 ≤ x20 ∧ x20 < (64 : Int) ∧ ((0 + (x8.toNat * 64)) + (x20.toNat * 1)) < 768 then (impl_distances.l2 n K k x1 x2 x3_0 x3_1 x3_2 x6 (x7.set ((0 + (x8.toNat * 64)) + (x20.toNat * 1)) (-1)) x8 x17 (IntKind.wrap .i64 (x20 + (1 : Int)))) else none) else none
    else
      K x1 x2 x3_0 x3_1 x3_2 x6 x7 x17
def impl_distances.l0 (n : Nat) (K : Int → Int → Int → (List (Int × Int × Int)) → (List (Int)) → (List Int) → (List Int) → Option ((List Int))) : Nat → Int → Int → Int → (List (Int × Int × Int)) → (List (Int)) → (List Int) → (List Int) → Int → Option ((List Int))
  | 0, _, _, _, _, _, _, _, _ => none
  | k + 1, x1, x2, x3_0, x3_1, x3_2, x6, x7, x17 =>
    if (decide (x17 < (12 : Int))) = true then
      impl_distances.l2 n (fun y1 y2 y3 y4 y5 y6 y7 y8 =>
        impl_distances.l0 n K k y1 y2 y3 y4 y5 y6 y7 (IntKind.wrap .i64 (y8 + (1 : Int)))) n x1 x2 x3_0 x3_1 x3_2 x6 x7 x17 x17 (0 : Int)
    else
      K x1 x2 x3_0 x3_1 x3_2 x6 x7
def impl_distances.l6 (n : Nat) (K : Int → (List (Int × Int × Int)) → (List (Int)) → (List Int) → (List Int) → (List (Int × Int)) → Option ((List Int))) : Nat → Int → (List (Int × Int × Int)) → (List (Int)) → (List Int) → (List Int) → (List (Int × Int)) → Int → Int → (List (Int)) → Int → Int → Option ((List Int))
  | 0, _, _, _, _, _, _, _, _, _, _, _ => none
  | k + 1, x3_0, x3_1, x3_2, x6, x7, x10, x11, x12, x54, x55, x56 =>
    if (decide (x56 < x55)) = true then
      if 0 ≤ x56 ∧ x56 < (x54.length : Int) then (if 0 ≤ (x54.getD x56.toNat (0 : Int)) ∧ (x54.getD x56.toNat (0 : Int)) < (x3_2.length : Int) then (if 0 ≤ (x54.getD x56.toNat (0 : Int)) ∧ (x54.getD x56.toNat (0 : Int)) < (12 : Int) ∧ (0 + (((x54.getD x56.toNat (0 : Int)).toNat) * 64)) < 768 then (if 0 ≤ (bitOr .i64 x12 (x3_2.getD ((x54.getD x56.toNat (0 : Int)).toNat) (0 : Int))) ∧ (bitOr .i64 x12 (x3_2.getD ((x54.getD x56.toNat (0 : Int)).toNat) (0 : Int))) < (64 : Int) ∧ ((0 + (((x54.getD x56.toNat (0 : Int)).toNat) * 64)) + (((bitOr .i64 x12 (x3_2.getD ((x54.getD x56.toNat (0 : Int)).toNat) (0 : Int))).toNat) * 1)) < 768 then (if (decide ((x7.getD ((0 + (((x54.getD x56.toNat (0 : Int)).toNat) * 64)) + (((bitOr .i64 x12 (x3_2.getD ((x54.getD x56.toNat (0 : Int)).toNat) (0 : Int))).toNat) * 1)) 0) < (0 : Int))) = true then
        if 0 ≤ x11 ∧ x11 < (12 : Int) ∧ (0 + (x11.toNat * 64)) < 768 then (if 0 ≤ x12 ∧ x12 < (64 : Int) ∧ ((0 + (x11.toNat * 64)) + (x12.toNat * 1)) < 768 then (if 0 ≤ (x54.getD x56.toNat (0 : Int)) ∧ (x54.getD x56.toNat (0 : Int)) < (12 : Int) ∧ (0 + (((x54.getD x56.toNat (0 : Int)).toNat) * 64)) < 768 then (if 0 ≤ (bitOr .i64 x12 (x3_2.getD ((x54.getD x56.toNat (0 : Int)).toNat) (0 : Int))) ∧ (bitOr .i64 x12 (x3_2.getD ((x54.getD x56.toNat (0 : Int)).toNat) (0 : Int))) < (64 : Int) ∧ ((0 + (((x54.getD x56.toNat (0 : Int)).toNat) * 64)) + (((bitOr .i64 x12 (x3_2.getD ((x54.getD x56.toNat (0 : Int)).toNat) (0 : Int))).toNat) * 1)) < 768 then (if x10.length + ([(x54.getD x56.toNat (0 : Int), bitOr .i64 x12 (x3_2.getD ((x54.getD x56.toNat (0 : Int)).toNat) (0 : Int)))] : List (Int × Int)).length ≤ 4398046511104 then (impl_distances.l6 n K k x3_0 x3_1 x3_2 x6 (x7.set ((0 + (((x54.getD x56.toNat (0 : Int)).toNat) * 64)) + (((bitOr .i64 x12 (x3_2.getD ((x54.getD x56.toNat (0 : Int)).toNat) (0 : Int))).toNat) * 1)) (IntKind.wrap .i64 ((x7.getD ((0 + (x11.toNat * 64)) + (x12.toNat * 1)) 0) + (1 : Int)))) (x10 ++ ([(x54.getD x56.toNat (0 : Int), bitOr .i64 x12 (x3_2.getD ((x54.getD x56.toNat (0 : Int)).toNat) (0 : Int)))] : List (Int × Int))) x11 x12 x54 x55 (IntKind.wrap .i64 (x56 + (1 : Int)))) else none) else none) else none) else none) else none
      else
        impl_distances.l6 n K k x3_0 x3_1 x3_2 x6 x7 x10 x11 x12 x54 x55 (IntKind.wrap .i64 (x56 + (1 : Int)))) else none) else none) else none) else none
    else
      K x3_0 x3_1 x3_2 x6 x7 x10
def impl_distances.l4 (n : Nat) (K : (List Int) → (List Int) → Option ((List Int))) : Nat → Int → (List (Int × Int × Int)) → (List (Int)) → (List Int) → (List Int) → (List (Int × Int)) → Option ((List Int))
  | 0, _, _, _, _, _, _ => none
  | k + 1, x3_0, x3_1, x3_2, x6, x7, x10 =>
    if (decide ((x10.length : Int) > (0 : Int))) = true then
      if 0 ≤ (0 : Int) ∧ (0 : Int) < (x10.length : Int) then (if 0 ≤ (0 : Int) ∧ (0 : Int) < (x10.length : Int) then ((impl_steps.F n x3_0 x3_1 x3_2 ((x10.getD 0 ((0 : Int), (0 : Int))).1) ((x10.getD 0 ((0 : Int), (0 : Int))).2)).bind fun r16 =>
      (impl_members.F n r16).bind fun r17 =>
      impl_distances.l6 n (fun y18 y19 y20 y21 y22 y23 =>
        if 0 ≤ (1 : Int) ∧ (1 : Int) ≤ (y23.length : Int) then (impl_distances.l4 n K k y18 y19 y20 y21 y22 (y23.drop 1)) else none) n x3_0 x3_1 x3_2 x6 x7 x10 ((x10.getD 0 ((0 : Int), (0 : Int))).1) ((x10.getD 0 ((0 : Int), (0 : Int))).2) r17 (r17.length : Int) (0 : Int)) else none) else none
    else
      K x6 x7
def impl_distances.F (n : Nat) (x0_0 : Int) (x0_1 : List (Int × Int × Int)) (x0_2 : List (Int)) (x1 : Int) (x2 : Int) : Option ((List Int)) :=
  impl_distances.l0 n (fun y9 y10 y11 y12 y13 y14 y15 =>
    if 0 ≤ y9 ∧ y9 < (12 : Int) ∧ (0 + (y9.toNat * 64)) < 768 then (if 0 ≤ y10 ∧ y10 < (64 : Int) ∧ ((0 + (y9.toNat * 64)) + (y10.toNat * 1)) < 768 then (impl_distances.l4 n (fun y24 y25 =>
      some y25) n y11 y12 y13 y14 (y15.set ((0 + (y9.toNat * 64)) + (y10.toNat * 1)) 0) ([(y9, y10)] : List (Int × Int))) else none) else none) n x1 x2 x0_0 x0_1 x0_2 (List.replicate 768 (0 : Int)) (List.replicate 768 (0 : Int)) (0 : Int)

/-- loop.example/g01158/impl.fromStart -/
def impl_fromStart.F (n : Nat) (x0_0 : Int) (x0_1 : List (Int × Int × Int)) (x0_2 : List (Int)) : Option ((List Int)) :=
  if 0 ≤ (0 : Int) ∧ (0 : Int) < (x0_2.length : Int) then ((impl_distances.F n x0_0 x0_1 x0_2 (0 : Int) (x0_2.getD 0 (0 : Int))).bind fun r1 =>
  some r1) else none

/-- loop.example/g01158/impl.StatesOf -/
def impl_StatesOf.l2 (n : Nat) (K : Int → (List Int) → Int → Option (Int × Bool)) : Nat → Int → (List Int) → Int → (List Int) → Int → Option (Int × Bool)
  | 0, _, _, _, _, _ => none
  | k + 1, x4, x13, x14, x17, x18 =>
    if (decide (x18 < (64 : Int))) = true then
      if 0 ≤ x18 ∧ x18 < (64 : Int) then (if (decide ((x17.getD x18.toNat 0) ≥ (0 : Int))) = true then
        impl_StatesOf.l2 n K k (IntKind.wrap .i64 (x4 + (1 : Int))) x13 x14 x17 (IntKind.wrap .i64 (x18 + (1 : Int)))
      else
        impl_StatesOf.l2 n K k x4 x13 x14 x17 (IntKind.wrap .i64 (x18 + (1 : Int)))) else none
    else
      K x4 x13 x14
def impl_StatesOf.l0 (n : Nat) (K : Int → Option (Int × Bool)) : Nat → Int → (List Int) → Int → Option (Int × Bool)
  | 0, _, _, _ => none
  | k + 1, x4, x13, x14 =>
    if (decide (x14 < (12 : Int))) = true then
      if 0 ≤ x14 ∧ x14 < (12 : Int) then (impl_StatesOf.l2 n (fun y3 y4 y5 =>
        impl_StatesOf.l0 n K k y3 y4 (IntKind.wrap .i64 (y5 + (1 : Int)))) n x4 x13 x14 ((x13.drop (x14.toNat * 64)).take 64) (0 : Int)) else none
    else
      K x4
def impl_StatesOf.F (n : Nat) (x0_0 : Int) (x0_1 : List (Int × Int × Int)) (x0_2 : List (Int)) : Option (Int × Bool) :=
  (impl_IsMaze.F n x0_0 x0_1 x0_2).bind fun r1 =>
  if (!r1) = true then
    some ((0 : Int), false)
  else
    (impl_fromStart.F n x0_0 x0_1 x0_2).bind fun r2 =>
    impl_StatesOf.l0 n (fun y6 =>
      some (y6, true)) n (0 : Int) r2 (0 : Int)

/-- loop.example/g01158/laws.eqIntA3 -/
def laws_eqIntA3.F (n : Nat) (x0_0 : Int) (x0_1 : Int) (x0_2 : Int) (x1_0 : Int) (x1_1 : Int) (x1_2 : Int) : Option (Bool) :=
  if (!decide (x0_0 = x1_0)) = true then
    some false
  else
    if (!decide (x0_1 = x1_1)) = true then
      some false
    else
      if (!decide (x0_2 = x1_2)) = true then
        some false
      else
        some true

/-- loop.example/g01158/laws.eqIntA3S -/
def laws_eqIntA3S.l0 (n : Nat) (K : Unit → Option (Bool)) : Nat → (List (Int × Int × Int)) → (List (Int × Int × Int)) → Int → Option (Bool)
  | 0, _, _, _ => none
  | k + 1, x0, x1, x5 =>
    if (decide (x5 < (x0.length : Int))) = true then
      if 0 ≤ x5 ∧ x5 < (x0.length : Int) then (if 0 ≤ x5 ∧ x5 < (x1.length : Int) then ((laws_eqIntA3.F n ((x0.getD x5.toNat ((0 : Int), (0 : Int), (0 : Int))).1) ((x0.getD x5.toNat ((0 : Int), (0 : Int), (0 : Int))).2.1) ((x0.getD x5.toNat ((0 : Int), (0 : Int), (0 : Int))).2.2) ((x1.getD x5.toNat ((0 : Int), (0 : Int), (0 : Int))).1) ((x1.getD x5.toNat ((0 : Int), (0 : Int), (0 : Int))).2.1) ((x1.getD x5.toNat ((0 : Int), (0 : Int), (0 : Int))).2.2)).bind fun r1 =>
      if (!r1) = true then
        some false
      else
        laws_eqIntA3S.l0 n K k x0 x1 (IntKind.wrap .i64 (x5 + (1 : Int)))) else none) else none
    else
      K ()
def laws_eqIntA3S.F (n : Nat) (x0 : List (Int × Int × Int)) (x1 : List (Int × Int × Int)) : Option (Bool) :=
  if (!decide ((x0.length : Int) = (x1.length : Int))) = true then
    some false
  else
    laws_eqIntA3S.l0 n (fun _ =>
      some true) n x0 x1 (0 : Int)

/-- loop.example/g01158/laws.eqIntS -/
def laws_eqIntS.l0 (n : Nat) (K : Unit → Option (Bool)) : Nat → (List (Int)) → (List (Int)) → Int → Option (Bool)
  | 0, _, _, _ => none
  | k + 1, x0, x1, x5 =>
    if (decide (x5 < (x0.length : Int))) = true then
      if 0 ≤ x5 ∧ x5 < (x0.length : Int) then (if 0 ≤ x5 ∧ x5 < (x1.length : Int) then (if (!decide ((x0.getD x5.toNat (0 : Int)) = (x1.getD x5.toNat (0 : Int)))) = true then
        some false
      else
        laws_eqIntS.l0 n K k x0 x1 (IntKind.wrap .i64 (x5 + (1 : Int)))) else none) else none
    else
      K ()
def laws_eqIntS.F (n : Nat) (x0 : List (Int)) (x1 : List (Int)) : Option (Bool) :=
  if (!decide ((x0.length : Int) = (x1.length : Int))) = true then
    some false
  else
    laws_eqIntS.l0 n (fun _ =>
      some true) n x0 x1 (0 : Int)

/-- loop.example/g01158/laws.eqMaze -/
def laws_eqMaze.F (n : Nat) (x0_0 : Int) (x0_1 : List (Int × Int × Int)) (x0_2 : List (Int)) (x1_0 : Int) (x1_1 : List (Int × Int × Int)) (x1_2 : List (Int)) : Option (Bool) :=
  if (!decide (x0_0 = x1_0)) = true then
    some false
  else
    (laws_eqIntA3S.F n x0_1 x1_1).bind fun r1 =>
    if (!r1) = true then
      some false
    else
      (laws_eqIntS.F n x0_2 x1_2).bind fun r2 =>
      if (!r2) = true then
        some false
      else
        some true

/-- loop.example/g01158/laws.FnExactStatesOf -/
def laws_FnExactStatesOf.F (n : Nat) (x0_0 : Int) (x0_1 : List (Int × Int × Int)) (x0_2 : List (Int)) : Option (Bool) :=
  (laws_szMaze.F n x0_0 x0_1 x0_2 (1048576 : Int)).bind fun r1 =>
  if (decide (r1 < (0 : Int))) = true then
    some true
  else
    (laws_toMaze.F n x0_0 x0_1 x0_2).bind fun r2 =>
    (spec_StatesOf.F n r2.1 r2.2.1 r2.2.2).bind fun r3 =>
    (laws_toMaze.F n x0_0 x0_1 x0_2).bind fun r4 =>
    (impl_StatesOf.F n r4.1 r4.2.1 r4.2.2).bind fun r5 =>
    if (!decide (r5.1 = r3.1)) = true then
      some false
    else
      if (!(r5.2 == r3.2)) = true then
        some false
      else
        (laws_toMaze.F n x0_0 x0_1 x0_2).bind fun r6 =>
        (laws_eqMaze.F n r4.1 r4.2.1 r4.2.2 r6.1 r6.2.1 r6.2.2).bind fun r7 =>
        if (!r7) = true then
          some false
        else
          some true

/-- loop.example/g01158/spec.l2Many -/
def spec_l2Many.l0 (n : Nat) (K : Int → Option (Int)) : Nat → Int → Int → Option (Int)
  | 0, _, _ => none
  | k + 1, x0, x3 =>
    if (decide (x0 > (0 : Int))) = true then
      spec_l2Many.l0 n K k (shR .i64 x0 1) (IntKind.wrap .i64 (x3 + (bitAnd .i64 x0 1)))
    else
      K x3
def spec_l2Many.F (n : Nat) (x0 : Int) : Option (Int) :=
  spec_l2Many.l0 n (fun y1 =>
    some y1) n x0 (0 : Int)

/-- loop.example/g01158/spec.l4Least -/
def spec_l4Least.l0 (n : Nat) (K : Int → Option (Int)) : Nat → (List (Int)) → Int → Int → Int → Int → Int → Option (Int)
  | 0, _, _, _, _, _, _ => none
  | k + 1, x0, x1, x2, x3, x9, x10 =>
    if (decide (x10 < (64 : Int))) = true then
      (spec_l4Id.F n x1 x10).bind fun r1 =>
      if 0 ≤ r1 ∧ r1 < (x0.length : Int) then ((spec_l2Has.F n x10 x2).bind fun r2 =>
      if r2 = true then
        (spec_l2Many.F n x10).bind fun r3 =>
        if (decide (r3 ≤ x3)) = true then
          if (decide ((x0.getD r1.toNat (0 : Int)) ≥ (0 : Int))) = true then
            if (decide (x9 < (0 : Int))) = true then
              spec_l4Least.l0 n K k x0 x1 x2 x3 (x0.getD r1.toNat (0 : Int)) (IntKind.wrap .i64 (x10 + (1 : Int)))
            else
              if (decide ((x0.getD r1.toNat (0 : Int)) < x9)) = true then
                spec_l4Least.l0 n K k x0 x1 x2 x3 (x0.getD r1.toNat (0 : Int)) (IntKind.wrap .i64 (x10 + (1 : Int)))
              else
                spec_l4Least.l0 n K k x0 x1 x2 x3 x9 (IntKind.wrap .i64 (x10 + (1 : Int)))
          else
            spec_l4Least.l0 n K k x0 x1 x2 x3 x9 (IntKind.wrap .i64 (x10 + (1 : Int)))
        else
          spec_l4Least.l0 n K k x0 x1 x2 x3 x9 (IntKind.wrap .i64 (x10 + (1 : Int)))
      else
        spec_l4Least.l0 n K k x0 x1 x2 x3 x9 (IntKind.wrap .i64 (x10 + (1 : Int)))) else none
    else
      K x9
def spec_l4Least.F (n : Nat) (x0 : List (Int)) (x1 : Int) (x2 : Int) (x3 : Int) : Option (Int) :=
  spec_l4Least.l0 n (fun y4 =>
    some y4) n x0 x1 x2 x3 (-1 : Int) (0 : Int)

/-- loop.example/g01158/spec.l1Most -/
def spec_l1Most.F (n : Nat) (x0 : Int) (x1 : Int) : Option (Int) :=
  if (decide (x0 > x1)) = true then
    some x0
  else
    some x1

/-- loop.example/g01158/spec.l4Told -/
def spec_l4Told.F (n : Nat) (x0 : Int) : Option (Int × Bool) :=
  (spec_l1Most.F n x0 (0 : Int)).bind fun r1 =>
  some (r1, (decide (x0 ≥ (0 : Int))))

/-- loop.example/g01158/spec.FewestSteps -/
def spec_FewestSteps.F (n : Nat) (x0_0 : Int) (x0_1 : List (Int × Int × Int)) (x0_2 : List (Int)) : Option (Int × Bool) :=
  (spec_l2Maze.F n x0_0 x0_1 x0_2).bind fun r1 =>
  if (!r1) = true then
    some ((0 : Int), false)
  else
    (spec_l4First.F n x0_0 x0_1 x0_2).bind fun r2 =>
    (spec_l4Least.F n r2 (IntKind.wrap .i64 (x0_0 - (1 : Int))) (0 : Int) (6 : Int)).bind fun r3 =>
    (spec_l4Told.F n r3).bind fun r4 =>
    some (r4.1, r4.2)

/-- loop.example/g01158/impl.anySet -/
def impl_anySet.F (n : Nat) (x0 : Int) : Option (Bool) :=
  some true

/-- loop.example/g01158/impl.better -/
def impl_better.F (n : Nat) (x0 : Int) (x1 : Int) : Option (Bool) :=
  if (decide (x0 ≥ (0 : Int))) = true then
    if (decide (x1 < (0 : Int))) = true then
      some true
    else
      some (decide (x0 < x1))
  else
    some false

/-- (loop.example/g01158/impl.grid).least -/
def impl_grid_least_canySet.l0 (n : Nat) (K : Int → Option (Int)) : Nat → Int → (List Int) → Int → Option (Int)
  | 0, _, _, _ => none
  | k + 1, x7, x12, x13 =>
    if (decide (x13 < (64 : Int))) = true then
      if 0 ≤ x13 ∧ x13 < (64 : Int) then ((impl_anySet.F n x13).bind fun r1 =>
      if r1 = true then
        (impl_better.F n (x12.getD x13.toNat 0) x7).bind fun r2 =>
        if r2 = true then
          impl_grid_least_canySet.l0 n K k (x12.getD x13.toNat 0) x12 (IntKind.wrap .i64 (x13 + (1 : Int)))
        else
          impl_grid_least_canySet.l0 n K k x7 x12 (IntKind.wrap .i64 (x13 + (1 : Int)))
      else
        impl_grid_least_canySet.l0 n K k x7 x12 (IntKind.wrap .i64 (x13 + (1 : Int)))) else none
    else
      K x7
def impl_grid_least_canySet.F (n : Nat) (x0 : List Int) (x1 : Int) : Option (Int) :=
  if 0 ≤ x1 ∧ x1 < (12 : Int) ∧ (0 + (x1.toNat * 64)) < 768 then (if (0 + (x1.toNat * 64)) + 64 ≤ 768 then (impl_grid_least_canySet.l0 n (fun y3 =>
    some y3) n (-1 : Int) ((x0.drop (0 + (x1.toNat * 64))).take 64) (0 : Int)) else none) else none

/-- loop.example/g01158/impl.told -/
def impl_told.F (n : Nat) (x0 : Int) : Option (Int × Bool) :=
  some (if (0 : Int) > x0 then (0 : Int) else x0, (decide (x0 ≥ (0 : Int))))

/-- loop.example/g01158/impl.FewestSteps -/
def impl_FewestSteps.F (n : Nat) (x0_0 : Int) (x0_1 : List (Int × Int × Int)) (x0_2 : List (Int)) : Option (Int × Bool) :=
  (impl_IsMaze.F n x0_0 x0_1 x0_2).bind fun r1 =>
  if (!r1) = true then
    some ((0 : Int), false)
  else
    (impl_fromStart.F n x0_0 x0_1 x0_2).bind fun r2 =>
    (impl_grid_least_canySet.F n r2 (IntKind.wrap .i64 (x0_0 - (1 : Int)))).bind fun r3 =>
    (impl_told.F n r3).bind fun r4 =>
    some (r4.1, r4.2)

/-- loop.example/g01158/laws.FnExactFewestSteps -/
def laws_FnExactFewestSteps.F (n : Nat) (x0_0 : Int) (x0_1 : List (Int × Int × Int)) (x0_2 : List (Int)) : Option (Bool) :=
  (laws_szMaze.F n x0_0 x0_1 x0_2 (1048576 : Int)).bind fun r1 =>
  if (decide (r1 < (0 : Int))) = true then
    some true
  else
    (laws_toMaze.F n x0_0 x0_1 x0_2).bind fun r2 =>
    (spec_FewestSteps.F n r2.1 r2.2.1 r2.2.2).bind fun r3 =>
    (laws_toMaze.F n x0_0 x0_1 x0_2).bind fun r4 =>
    (impl_FewestSteps.F n r4.1 r4.2.1 r4.2.2).bind fun r5 =>
    if (!decide (r5.1 = r3.1)) = true then
      some false
    else
      if (!(r5.2 == r3.2)) = true then
        some false
      else
        (laws_toMaze.F n x0_0 x0_1 x0_2).bind fun r6 =>
        (laws_eqMaze.F n r4.1 r4.2.1 r4.2.2 r6.1 r6.2.1 r6.2.2).bind fun r7 =>
        if (!r7) = true then
          some false
        else
          some true

/-- loop.example/g01158/spec.FewestWith -/
def spec_FewestWith.F (n : Nat) (x0_0 : Int) (x0_1 : List (Int × Int × Int)) (x0_2 : List (Int)) (x1 : Int) : Option (Int × Bool) :=
  (spec_l2Maze.F n x0_0 x0_1 x0_2).bind fun r1 =>
  if (!r1) = true then
    some ((0 : Int), false)
  else
    (spec_l2Set.F n x1).bind fun r2 =>
    if (!r2) = true then
      some ((0 : Int), false)
    else
      (spec_l4First.F n x0_0 x0_1 x0_2).bind fun r3 =>
      (spec_l4Least.F n r3 (IntKind.wrap .i64 (x0_0 - (1 : Int))) x1 (6 : Int)).bind fun r4 =>
      (spec_l4Told.F n r4).bind fun r5 =>
      some (r5.1, r5.2)

/-- loop.example/g01158/impl.asked -/
def impl_asked.F (n : Nat) (x0_0 : Int) (x0_1 : List (Int × Int × Int)) (x0_2 : List (Int)) (x1 : Int) : Option (Bool) :=
  (impl_IsMaze.F n x0_0 x0_1 x0_2).bind fun r1 =>
  if r1 = true then
    (impl_isSet.F n x1).bind fun r2 =>
    some r2
  else
    some false

/-- loop.example/g01158/impl.FewestWith$1 -/
def impl_FewestWith_1_c0.F (n : Nat) (x0 : Int) (x1 : Int) : Option (Bool) :=
  (impl_has.F n x0 x1).bind fun r1 =>
  some r1

/-- (loop.example/g01158/impl.grid).least -/
def impl_grid_least_cFewestWith_1.l0 (n : Nat) (K : Int → Option (Int)) : Nat → Int → Int → (List Int) → Int → Option (Int)
  | 0, _, _, _, _ => none
  | k + 1, x2, x7, x12, x13 =>
    if (decide (x13 < (64 : Int))) = true then
      if 0 ≤ x13 ∧ x13 < (64 : Int) then ((impl_FewestWith_1_c0.F n x13 x2).bind fun r1 =>
      if r1 = true then
        (impl_better.F n (x12.getD x13.toNat 0) x7).bind fun r2 =>
        if r2 = true then
          impl_grid_least_cFewestWith_1.l0 n K k x2 (x12.getD x13.toNat 0) x12 (IntKind.wrap .i64 (x13 + (1 : Int)))
        else
          impl_grid_least_cFewestWith_1.l0 n K k x2 x7 x12 (IntKind.wrap .i64 (x13 + (1 : Int)))
      else
        impl_grid_least_cFewestWith_1.l0 n K k x2 x7 x12 (IntKind.wrap .i64 (x13 + (1 : Int)))) else none
    else
      K x7
def impl_grid_least_cFewestWith_1.F (n : Nat) (x0 : List Int) (x1 : Int) (x2 : Int) : Option (Int) :=
  if 0 ≤ x1 ∧ x1 < (12 : Int) ∧ (0 + (x1.toNat * 64)) < 768 then (if (0 + (x1.toNat * 64)) + 64 ≤ 768 then (impl_grid_least_cFewestWith_1.l0 n (fun y3 =>
    some y3) n x2 (-1 : Int) ((x0.drop (0 + (x1.toNat * 64))).take 64) (0 : Int)) else none) else none

/-- loop.example/g01158/impl.FewestWith -/
def impl_FewestWith.F (n : Nat) (x0_0 : Int) (x0_1 : List (Int × Int × Int)) (x0_2 : List (Int)) (x1 : Int) : Option (Int × Bool) :=
  (impl_asked.F n x0_0 x0_1 x0_2 x1).bind fun r1 =>
  if (!r1) = true then
    some ((0 : Int), false)
  else
    (impl_fromStart.F n x0_0 x0_1 x0_2).bind fun r2 =>
    (impl_grid_least_cFewestWith_1.F n r2 (IntKind.wrap .i64 (x0_0 - (1 : Int))) x1).bind fun r3 =>
    (impl_told.F n r3).bind fun r4 =>
    some (r4.1, r4.2)

/-- loop.example/g01158/laws.FnExactFewestWith -/
def laws_FnExactFewestWith.F (n : Nat) (x0_0 : Int) (x0_1 : List (Int × Int × Int)) (x0_2 : List (Int)) (x1 : Int) : Option (Bool) :=
  (laws_szMaze.F n x0_0 x0_1 x0_2 (1048576 : Int)).bind fun r1 =>
  if (decide (r1 < (0 : Int))) = true then
    some true
  else
    (laws_toMaze.F n x0_0 x0_1 x0_2).bind fun r2 =>
    (spec_FewestWith.F n r2.1 r2.2.1 r2.2.2 x1).bind fun r3 =>
    (laws_toMaze.F n x0_0 x0_1 x0_2).bind fun r4 =>
    (impl_FewestWith.F n r4.1 r4.2.1 r4.2.2 x1).bind fun r5 =>
    if (!decide (r5.1 = r3.1)) = true then
      some false
    else
      if (!(r5.2 == r3.2)) = true then
        some false
      else
        (laws_toMaze.F n x0_0 x0_1 x0_2).bind fun r6 =>
        (laws_eqMaze.F n r4.1 r4.2.1 r4.2.2 r6.1 r6.2.1 r6.2.2).bind fun r7 =>
        if (!r7) = true then
          some false
        else
          some true

/-- loop.example/g01158/spec.DetourOf -/
def spec_DetourOf.F (n : Nat) (x0_0 : Int) (x0_1 : List (Int × Int × Int)) (x0_2 : List (Int)) : Option (Int × Bool) :=
  (spec_FewestSteps.F n x0_0 x0_1 x0_2).bind fun r1 =>
  if (!r1.2) = true then
    some ((0 : Int), false)
  else
    (spec_l4Spread.F n x0_0 x0_1 x0_2 (0 : Int) (63 : Int)).bind fun r2 =>
    (spec_l4Least.F n r2 (IntKind.wrap .i64 (x0_0 - (1 : Int))) (0 : Int) (6 : Int)).bind fun r3 =>
    some (IntKind.wrap .i64 (r1.1 - r3), true)

/-- loop.example/g01158/impl.DetourOf -/
def impl_DetourOf.F (n : Nat) (x0_0 : Int) (x0_1 : List (Int × Int × Int)) (x0_2 : List (Int)) : Option (Int × Bool) :=
  (impl_FewestSteps.F n x0_0 x0_1 x0_2).bind fun r1 =>
  if (!r1.2) = true then
    some ((0 : Int), false)
  else
    (impl_distances.F n x0_0 x0_1 x0_2 (0 : Int) (63 : Int)).bind fun r2 =>
    if 0 ≤ (IntKind.wrap .i64 (x0_0 - (1 : Int))) ∧ (IntKind.wrap .i64 (x0_0 - (1 : Int))) < (12 : Int) then (if 0 ≤ (63 : Int) ∧ (63 : Int) < (64 : Int) then (some (IntKind.wrap .i64 (r1.1 - (((r2.drop (((IntKind.wrap .i64 (x0_0 - (1 : Int))).toNat) * 64)).take 64).getD 63 0)), true)) else none) else none

/-- loop.example/g01158/laws.FnExactDetourOf -/
def laws_FnExactDetourOf.F (n : Nat) (x0_0 : Int) (x0_1 : List (Int × Int × Int)) (x0_2 : List (Int)) : Option (Bool) :=
  (laws_szMaze.F n x0_0 x0_1 x0_2 (1048576 : Int)).bind fun r1 =>
  if (decide (r1 < (0 : Int))) = true then
    some true
  else
    (laws_toMaze.F n x0_0 x0_1 x0_2).bind fun r2 =>
    (spec_DetourOf.F n r2.1 r2.2.1 r2.2.2).bind fun r3 =>
    (laws_toMaze.F n x0_0 x0_1 x0_2).bind fun r4 =>
    (impl_DetourOf.F n r4.1 r4.2.1 r4.2.2).bind fun r5 =>
    if (!decide (r5.1 = r3.1)) = true then
      some false
    else
      if (!(r5.2 == r3.2)) = true then
        some false
      else
        (laws_toMaze.F n x0_0 x0_1 x0_2).bind fun r6 =>
        (laws_eqMaze.F n r4.1 r4.2.1 r4.2.2 r6.1 r6.2.1 r6.2.2).bind fun r7 =>
        if (!r7) = true then
          some false
        else
          some true

/-- loop.example/g01158/spec.StepsTable -/
def spec_StepsTable.l0 (n : Nat) (K : (List (Int)) → Option ((List (Int)) × Bool)) : Nat → Int → (List (Int × Int × Int)) → (List (Int)) → (List (Int)) → (List (Int)) → Int → Option ((List (Int)) × Bool)
  | 0, _, _, _, _, _, _ => none
  | k + 1, x1_0, x1_1, x1_2, x4, x5, x6 =>
    if (decide (x6 < x1_0)) = true then
      (spec_l4Least.F n x5 x6 (0 : Int) (6 : Int)).bind fun r3 =>
      if x4.length + ([r3] : List (Int)).length ≤ 4398046511104 then (spec_StepsTable.l0 n K k x1_0 x1_1 x1_2 (x4 ++ ([r3] : List (Int))) x5 (IntKind.wrap .i64 (x6 + (1 : Int)))) else none
    else
      K x4
def spec_StepsTable.F (n : Nat) (x0_0 : Int) (x0_1 : List (Int × Int × Int)) (x0_2 : List (Int)) : Option ((List (Int)) × Bool) :=
  (spec_l2Maze.F n x0_0 x0_1 x0_2).bind fun r1 =>
  if (!r1) = true then
    some (([] : List (Int)), false)
  else
    (spec_l4First.F n x0_0 x0_1 x0_2).bind fun r2 =>
    spec_StepsTable.l0 n (fun y4 =>
      some (y4, true)) n x0_0 x0_1 x0_2 ([] : List (Int)) r2 (0 : Int)

/-- loop.example/g01158/impl.StepsTable -/
def impl_StepsTable.l0 (n : Nat) (K : (List (Int)) → Option ((List (Int)) × Bool)) : Nat → (List (Int)) → (List Int) → Int → Int → Option ((List (Int)) × Bool)
  | 0, _, _, _, _ => none
  | k + 1, x4, x5, x14, x15 =>
    if (decide (x15 < x14)) = true then
      (impl_grid_least_canySet.F n x5 x15).bind fun r3 =>
      if x4.length + ([r3] : List (Int)).length ≤ 4398046511104 then (impl_StepsTable.l0 n K k (x4 ++ ([r3] : List (Int))) x5 x14 (IntKind.wrap .i64 (x15 + (1 : Int)))) else none
    else
      K x4
def impl_StepsTable.F (n : Nat) (x0_0 : Int) (x0_1 : List (Int × Int × Int)) (x0_2 : List (Int)) : Option ((List (Int)) × Bool) :=
  (impl_IsMaze.F n x0_0 x0_1 x0_2).bind fun r1 =>
  if (!r1) = true then
    some (([] : List (Int)), false)
  else
    (impl_fromStart.F n x0_0 x0_1 x0_2).bind fun r2 =>
    impl_StepsTable.l0 n (fun y4 =>
      some (y4, true)) n ([] : List (Int)) r2 x0_0 (0 : Int)

/-- loop.example/g01158/laws.markIntA3S -/
def laws_markIntA3S.l0 (n : Nat) (K : (List (Int × Int × Int)) → Int → Option (Int × (List (Int × Int × Int)))) : Nat → (List (Int × Int × Int)) → Int → Int → Option (Int × (List (Int × Int × Int)))
  | 0, _, _, _ => none
  | k + 1, x0, x1, x5 =>
    if (decide (x5 < (x0.length : Int))) = true then
      if 0 ≤ x5 ∧ x5 < (x0.length : Int) then (if 0 ≤ x5 ∧ x5 < ((x0.set x5.toNat (x1, (x0.getD x5.toNat ((0 : Int), (0 : Int), (0 : Int))).2.1, (x0.getD x5.toNat ((0 : Int), (0 : Int), (0 : Int))).2.2)).length : Int) then (if 0 ≤ x5 ∧ x5 < (((x0.set x5.toNat (x1, (x0.getD x5.toNat ((0 : Int), (0 : Int), (0 : Int))).2.1, (x0.getD x5.toNat ((0 : Int), (0 : Int), (0 : Int))).2.2)).set x5.toNat (((x0.set x5.toNat (x1, (x0.getD x5.toNat ((0 : Int), (0 : Int), (0 : Int))).2.1, (x0.getD x5.toNat ((0 : Int), (0 : Int), (0 : Int))).2.2)).getD x5.toNat ((0 : Int), (0 : Int), (0 : Int))).1, IntKind.wrap .i64 (x1 + (1 : Int)), ((x0.set x5.toNat (x1, (x0.getD x5.toNat ((0 : Int), (0 : Int), (0 : Int))).2.1, (x0.getD x5.toNat ((0 : Int), (0 : Int), (0 : Int))).2.2)).getD x5.toNat ((0 : Int), (0 : Int), (0 : Int))).2.2)).length : Int) then (laws_markIntA3S.l0 n K k (((x0.set x5.toNat (x1, (x0.getD x5.toNat ((0 : Int), (0 : Int), (0 : Int))).2.1, (x0.getD x5.toNat ((0 : Int), (0 : Int), (0 : Int))).2.2)).set x5.toNat (((x0.set x5.toNat (x1, (x0.getD x5.toNat ((0 : Int), (0 : Int), (0 : Int))).2.1, (x0.getD x5.toNat ((0 : Int), (0 : Int), (0 : Int))).2.2)).getD x5.toNat ((0 : Int), (0 : Int), (0 : Int))).1, IntKind.wrap .i64 (x1 + (1 : Int)), ((x0.set x5.toNat (x1, (x0.getD x5.toNat ((0 : Int), (0 : Int), (0 : Int))).2.1, (x0.getD x5.toNat ((0 : Int), (0 : Int), (0 : Int))).2.2)).getD x5.toNat ((0 : Int), (0 : Int), (0 : Int))).2.2)).set x5.toNat ((((x0.set x5.toNat (x1, (x0.getD x5.toNat ((0 : Int), (0 : Int), (0 : Int))).2.1, (x0.getD x5.toNat ((0 : Int), (0 : Int), (0 : Int))).2.2)).set x5.toNat (((x0.set x5.toNat (x1, (x0.getD x5.toNat ((0 : Int), (0 : Int), (0 : Int))).2.1, (x0.getD x5.toNat ((0 : Int), (0 : Int), (0 : Int))).2.2)).getD x5.toNat ((0 : Int), (0 : Int), (0 : Int))).1, IntKind.wrap .i64 (x1 + (1 : Int)), ((x0.set x5.toNat (x1, (x0.getD x5.toNat ((0 : Int), (0 : Int), (0 : Int))).2.1, (x0.getD x5.toNat ((0 : Int), (0 : Int), (0 : Int))).2.2)).getD x5.toNat ((0 : Int), (0 : Int), (0 : Int))).2.2)).getD x5.toNat ((0 : Int), (0 : Int), (0 : Int))).1, (((x0.set x5.toNat (x1, (x0.getD x5.toNat ((0 : Int), (0 : Int), (0 : Int))).2.1, (x0.getD x5.toNat ((0 : Int), (0 : Int), (0 : Int))).2.2)).set x5.toNat (((x0.set x5.toNat (x1, (x0.getD x5.toNat ((0 : Int), (0 : Int), (0 : Int))).2.1, (x0.getD x5.toNat ((0 : Int), (0 : Int), (0 : Int))).2.2)).getD x5.toNat ((0 : Int), (0 : Int), (0 : Int))).1, IntKind.wrap .i64 (x1 + (1 : Int)), ((x0.set x5.toNat (x1, (x0.getD x5.toNat ((0 : Int), (0 : Int), (0 : Int))).2.1, (x0.getD x5.toNat ((0 : Int), (0 : Int), (0 : Int))).2.2)).getD x5.toNat ((0 : Int), (0 : Int), (0 : Int))).2.2)).getD x5.toNat ((0 : Int), (0 : Int), (0 : Int))).2.1, IntKind.wrap .i64 ((IntKind.wrap .i64 (x1 + (1 : Int))) + (1 : Int)))) (IntKind.wrap .i64 ((IntKind.wrap .i64 ((IntKind.wrap .i64 (x1 + (1 : Int))) + (1 : Int))) + (1 : Int))) (IntKind.wrap .i64 (x5 + (1 : Int)))) else none) else none) else none
    else
      K x0 x1
def laws_markIntA3S.F (n : Nat) (x0 : List (Int × Int × Int)) (x1 : Int) : Option (Int × (List (Int × Int × Int))) :=
  laws_markIntA3S.l0 n (fun y1 y2 =>
    some (y2, y1)) n x0 x1 (0 : Int)

/-- loop.example/g01158/laws.markIntS -/
def laws_markIntS.l0 (n : Nat) (K : (List (Int)) → Int → Option (Int × (List (Int)))) : Nat → (List (Int)) → Int → Int → Option (Int × (List (Int)))
  | 0, _, _, _ => none
  | k + 1, x0, x1, x5 =>
    if (decide (x5 < (x0.length : Int))) = true then
      if 0 ≤ x5 ∧ x5 < (x0.length : Int) then (laws_markIntS.l0 n K k (x0.set x5.toNat x1) (IntKind.wrap .i64 (x1 + (1 : Int))) (IntKind.wrap .i64 (x5 + (1 : Int)))) else none
    else
      K x0 x1
def laws_markIntS.F (n : Nat) (x0 : List (Int)) (x1 : Int) : Option (Int × (List (Int))) :=
  laws_markIntS.l0 n (fun y1 y2 =>
    some (y2, y1)) n x0 x1 (0 : Int)

/-- loop.example/g01158/laws.markMaze -/
def laws_markMaze.F (n : Nat) (x0_0 : Int) (x0_1 : List (Int × Int × Int)) (x0_2 : List (Int)) (x1 : Int) : Option (Int × Int × (List (Int × Int × Int)) × (List (Int))) :=
  (laws_markIntA3S.F n x0_1 x1).bind fun r1 =>
  (laws_markIntS.F n x0_2 r1.1).bind fun r2 =>
  some (r2.1, x0_0, r1.2, r2.2)

/-- loop.example/g01158/laws.heldIntS -/
def laws_heldIntS.l0 (n : Nat) (K : Int → Option (Int)) : Nat → (List (Int)) → Int → Int → Option (Int)
  | 0, _, _, _ => none
  | k + 1, x0, x1, x5 =>
    if (decide (x5 < (x0.length : Int))) = true then
      if 0 ≤ x5 ∧ x5 < (x0.length : Int) then (if (!decide ((x0.getD x5.toNat (0 : Int)) = x1)) = true then
        some (-1 : Int)
      else
        laws_heldIntS.l0 n K k x0 (IntKind.wrap .i64 (x1 + (1 : Int))) (IntKind.wrap .i64 (x5 + (1 : Int)))) else none
    else
      K x1
def laws_heldIntS.F (n : Nat) (x0 : List (Int)) (x1 : Int) : Option (Int) :=
  laws_heldIntS.l0 n (fun y1 =>
    some y1) n x0 x1 (0 : Int)

/-- loop.example/g01158/laws.FnExactStepsTable -/
def laws_FnExactStepsTable.F (n : Nat) (x0_0 : Int) (x0_1 : List (Int × Int × Int)) (x0_2 : List (Int)) : Option (Bool) :=
  (laws_szMaze.F n x0_0 x0_1 x0_2 (1048576 : Int)).bind fun r1 =>
  if (decide (r1 < (0 : Int))) = true then
    some true
  else
    (laws_toMaze.F n x0_0 x0_1 x0_2).bind fun r2 =>
    (spec_StepsTable.F n r2.1 r2.2.1 r2.2.2).bind fun r3 =>
    (laws_toMaze.F n x0_0 x0_1 x0_2).bind fun r4 =>
    (impl_StepsTable.F n r4.1 r4.2.1 r4.2.2).bind fun r5 =>
    let j10 : (Int) → (List (Int × Int × Int)) → (List (Int)) → (List (Int)) → (Bool) → (Int) → (List (Int × Int × Int)) → (List (Int)) → (List (Int)) → (Bool) → Option (Bool) := fun j10_x1_0 j10_x1_1 j10_x1_2 j10_x4 j10_x5 j10_x6_0 j10_x6_1 j10_x6_2 j10_x7 j10_x8 =>
      (laws_toMaze.F n j10_x1_0 j10_x1_1 j10_x1_2).bind fun r7 =>
      (laws_eqMaze.F n j10_x6_0 j10_x6_1 j10_x6_2 r7.1 r7.2.1 r7.2.2).bind fun r8 =>
      if (!r8) = true then
        some false
      else
        (laws_markMaze.F n j10_x6_0 j10_x6_1 j10_x6_2 (1 : Int)).bind fun r9 =>
        let j16 : (Int) → (List (Int × Int × Int)) → (List (Int)) → (List (Int)) → (Bool) → (List (Int)) → Option (Bool) := fun j16_x1_0 j16_x1_1 j16_x1_2 j16_x4 j16_x5 j16_x7 =>
          (laws_markIntS.F n j16_x7 (1 : Int)).bind fun r11 =>
          (laws_heldIntS.F n r11.2 (1 : Int)).bind fun r12 =>
          if (decide (r12 < (0 : Int))) = true then
            some false
          else
            if (!decide (r12 = r11.1)) = true then
              some false
            else
              (laws_toMaze.F n j16_x1_0 j16_x1_1 j16_x1_2).bind fun r13 =>
              (impl_StepsTable.F n r13.1 r13.2.1 r13.2.2).bind fun r14 =>
              (laws_eqIntS.F n r14.1 j16_x4).bind fun r15 =>
              if (!r15) = true then
                some false
              else
                if (!(r14.2 == j16_x5)) = true then
                  some false
                else
                  (laws_heldIntS.F n r11.2 (1 : Int)).bind fun r16 =>
                  if (decide (r16 < (0 : Int))) = true then
                    some false
                  else
                    if (!decide (r16 = r11.1)) = true then
                      some false
                    else
                      some true
        if (decide (r9.1 < (0 : Int))) = true then
          some false
        else
          (laws_eqIntS.F n j10_x7 j10_x4).bind fun r10 =>
          if (!r10) = true then
            some false
          else
            if (!(j10_x8 == j10_x5)) = true then
              some false
            else
              j16 j10_x1_0 j10_x1_1 j10_x1_2 j10_x4 j10_x5 j10_x7
    (laws_eqIntS.F n r5.1 r3.1).bind fun r6 =>
    if (!r6) = true then
      some false
    else
      if (!(r5.2 == r3.2)) = true then
        some false
      else
        j10 x0_0 x0_1 x0_2 r3.1 r3.2 r4.1 r4.2.1 r4.2.2 r5.1 r5.2

/-- loop.example/g01158/spec.l2Taken -/
def spec_l2Taken.l0 (n : Nat) (K : (List (Int)) → Option ((List (Int)) × Bool)) : Nat → (List (Int)) → Int → (List (Int × Int × Int)) → (List (Int)) → (List (Int)) → Int → Int → Option ((List (Int)) × Bool)
  | 0, _, _, _, _, _, _, _ => none
  | k + 1, x1, x2_0, x2_1, x2_2, x6, x7, x8 =>
    if (decide (x8 < (x1.length : Int))) = true then
      if 0 ≤ x8 ∧ x8 < (x1.length : Int) then ((spec_l1In.F n (x1.getD x8.toNat (0 : Int)) (0 : Int) (IntKind.wrap .i64 (x2_0 - (1 : Int)))).bind fun r1 =>
      if (!r1) = true then
        some (([] : List (Int)), false)
      else
        if (decide (x8 = (0 : Int))) = true then
          if 0 ≤ (0 : Int) ∧ (0 : Int) < (x1.length : Int) then (if (!decide ((x1.getD 0 (0 : Int)) = (0 : Int))) = true then
            some (([] : List (Int)), false)
          else
            if (decide (x8 > (0 : Int))) = true then
              if 0 ≤ (IntKind.wrap .i64 (x8 - (1 : Int))) ∧ (IntKind.wrap .i64 (x8 - (1 : Int))) < (x1.length : Int) then (if 0 ≤ x8 ∧ x8 < (x1.length : Int) then ((spec_l2Open.F n x2_0 x2_1 x2_2 (x1.getD ((IntKind.wrap .i64 (x8 - (1 : Int))).toNat) (0 : Int)) (x1.getD x8.toNat (0 : Int)) x7).bind fun r2 =>
              if (!r2) = true then
                some (([] : List (Int)), false)
              else
                if 0 ≤ x8 ∧ x8 < (x1.length : Int) then (if 0 ≤ (x1.getD x8.toNat (0 : Int)) ∧ (x1.getD x8.toNat (0 : Int)) < (x2_2.length : Int) then (if x6.length + ([bitOr .i64 x7 (x2_2.getD ((x1.getD x8.toNat (0 : Int)).toNat) (0 : Int))] : List (Int)).length ≤ 4398046511104 then (spec_l2Taken.l0 n K k x1 x2_0 x2_1 x2_2 (x6 ++ ([bitOr .i64 x7 (x2_2.getD ((x1.getD x8.toNat (0 : Int)).toNat) (0 : Int))] : List (Int))) (bitOr .i64 x7 (x2_2.getD ((x1.getD x8.toNat (0 : Int)).toNat) (0 : Int))) (IntKind.wrap .i64 (x8 + (1 : Int)))) else none) else none) else none) else none) else none
            else
              if 0 ≤ x8 ∧ x8 < (x1.length : Int) then (if 0 ≤ (x1.getD x8.toNat (0 : Int)) ∧ (x1.getD x8.toNat (0 : Int)) < (x2_2.length : Int) then (if x6.length + ([bitOr .i64 x7 (x2_2.getD ((x1.getD x8.toNat (0 : Int)).toNat) (0 : Int))] : List (Int)).length ≤ 4398046511104 then (spec_l2Taken.l0 n K k x1 x2_0 x2_1 x2_2 (x6 ++ ([bitOr .i64 x7 (x2_2.getD ((x1.getD x8.toNat (0 : Int)).toNat) (0 : Int))] : List (Int))) (bitOr .i64 x7 (x2_2.getD ((x1.getD x8.toNat (0 : Int)).toNat) (0 : Int))) (IntKind.wrap .i64 (x8 + (1 : Int)))) else none) else none) else none) else none
        else
          if (decide (x8 > (0 : Int))) = true then
            if 0 ≤ (IntKind.wrap .i64 (x8 - (1 : Int))) ∧ (IntKind.wrap .i64 (x8 - (1 : Int))) < (x1.length : Int) then (if 0 ≤ x8 ∧ x8 < (x1.length : Int) then ((spec_l2Open.F n x2_0 x2_1 x2_2 (x1.getD ((IntKind.wrap .i64 (x8 - (1 : Int))).toNat) (0 : Int)) (x1.getD x8.toNat (0 : Int)) x7).bind fun r3 =>
            if (!r3) = true then
              some (([] : List (Int)), false)
            else
              if 0 ≤ x8 ∧ x8 < (x1.length : Int) then (if 0 ≤ (x1.getD x8.toNat (0 : Int)) ∧ (x1.getD x8.toNat (0 : Int)) < (x2_2.length : Int) then (if x6.length + ([bitOr .i64 x7 (x2_2.getD ((x1.getD x8.toNat (0 : Int)).toNat) (0 : Int))] : List (Int)).length ≤ 4398046511104 then (spec_l2Taken.l0 n K k x1 x2_0 x2_1 x2_2 (x6 ++ ([bitOr .i64 x7 (x2_2.getD ((x1.getD x8.toNat (0 : Int)).toNat) (0 : Int))] : List (Int))) (bitOr .i64 x7 (x2_2.getD ((x1.getD x8.toNat (0 : Int)).toNat) (0 : Int))) (IntKind.wrap .i64 (x8 + (1 : Int)))) else none) else none) else none) else none) else none
          else
            if 0 ≤ x8 ∧ x8 < (x1.length : Int) then (if 0 ≤ (x1.getD x8.toNat (0 : Int)) ∧ (x1.getD x8.toNat (0 : Int)) < (x2_2.length : Int) then (if x6.length + ([bitOr .i64 x7 (x2_2.getD ((x1.getD x8.toNat (0 : Int)).toNat) (0 : Int))] : List (Int)).length ≤ 4398046511104 then (spec_l2Taken.l0 n K k x1 x2_0 x2_1 x2_2 (x6 ++ ([bitOr .i64 x7 (x2_2.getD ((x1.getD x8.toNat (0 : Int)).toNat) (0 : Int))] : List (Int))) (bitOr .i64 x7 (x2_2.getD ((x1.getD x8.toNat (0 : Int)).toNat) (0 : Int))) (IntKind.wrap .i64 (x8 + (1 : Int)))) else none) else none) else none) else none
    else
      K x6
def spec_l2Taken.F (n : Nat) (x0_0 : Int) (x0_1 : List (Int × Int × Int)) (x0_2 : List (Int)) (x1 : List (Int)) : Option ((List (Int)) × Bool) :=
  spec_l2Taken.l0 n (fun y4 =>
    some (y4, (decide ((y4.length : Int) > (0 : Int))))) n x1 x0_0 x0_1 x0_2 ([] : List (Int)) (0 : Int) (0 : Int)

/-- loop.example/g01158/spec.WayBack -/
def spec_WayBack.F (n : Nat) (x0_0 : Int) (x0_1 : List (Int × Int × Int)) (x0_2 : List (Int)) (x1 : List (Int)) : Option (Int × Bool) :=
  (spec_l2Maze.F n x0_0 x0_1 x0_2).bind fun r1 =>
  if (!r1) = true then
    some ((0 : Int), false)
  else
    (spec_l2Taken.F n x0_0 x0_1 x0_2 x1).bind fun r2 =>
    if (!r2.2) = true then
      some ((0 : Int), false)
    else
      if 0 ≤ (IntKind.wrap .i64 ((x1.length : Int) - (1 : Int))) ∧ (IntKind.wrap .i64 ((x1.length : Int) - (1 : Int))) < (x1.length : Int) then (if 0 ≤ (IntKind.wrap .i64 ((x1.length : Int) - (1 : Int))) ∧ (IntKind.wrap .i64 ((x1.length : Int) - (1 : Int))) < (r2.1.length : Int) then ((spec_l4Spread.F n x0_0 x0_1 x0_2 (x1.getD ((IntKind.wrap .i64 ((x1.length : Int) - (1 : Int))).toNat) (0 : Int)) (r2.1.getD ((IntKind.wrap .i64 ((x1.length : Int) - (1 : Int))).toNat) (0 : Int))).bind fun r3 =>
      (spec_l4Least.F n r3 (0 : Int) (0 : Int) (6 : Int)).bind fun r4 =>
      (spec_l4Told.F n r4).bind fun r5 =>
      some (r5.1, r5.2)) else none) else none

/-- loop.example/g01158/impl.taken -/
def impl_taken.l0 (n : Nat) (K : (List (Int)) → Option ((List (Int)) × Bool)) : Nat → (List (Int)) → Int → (List (Int × Int × Int)) → (List (Int)) → (List (Int)) → Int → Int → Int → Option ((List (Int)) × Bool)
  | 0, _, _, _, _, _, _, _, _ => none
  | k + 1, x1, x2_0, x2_1, x2_2, x6, x7, x21, x22 =>
    if (decide (x22 < x21)) = true then
      if 0 ≤ x22 ∧ x22 < (x1.length : Int) then ((impl_within.F n (x1.getD x22.toNat (0 : Int)) (0 : Int) (IntKind.wrap .i64 (x2_0 - (1 : Int)))).bind fun r1 =>
      if (!r1) = true then
        some (([] : List (Int)), false)
      else
        if (decide (x22 > (0 : Int))) = true then
          if 0 ≤ (IntKind.wrap .i64 (x22 - (1 : Int))) ∧ (IntKind.wrap .i64 (x22 - (1 : Int))) < (x1.length : Int) then ((impl_steps.F n x2_0 x2_1 x2_2 (x1.getD ((IntKind.wrap .i64 (x22 - (1 : Int))).toNat) (0 : Int)) x7).bind fun r2 =>
          if (x1.getD x22.toNat (0 : Int)) < 0 then none else (if (decide ((bitAnd .i64 (shR .i64 r2 (x1.getD x22.toNat (0 : Int))) 1) = (0 : Int))) = true then
            some (([] : List (Int)), false)
          else
            if 0 ≤ (x1.getD x22.toNat (0 : Int)) ∧ (x1.getD x22.toNat (0 : Int)) < (x2_2.length : Int) then (if x6.length + ([bitOr .i64 x7 (x2_2.getD ((x1.getD x22.toNat (0 : Int)).toNat) (0 : Int))] : List (Int)).length ≤ 4398046511104 then (impl_taken.l0 n K k x1 x2_0 x2_1 x2_2 (x6 ++ ([bitOr .i64 x7 (x2_2.getD ((x1.getD x22.toNat (0 : Int)).toNat) (0 : Int))] : List (Int))) (bitOr .i64 x7 (x2_2.getD ((x1.getD x22.toNat (0 : Int)).toNat) (0 : Int))) x21 (IntKind.wrap .i64 (x22 + (1 : Int)))) else none) else none)) else none
        else
          if 0 ≤ (x1.getD x22.toNat (0 : Int)) ∧ (x1.getD x22.toNat (0 : Int)) < (x2_2.length : Int) then (if x6.length + ([bitOr .i64 x7 (x2_2.getD ((x1.getD x22.toNat (0 : Int)).toNat) (0 : Int))] : List (Int)).length ≤ 4398046511104 then (impl_taken.l0 n K k x1 x2_0 x2_1 x2_2 (x6 ++ ([bitOr .i64 x7 (x2_2.getD ((x1.getD x22.toNat (0 : Int)).toNat) (0 : Int))] : List (Int))) (bitOr .i64 x7 (x2_2.getD ((x1.getD x22.toNat (0 : Int)).toNat) (0 : Int))) x21 (IntKind.wrap .i64 (x22 + (1 : Int)))) else none) else none) else none
    else
      K x6
def impl_taken.F (n : Nat) (x0_0 : Int) (x0_1 : List (Int × Int × Int)) (x0_2 : List (Int)) (x1 : List (Int)) : Option ((List (Int)) × Bool) :=
  let j3 : (List (Int)) → (Int) → (List (Int × Int × Int)) → (List (Int)) → Option ((List (Int)) × Bool) := fun j3_x1 j3_x2_0 j3_x2_1 j3_x2_2 =>
    impl_taken.l0 n (fun y3 =>
      some (y3, true)) n j3_x1 j3_x2_0 j3_x2_1 j3_x2_2 ([] : List (Int)) (0 : Int) (j3_x1.length : Int) (0 : Int)
  if (decide ((x1.length : Int) = (0 : Int))) = true then
    some (([] : List (Int)), false)
  else
    if 0 ≤ (0 : Int) ∧ (0 : Int) < (x1.length : Int) then (if (!decide ((x1.getD 0 (0 : Int)) = (0 : Int))) = true then
      some (([] : List (Int)), false)
    else
      j3 x1 x0_0 x0_1 x0_2) else none

/-- loop.example/g01158/impl.TakenOn -/
def impl_TakenOn.F (n : Nat) (x0_0 : Int) (x0_1 : List (Int × Int × Int)) (x0_2 : List (Int)) (x1 : List (Int)) : Option ((List (Int)) × Bool) :=
  (impl_IsMaze.F n x0_0 x0_1 x0_2).bind fun r1 =>
  if (!r1) = true then
    some (([] : List (Int)), false)
  else
    (impl_taken.F n x0_0 x0_1 x0_2 x1).bind fun r2 =>
    some (r2.1, r2.2)

/-- loop.example/g01158/impl.WayBack -/
def impl_WayBack.F (n : Nat) (x0_0 : Int) (x0_1 : List (Int × Int × Int)) (x0_2 : List (Int)) (x1 : List (Int)) : Option (Int × Bool) :=
  (impl_TakenOn.F n x0_0 x0_1 x0_2 x1).bind fun r1 =>
  if (!r1.2) = true then
    some ((0 : Int), false)
  else
    if 0 ≤ (IntKind.wrap .i64 ((x1.length : Int) - (1 : Int))) ∧ (IntKind.wrap .i64 ((x1.length : Int) - (1 : Int))) < (x1.length : Int) then (if 0 ≤ (IntKind.wrap .i64 ((x1.length : Int) - (1 : Int))) ∧ (IntKind.wrap .i64 ((x1.length : Int) - (1 : Int))) < (r1.1.length : Int) then ((impl_distances.F n x0_0 x0_1 x0_2 (x1.getD ((IntKind.wrap .i64 ((x1.length : Int) - (1 : Int))).toNat) (0 : Int)) (r1.1.getD ((IntKind.wrap .i64 ((x1.length : Int) - (1 : Int))).toNat) (0 : Int))).bind fun r2 =>
    (impl_grid_least_canySet.F n r2 (0 : Int)).bind fun r3 =>
    (impl_told.F n r3).bind fun r4 =>
    some (r4.1, r4.2)) else none) else none

/-- loop.example/g01158/laws.FnExactWayBack -/
def laws_FnExactWayBack.F (n : Nat) (x0_0 : Int) (x0_1 : List (Int × Int × Int)) (x0_2 : List (Int)) (x1 : List (Int)) : Option (Bool) :=
  if (decide ((x1.length : Int) > (1048576 : Int))) = true then
    some true
  else
    (laws_szMaze.F n x0_0 x0_1 x0_2 (1048576 : Int)).bind fun r1 =>
    if (decide (r1 < (0 : Int))) = true then
      some true
    else
      (laws_toMaze.F n x0_0 x0_1 x0_2).bind fun r2 =>
      (laws_toIntS.F n x1).bind fun r3 =>
      (spec_WayBack.F n r2.1 r2.2.1 r2.2.2 r3).bind fun r4 =>
      (laws_toMaze.F n x0_0 x0_1 x0_2).bind fun r5 =>
      (laws_toIntS.F n x1).bind fun r6 =>
      (impl_WayBack.F n r5.1 r5.2.1 r5.2.2 r6).bind fun r7 =>
      if (!decide (r7.1 = r4.1)) = true then
        some false
      else
        if (!(r7.2 == r4.2)) = true then
          some false
        else
          (laws_toMaze.F n x0_0 x0_1 x0_2).bind fun r8 =>
          (laws_eqMaze.F n r5.1 r5.2.1 r5.2.2 r8.1 r8.2.1 r8.2.2).bind fun r9 =>
          if (!r9) = true then
            some false
          else
            (laws_toIntS.F n x1).bind fun r10 =>
            (laws_eqIntS.F n r6 r10).bind fun r11 =>
            if (!r11) = true then
              some false
            else
              some true

/-- loop.example/g01158/spec.FewestKeys -/
def spec_FewestKeys.l0 (n : Nat) (K : Unit → Option (Int × Bool)) : Nat → Int → (List (Int × Int × Int)) → (List (Int)) → (List (Int)) → Int → Option (Int × Bool)
  | 0, _, _, _, _, _ => none
  | k + 1, x1_0, x1_1, x1_2, x4, x5 =>
    if (decide (x5 ≤ (6 : Int))) = true then
      (spec_l4Least.F n x4 (IntKind.wrap .i64 (x1_0 - (1 : Int))) (0 : Int) x5).bind fun r3 =>
      if (decide (r3 ≥ (0 : Int))) = true then
        some (x5, true)
      else
        spec_FewestKeys.l0 n K k x1_0 x1_1 x1_2 x4 (IntKind.wrap .i64 (x5 + (1 : Int)))
    else
      K ()
def spec_FewestKeys.F (n : Nat) (x0_0 : Int) (x0_1 : List (Int × Int × Int)) (x0_2 : List (Int)) : Option (Int × Bool) :=
  (spec_l2Maze.F n x0_0 x0_1 x0_2).bind fun r1 =>
  if (!r1) = true then
    some ((0 : Int), false)
  else
    (spec_l4First.F n x0_0 x0_1 x0_2).bind fun r2 =>
    spec_FewestKeys.l0 n (fun _ =>
      some ((0 : Int), false)) n x0_0 x0_1 x0_2 r2 (0 : Int)

/-- math/bits.OnesCount64 -/
def math_bits_OnesCount64.F (n : Nat) (x0 : Int) : Option (Int) :=
  some (bitAnd .i64 (IntKind.wrap .i64 (IntKind.wrap .u64 ((IntKind.wrap .u64 ((IntKind.wrap .u64 ((bitAnd .u64 (IntKind.wrap .u64 ((shR .u64 (IntKind.wrap .u64 ((bitAnd .u64 (shR .u64 (IntKind.wrap .u64 ((bitAnd .u64 (shR .u64 x0 1) 6148914691236517205) + (bitAnd .u64 x0 6148914691236517205))) 2) 3689348814741910323) + (bitAnd .u64 (IntKind.wrap .u64 ((bitAnd .u64 (shR .u64 x0 1) 6148914691236517205) + (bitAnd .u64 x0 6148914691236517205))) 3689348814741910323))) 4) + (IntKind.wrap .u64 ((bitAnd .u64 (shR .u64 (IntKind.wrap .u64 ((bitAnd .u64 (shR .u64 x0 1) 6148914691236517205) + (bitAnd .u64 x0 6148914691236517205))) 2) 3689348814741910323) + (bitAnd .u64 (IntKind.wrap .u64 ((bitAnd .u64 (shR .u64 x0 1) 6148914691236517205) + (bitAnd .u64 x0 6148914691236517205))) 3689348814741910323))))) 1085102592571150095) + (shR .u64 (bitAnd .u64 (IntKind.wrap .u64 ((shR .u64 (IntKind.wrap .u64 ((bitAnd .u64 (shR .u64 (IntKind.wrap .u64 ((bitAnd .u64 (shR .u64 x0 1) 6148914691236517205) + (bitAnd .u64 x0 6148914691236517205))) 2) 3689348814741910323) + (bitAnd .u64 (IntKind.wrap .u64 ((bitAnd .u64 (shR .u64 x0 1) 6148914691236517205) + (bitAnd .u64 x0 6148914691236517205))) 3689348814741910323))) 4) + (IntKind.wrap .u64 ((bitAnd .u64 (shR .u64 (IntKind.wrap .u64 ((bitAnd .u64 (shR .u64 x0 1) 6148914691236517205) + (bitAnd .u64 x0 6148914691236517205))) 2) 3689348814741910323) + (bitAnd .u64 (IntKind.wrap .u64 ((bitAnd .u64 (shR .u64 x0 1) 6148914691236517205) + (bitAnd .u64 x0 6148914691236517205))) 3689348814741910323))))) 1085102592571150095) 8))) + (shR .u64 (IntKind.wrap .u64 ((bitAnd .u64 (IntKind.wrap .u64 ((shR .u64 (IntKind.wrap .u64 ((bitAnd .u64 (shR .u64 (IntKind.wrap .u64 ((bitAnd .u64 (shR .u64 x0 1) 6148914691236517205) + (bitAnd .u64 x0 6148914691236517205))) 2) 3689348814741910323) + (bitAnd .u64 (IntKind.wrap .u64 ((bitAnd .u64 (shR .u64 x0 1) 6148914691236517205) + (bitAnd .u64 x0 6148914691236517205))) 3689348814741910323))) 4) + (IntKind.wrap .u64 ((bitAnd .u64 (shR .u64 (IntKind.wrap .u64 ((bitAnd .u64 (shR .u64 x0 1) 6148914691236517205) + (bitAnd .u64 x0 6148914691236517205))) 2) 3689348814741910323) + (bitAnd .u64 (IntKind.wrap .u64 ((bitAnd .u64 (shR .u64 x0 1) 6148914691236517205) + (bitAnd .u64 x0 6148914691236517205))) 3689348814741910323))))) 1085102592571150095) + (shR .u64 (bitAnd .u64 (IntKind.wrap .u64 ((shR .u64 (IntKind.wrap .u64 ((bitAnd .u64 (shR .u64 (IntKind.wrap .u64 ((bitAnd .u64 (shR .u64 x0 1) 6148914691236517205) + (bitAnd .u64 x0 6148914691236517205))) 2) 3689348814741910323) + (bitAnd .u64 (IntKind.wrap .u64 ((bitAnd .u64 (shR .u64 x0 1) 6148914691236517205) + (bitAnd .u64 x0 6148914691236517205))) 3689348814741910323))) 4) + (IntKind.wrap .u64 ((bitAnd .u64 (shR .u64 (IntKind.wrap .u64 ((bitAnd .u64 (shR .u64 x0 1) 6148914691236517205) + (bitAnd .u64 x0 6148914691236517205))) 2) 3689348814741910323) + (bitAnd .u64 (IntKind.wrap .u64 ((bitAnd .u64 (shR .u64 x0 1) 6148914691236517205) + (bitAnd .u64 x0 6148914691236517205))) 3689348814741910323))))) 1085102592571150095) 8))) 16))) + (shR .u64 (IntKind.wrap .u64 ((IntKind.wrap .u64 ((bitAnd .u64 (IntKind.wrap .u64 ((shR .u64 (IntKind.wrap .u64 ((bitAnd .u64 (shR .u64 (IntKind.wrap .u64 ((bitAnd .u64 (shR .u64 x0 1) 6148914691236517205) + (bitAnd .u64 x0 6148914691236517205))) 2) 3689348814741910323) + (bitAnd .u64 (IntKind.wrap .u64 ((bitAnd .u64 (shR .u64 x0 1) 6148914691236517205) + (bitAnd .u64 x0 6148914691236517205))) 3689348814741910323))) 4) + (IntKind.wrap .u64 ((bitAnd .u64 (shR .u64 (IntKind.wrap .u64 ((bitAnd .u64 (shR .u64 x0 1) 6148914691236517205) + (bitAnd .u64 x0 6148914691236517205))) 2) 3689348814741910323) + (bitAnd .u64 (IntKind.wrap .u64 ((bitAnd .u64 (shR .u64 x0 1) 6148914691236517205) + (bitAnd .u64 x0 6148914691236517205))) 3689348814741910323))))) 1085102592571150095) + (shR .u64 (bitAnd .u64 (IntKind.wrap .u64 ((shR .u64 (IntKind.wrap .u64 ((bitAnd .u64 (shR .u64 (IntKind.wrap .u64 ((bitAnd .u64 (shR .u64 x0 1) 6148914691236517205) + (bitAnd .u64 x0 6148914691236517205))) 2) 3689348814741910323) + (bitAnd .u64 (IntKind.wrap .u64 ((bitAnd .u64 (shR .u64 x0 1) 6148914691236517205) + (bitAnd .u64 x0 6148914691236517205))) 3689348814741910323))) 4) + (IntKind.wrap .u64 ((bitAnd .u64 (shR .u64 (IntKind.wrap .u64 ((bitAnd .u64 (shR .u64 x0 1) 6148914691236517205) + (bitAnd .u64 x0 6148914691236517205))) 2) 3689348814741910323) + (bitAnd .u64 (IntKind.wrap .u64 ((bitAnd .u64 (shR .u64 x0 1) 6148914691236517205) + (bitAnd .u64 x0 6148914691236517205))) 3689348814741910323))))) 1085102592571150095) 8))) + (shR .u64 (IntKind.wrap .u64 ((bitAnd .u64 (IntKind.wrap .u64 ((shR .u64 (IntKind.wrap .u64 ((bitAnd .u64 (shR .u64 (IntKind.wrap .u64 ((bitAnd .u64 (shR .u64 x0 1) 6148914691236517205) + (bitAnd .u64 x0 6148914691236517205))) 2) 3689348814741910323) + (bitAnd .u64 (IntKind.wrap .u64 ((bitAnd .u64 (shR .u64 x0 1) 6148914691236517205) + (bitAnd .u64 x0 6148914691236517205))) 3689348814741910323))) 4) + (IntKind.wrap .u64 ((bitAnd .u64 (shR .u64 (IntKind.wrap .u64 ((bitAnd .u64 (shR .u64 x0 1) 6148914691236517205) + (bitAnd .u64 x0 6148914691236517205))) 2) 3689348814741910323) + (bitAnd .u64 (IntKind.wrap .u64 ((bitAnd .u64 (shR .u64 x0 1) 6148914691236517205) + (bitAnd .u64 x0 6148914691236517205))) 3689348814741910323))))) 1085102592571150095) + (shR .u64 (bitAnd .u64 (IntKind.wrap .u64 ((shR .u64 (IntKind.wrap .u64 ((bitAnd .u64 (shR .u64 (IntKind.wrap .u64 ((bitAnd .u64 (shR .u64 x0 1) 6148914691236517205) + (bitAnd .u64 x0 6148914691236517205))) 2) 3689348814741910323) + (bitAnd .u64 (IntKind.wrap .u64 ((bitAnd .u64 (shR .u64 x0 1) 6148914691236517205) + (bitAnd .u64 x0 6148914691236517205))) 3689348814741910323))) 4) + (IntKind.wrap .u64 ((bitAnd .u64 (shR .u64 (IntKind.wrap .u64 ((bitAnd .u64 (shR .u64 x0 1) 6148914691236517205) + (bitAnd .u64 x0 6148914691236517205))) 2) 3689348814741910323) + (bitAnd .u64 (IntKind.wrap .u64 ((bitAnd .u64 (shR .u64 x0 1) 6148914691236517205) + (bitAnd .u64 x0 6148914691236517205))) 3689348814741910323))))) 1085102592571150095) 8))) 16))) 32)))) 127)

/-- math/bits.OnesCount -/
def math_bits_OnesCount.F (n : Nat) (x0 : Int) : Option (Int) :=
  (math_bits_OnesCount64.F n x0).bind fun r1 =>
  some r1

/-- loop.example/g01158/impl.stepsAndKeys$1 -/
def impl_stepsAndKeys_1_c0.F (n : Nat) (x0 : Int) (x1 : Int) : Option (Bool) :=
  (math_bits_OnesCount.F n (IntKind.wrap .u64 x0)).bind fun r1 =>
  some (decide (r1 ≤ x1))

/-- (loop.example/g01158/impl.grid).least -/
def impl_grid_least_cstepsAndKeys_1.l0 (n : Nat) (K : Int → Option (Int)) : Nat → Int → Int → (List Int) → Int → Option (Int)
  | 0, _, _, _, _ => none
  | k + 1, x2, x7, x12, x13 =>
    if (decide (x13 < (64 : Int))) = true then
      if 0 ≤ x13 ∧ x13 < (64 : Int) then ((impl_stepsAndKeys_1_c0.F n x13 x2).bind fun r1 =>
      if r1 = true then
        (impl_better.F n (x12.getD x13.toNat 0) x7).bind fun r2 =>
        if r2 = true then
          impl_grid_least_cstepsAndKeys_1.l0 n K k x2 (x12.getD x13.toNat 0) x12 (IntKind.wrap .i64 (x13 + (1 : Int)))
        else
          impl_grid_least_cstepsAndKeys_1.l0 n K k x2 x7 x12 (IntKind.wrap .i64 (x13 + (1 : Int)))
      else
        impl_grid_least_cstepsAndKeys_1.l0 n K k x2 x7 x12 (IntKind.wrap .i64 (x13 + (1 : Int)))) else none
    else
      K x7
def impl_grid_least_cstepsAndKeys_1.F (n : Nat) (x0 : List Int) (x1 : Int) (x2 : Int) : Option (Int) :=
  if 0 ≤ x1 ∧ x1 < (12 : Int) ∧ (0 + (x1.toNat * 64)) < 768 then (if (0 + (x1.toNat * 64)) + 64 ≤ 768 then (impl_grid_least_cstepsAndKeys_1.l0 n (fun y3 =>
    some y3) n x2 (-1 : Int) ((x0.drop (0 + (x1.toNat * 64))).take 64) (0 : Int)) else none) else none

/-- loop.example/g01158/impl.stepsAndKeys -/
def impl_stepsAndKeys.l0 (n : Nat) (K : (List (Int)) → Option ((List (Int)))) : Nat → Int → (List (Int × Int × Int)) → (List (Int)) → (List (Int)) → (List Int) → Int → Option ((List (Int)))
  | 0, _, _, _, _, _, _ => none
  | k + 1, x1_0, x1_1, x1_2, x3, x4, x9 =>
    if (decide (x9 < (7 : Int))) = true then
      (impl_grid_least_cstepsAndKeys_1.F n x4 (IntKind.wrap .i64 (x1_0 - (1 : Int))) x9).bind fun r2 =>
      if x3.length + ([r2] : List (Int)).length ≤ 4398046511104 then (impl_stepsAndKeys.l0 n K k x1_0 x1_1 x1_2 (x3 ++ ([r2] : List (Int))) x4 (IntKind.wrap .i64 (x9 + (1 : Int)))) else none
    else
      K x3
def impl_stepsAndKeys.F (n : Nat) (x0_0 : Int) (x0_1 : List (Int × Int × Int)) (x0_2 : List (Int)) : Option ((List (Int))) :=
  (impl_fromStart.F n x0_0 x0_1 x0_2).bind fun r1 =>
  impl_stepsAndKeys.l0 n (fun y3 =>
    some y3) n x0_0 x0_1 x0_2 ([] : List (Int)) r1 (0 : Int)

/-- loop.example/g01158/impl.FewestKeys$1 -/
def impl_FewestKeys_1.F (n : Nat) (x0 : Int) : Option (Bool) :=
  some (decide (x0 ≥ (0 : Int)))

/-- slices.IndexFunc[[]int,int] -/
def slices_IndexFunc_int_int_cFewestKeys_1.l0 (n : Nat) (K : Unit → Option (Int)) : Nat → (List (Int)) → Int → Int → Option (Int)
  | 0, _, _, _ => none
  | k + 1, x0, x7, x8 =>
    if (decide (x8 < x7)) = true then
      if 0 ≤ x8 ∧ x8 < (x0.length : Int) then ((impl_FewestKeys_1.F n (x0.getD x8.toNat (0 : Int))).bind fun r1 =>
      if r1 = true then
        some x8
      else
        slices_IndexFunc_int_int_cFewestKeys_1.l0 n K k x0 x7 (IntKind.wrap .i64 (x8 + (1 : Int)))) else none
    else
      K ()
def slices_IndexFunc_int_int_cFewestKeys_1.F (n : Nat) (x0 : List (Int)) : Option (Int) :=
  slices_IndexFunc_int_int_cFewestKeys_1.l0 n (fun _ =>
    some (-1 : Int)) n x0 (x0.length : Int) (0 : Int)

/-- loop.example/g01158/impl.FewestKeys -/
def impl_FewestKeys.F (n : Nat) (x0_0 : Int) (x0_1 : List (Int × Int × Int)) (x0_2 : List (Int)) : Option (Int × Bool) :=
  (impl_IsMaze.F n x0_0 x0_1 x0_2).bind fun r1 =>
  if (!r1) = true then
    some ((0 : Int), false)
  else
    (impl_stepsAndKeys.F n x0_0 x0_1 x0_2).bind fun r2 =>
    (slices_IndexFunc_int_int_cFewestKeys_1.F n r2).bind fun r3 =>
    (impl_told.F n r3).bind fun r4 =>
    some (r4.1, r4.2)

/-- loop.example/g01158/laws.FnExactFewestKeys -/
def laws_FnExactFewestKeys.F (n : Nat) (x0_0 : Int) (x0_1 : List (Int × Int × Int)) (x0_2 : List (Int)) : Option (Bool) :=
  (laws_szMaze.F n x0_0 x0_1 x0_2 (1048576 : Int)).bind fun r1 =>
  if (decide (r1 < (0 : Int))) = true then
    some true
  else
    (laws_toMaze.F n x0_0 x0_1 x0_2).bind fun r2 =>
    (spec_FewestKeys.F n r2.1 r2.2.1 r2.2.2).bind fun r3 =>
    (laws_toMaze.F n x0_0 x0_1 x0_2).bind fun r4 =>
    (impl_FewestKeys.F n r4.1 r4.2.1 r4.2.2).bind fun r5 =>
    if (!decide (r5.1 = r3.1)) = true then
      some false
    else
      if (!(r5.2 == r3.2)) = true then
        some false
      else
        (laws_toMaze.F n x0_0 x0_1 x0_2).bind fun r6 =>
        (laws_eqMaze.F n r4.1 r4.2.1 r4.2.2 r6.1 r6.2.1 r6.2.2).bind fun r7 =>
        if (!r7) = true then
          some false
        else
          some true

/-- loop.example/g01158/spec.StepsAndKeys -/
def spec_StepsAndKeys.l0 (n : Nat) (K : (List (Int)) → Option ((List (Int)) × Bool)) : Nat → Int → (List (Int × Int × Int)) → (List (Int)) → (List (Int)) → (List (Int)) → Int → Option ((List (Int)) × Bool)
  | 0, _, _, _, _, _, _ => none
  | k + 1, x1_0, x1_1, x1_2, x4, x5, x6 =>
    if (decide (x6 ≤ (6 : Int))) = true then
      (spec_l4Least.F n x5 (IntKind.wrap .i64 (x1_0 - (1 : Int))) (0 : Int) x6).bind fun r3 =>
      if x4.length + ([r3] : List (Int)).length ≤ 4398046511104 then (spec_StepsAndKeys.l0 n K k x1_0 x1_1 x1_2 (x4 ++ ([r3] : List (Int))) x5 (IntKind.wrap .i64 (x6 + (1 : Int)))) else none
    else
      K x4
def spec_StepsAndKeys.F (n : Nat) (x0_0 : Int) (x0_1 : List (Int × Int × Int)) (x0_2 : List (Int)) : Option ((List (Int)) × Bool) :=
  (spec_l2Maze.F n x0_0 x0_1 x0_2).bind fun r1 =>
  if (!r1) = true then
    some (([] : List (Int)), false)
  else
    (spec_l4First.F n x0_0 x0_1 x0_2).bind fun r2 =>
    spec_StepsAndKeys.l0 n (fun y4 =>
      some (y4, true)) n x0_0 x0_1 x0_2 ([] : List (Int)) r2 (0 : Int)

/-- loop.example/g01158/impl.StepsAndKeys -/
def impl_StepsAndKeys.F (n : Nat) (x0_0 : Int) (x0_1 : List (Int × Int × Int)) (x0_2 : List (Int)) : Option ((List (Int)) × Bool) :=
  (impl_IsMaze.F n x0_0 x0_1 x0_2).bind fun r1 =>
  if (!r1) = true then
    some (([] : List (Int)), false)
  else
    (impl_stepsAndKeys.F n x0_0 x0_1 x0_2).bind fun r2 =>
    some (r2, true)

/-- loop.example/g01158/laws.FnExactStepsAndKeys -/
def laws_FnExactStepsAndKeys.F (n : Nat) (x0_0 : Int) (x0_1 : List (Int × Int × Int)) (x0_2 : List (Int)) : Option (Bool) :=
  (laws_szMaze.F n x0_0 x0_1 x0_2 (1048576 : Int)).bind fun r1 =>
  if (decide (r1 < (0 : Int))) = true then
    some true
  else
    (laws_toMaze.F n x0_0 x0_1 x0_2).bind fun r2 =>
    (spec_StepsAndKeys.F n r2.1 r2.2.1 r2.2.2).bind fun r3 =>
    (laws_toMaze.F n x0_0 x0_1 x0_2).bind fun r4 =>
    (impl_StepsAndKeys.F n r4.1 r4.2.1 r4.2.2).bind fun r5 =>
    let j10 : (Int) → (List (Int × Int × Int)) → (List (Int)) → (List (Int)) → (Bool) → (Int) → (List (Int × Int × Int)) → (List (Int)) → (List (Int)) → (Bool) → Option (Bool) := fun j10_x1_0 j10_x1_1 j10_x1_2 j10_x4 j10_x5 j10_x6_0 j10_x6_1 j10_x6_2 j10_x7 j10_x8 =>
      (laws_toMaze.F n j10_x1_0 j10_x1_1 j10_x1_2).bind fun r7 =>
      (laws_eqMaze.F n j10_x6_0 j10_x6_1 j10_x6_2 r7.1 r7.2.1 r7.2.2).bind fun r8 =>
      if (!r8) = true then
        some false
      else
        (laws_markMaze.F n j10_x6_0 j10_x6_1 j10_x6_2 (1 : Int)).bind fun r9 =>
        let j16 : (Int) → (List (Int × Int × Int)) → (List (Int)) → (List (Int)) → (Bool) → (List (Int)) → Option (Bool) := fun j16_x1_0 j16_x1_1 j16_x1_2 j16_x4 j16_x5 j16_x7 =>
          (laws_markIntS.F n j16_x7 (1 : Int)).bind fun r11 =>
          (laws_heldIntS.F n r11.2 (1 : Int)).bind fun r12 =>
          if (decide (r12 < (0 : Int))) = true then
            some false
          else
            if (!decide (r12 = r11.1)) = true then
              some false
            else
              (laws_toMaze.F n j16_x1_0 j16_x1_1 j16_x1_2).bind fun r13 =>
              (impl_StepsAndKeys.F n r13.1 r13.2.1 r13.2.2).bind fun r14 =>
              (laws_eqIntS.F n r14.1 j16_x4).bind fun r15 =>
              if (!r15) = true then
                some false
              else
                if (!(r14.2 == j16_x5)) = true then
                  some false
                else
                  (laws_heldIntS.F n r11.2 (1 : Int)).bind fun r16 =>
                  if (decide (r16 < (0 : Int))) = true then
                    some false
                  else
                    if (!decide (r16 = r11.1)) = true then
                      some false
                    else
                      some true
        if (decide (r9.1 < (0 : Int))) = true then
          some false
        else
          (laws_eqIntS.F n j10_x7 j10_x4).bind fun r10 =>
          if (!r10) = true then
            some false
          else
            if (!(j10_x8 == j10_x5)) = true then
              some false
            else
              j16 j10_x1_0 j10_x1_1 j10_x1_2 j10_x4 j10_x5 j10_x7
    (laws_eqIntS.F n r5.1 r3.1).bind fun r6 =>
    if (!r6) = true then
      some false
    else
      if (!(r5.2 == r3.2)) = true then
        some false
      else
        j10 x0_0 x0_1 x0_2 r3.1 r3.2 r4.1 r4.2.1 r4.2.2 r5.1 r5.2

end Go.Pf
