/- The pure functions of this seat's Go functions, as a program of mine (mach.py) printed them. -/
import Derived.Test.YtnnonephkmikmaaFw1
set_option linter.unusedVariables false
set_option autoImplicit false
namespace Go.Pf
open Go Go.Fx

/-- loop.example/g01158/laws.szIntA3S -/
def laws_szIntA3S.F (n : Nat) (x0 : List (Int × Int × Int)) (x1 : Int) : Option (Int) :=
  if (decide ((IntKind.wrap .i64 (x1 - (x0.length : Int))) < (0 : Int))) = true then
    some (-1 : Int)
  else
    some (IntKind.wrap .i64 (x1 - (x0.length : Int)))

/-- loop.example/g01158/laws.szIntS -/
def laws_szIntS.F (n : Nat) (x0 : List (Int)) (x1 : Int) : Option (Int) :=
  if (decide ((IntKind.wrap .i64 (x1 - (x0.length : Int))) < (0 : Int))) = true then
    some (-1 : Int)
  else
    some (IntKind.wrap .i64 (x1 - (x0.length : Int)))

/-- loop.example/g01158/laws.szMaze -/
def laws_szMaze.F (n : Nat) (x0_0 : Int) (x0_1 : List (Int × Int × Int)) (x0_2 : List (Int)) (x1 : Int) : Option (Int) :=
  (laws_szIntA3S.F n x0_1 x1).bind fun r1 =>
  if (decide (r1 < (0 : Int))) = true then
    some (-1 : Int)
  else
    (laws_szIntS.F n x0_2 r1).bind fun r2 =>
    if (decide (r2 < (0 : Int))) = true then
      some (-1 : Int)
    else
      some r2

/-- loop.example/g01158/laws.toIntA3 -/
def laws_toIntA3.F (n : Nat) (x0_0 : Int) (x0_1 : Int) (x0_2 : Int) : Option (Int × Int × Int) :=
  some (x0_0, x0_1, x0_2)

/-- loop.example/g01158/laws.toIntA3S -/
def laws_toIntA3S.l0 (n : Nat) (K : (List (Int × Int × Int)) → Option ((List (Int × Int × Int)))) : Nat → (List (Int × Int × Int)) → (List (Int × Int × Int)) → Int → Option ((List (Int × Int × Int)))
  | 0, _, _, _ => none
  | k + 1, x0, x3, x4 =>
    if (decide (x4 < (x0.length : Int))) = true then
      if 0 ≤ x4 ∧ x4 < (x0.length : Int) then ((laws_toIntA3.F n ((x0.getD x4.toNat ((0 : Int), (0 : Int), (0 : Int))).1) ((x0.getD x4.toNat ((0 : Int), (0 : Int), (0 : Int))).2.1) ((x0.getD x4.toNat ((0 : Int), (0 : Int), (0 : Int))).2.2)).bind fun r1 =>
      if 0 ≤ x4 ∧ x4 < (x3.length : Int) then (laws_toIntA3S.l0 n K k x0 (x3.set x4.toNat r1) (IntKind.wrap .i64 (x4 + (1 : Int)))) else none) else none
    else
      K x3
def laws_toIntA3S.F (n : Nat) (x0 : List (Int × Int × Int)) : Option ((List (Int × Int × Int))) :=
  if 0 ≤ (x0.length : Int) ∧ (x0.length : Int) ≤ (x0.length : Int) ∧ (x0.length : Int) ≤ 4398046511104 then (laws_toIntA3S.l0 n (fun y2 =>
    some y2) n x0 (List.replicate ((x0.length : Int).toNat) ((0 : Int), (0 : Int), (0 : Int))) (0 : Int)) else none

/-- loop.example/g01158/laws.toIntS -/
def laws_toIntS.l0 (n : Nat) (K : (List (Int)) → Option ((List (Int)))) : Nat → (List (Int)) → (List (Int)) → Int → Option ((List (Int)))
  | 0, _, _, _ => none
  | k + 1, x0, x3, x4 =>
    if (decide (x4 < (x0.length : Int))) = true then
      if 0 ≤ x4 ∧ x4 < (x0.length : Int) then (if 0 ≤ x4 ∧ x4 < (x3.length : Int) then (laws_toIntS.l0 n K k x0 (x3.set x4.toNat (x0.getD x4.toNat (0 : Int))) (IntKind.wrap .i64 (x4 + (1 : Int)))) else none) else none
    else
      K x3
def laws_toIntS.F (n : Nat) (x0 : List (Int)) : Option ((List (Int))) :=
  if 0 ≤ (x0.length : Int) ∧ (x0.length : Int) ≤ (x0.length : Int) ∧ (x0.length : Int) ≤ 4398046511104 then (laws_toIntS.l0 n (fun y1 =>
    some y1) n x0 (List.replicate ((x0.length : Int).toNat) (0 : Int)) (0 : Int)) else none

/-- loop.example/g01158/laws.toMaze -/
def laws_toMaze.F (n : Nat) (x0_0 : Int) (x0_1 : List (Int × Int × Int)) (x0_2 : List (Int)) : Option (Int × (List (Int × Int × Int)) × (List (Int))) :=
  (laws_toIntA3S.F n x0_1).bind fun r1 =>
  (laws_toIntS.F n x0_2).bind fun r2 =>
  some (x0_0, r1, r2)

/-- loop.example/g01158/spec.l1In -/
def spec_l1In.F (n : Nat) (x0 : Int) (x1 : Int) (x2 : Int) : Option (Bool) :=
  if (decide (x0 ≥ x1)) = true then
    some (decide (x0 ≤ x2))
  else
    some false

/-- loop.example/g01158/spec.l2Set -/
def spec_l2Set.F (n : Nat) (x0 : Int) : Option (Bool) :=
  (spec_l1In.F n x0 (0 : Int) (63 : Int)).bind fun r1 =>
  some r1

/-- loop.example/g01158/spec.l2Before -/
def spec_l2Before.F (n : Nat) (x0_0 : Int) (x0_1 : Int) (x0_2 : Int) (x1_0 : Int) (x1_1 : Int) (x1_2 : Int) : Option (Bool) :=
  if (!decide (x0_0 = x1_0)) = true then
    some (decide (x0_0 < x1_0))
  else
    if (!decide (x0_1 = x1_1)) = true then
      some (decide (x0_1 < x1_1))
    else
      if (!decide (x0_2 = x1_2)) = true then
        some (decide (x0_2 < x1_2))
      else
        some false

/-- loop.example/g01158/spec.l2Maze -/
def spec_l2Maze.l0 (n : Nat) (K : Int → (List (Int × Int × Int)) → (List (Int)) → Option (Bool)) : Nat → Int → (List (Int × Int × Int)) → (List (Int)) → Int → Option (Bool)
  | 0, _, _, _, _ => none
  | k + 1, x1_0, x1_1, x1_2, x3 =>
    if (decide (x3 < (x1_1.length : Int))) = true then
      if 0 ≤ x3 ∧ x3 < (x1_1.length : Int) then ((spec_l1In.F n ((x1_1.getD x3.toNat ((0 : Int), (0 : Int), (0 : Int))).1) (0 : Int) (IntKind.wrap .i64 (x1_0 - (1 : Int)))).bind fun r2 =>
      if (!r2) = true then
        some false
      else
        (spec_l1In.F n ((x1_1.getD x3.toNat ((0 : Int), (0 : Int), (0 : Int))).2.1) (IntKind.wrap .i64 (((x1_1.getD x3.toNat ((0 : Int), (0 : Int), (0 : Int))).1) + (1 : Int))) (IntKind.wrap .i64 (x1_0 - (1 : Int)))).bind fun r3 =>
        if (!r3) = true then
          some false
        else
          (spec_l2Set.F n ((x1_1.getD x3.toNat ((0 : Int), (0 : Int), (0 : Int))).2.2)).bind fun r4 =>
          if (!r4) = true then
            some false
          else
            if (decide (x3 > (0 : Int))) = true then
              if 0 ≤ (IntKind.wrap .i64 (x3 - (1 : Int))) ∧ (IntKind.wrap .i64 (x3 - (1 : Int))) < (x1_1.length : Int) then ((spec_l2Before.F n ((x1_1.getD ((IntKind.wrap .i64 (x3 - (1 : Int))).toNat) ((0 : Int), (0 : Int), (0 : Int))).1) ((x1_1.getD ((IntKind.wrap .i64 (x3 - (1 : Int))).toNat) ((0 : Int), (0 : Int), (0 : Int))).2.1) ((x1_1.getD ((IntKind.wrap .i64 (x3 - (1 : Int))).toNat) ((0 : Int), (0 : Int), (0 : Int))).2.2) ((x1_1.getD x3.toNat ((0 : Int), (0 : Int), (0 : Int))).1) ((x1_1.getD x3.toNat ((0 : Int), (0 : Int), (0 : Int))).2.1) ((x1_1.getD x3.toNat ((0 : Int), (0 : Int), (0 : Int))).2.2)).bind fun r5 =>
              if (!r5) = true then
                some false
              else
                spec_l2Maze.l0 n K k x1_0 x1_1 x1_2 (IntKind.wrap .i64 (x3 + (1 : Int)))) else none
            else
              spec_l2Maze.l0 n K k x1_0 x1_1 x1_2 (IntKind.wrap .i64 (x3 + (1 : Int)))) else none
    else
      K x1_0 x1_1 x1_2
def spec_l2Maze.l2 (n : Nat) (K : Unit → Option (Bool)) : Nat → Int → (List (Int × Int × Int)) → (List (Int)) → Int → Option (Bool)
  | 0, _, _, _, _ => none
  | k + 1, x1_0, x1_1, x1_2, x5 =>
    if (decide (x5 < x1_0)) = true then
      if 0 ≤ x5 ∧ x5 < (x1_2.length : Int) then ((spec_l2Set.F n (x1_2.getD x5.toNat (0 : Int))).bind fun r9 =>
      if (!r9) = true then
        some false
      else
        spec_l2Maze.l2 n K k x1_0 x1_1 x1_2 (IntKind.wrap .i64 (x5 + (1 : Int)))) else none
    else
      K ()
def spec_l2Maze.F (n : Nat) (x0_0 : Int) (x0_1 : List (Int × Int × Int)) (x0_2 : List (Int)) : Option (Bool) :=
  let j3 : (Int) → (List (Int × Int × Int)) → (List (Int)) → Option (Bool) := fun j3_x1_0 j3_x1_1 j3_x1_2 =>
    spec_l2Maze.l0 n (fun y6 y7 y8 =>
      spec_l2Maze.l2 n (fun _ =>
        some true) n y6 y7 y8 (0 : Int)) n j3_x1_0 j3_x1_1 j3_x1_2 (0 : Int)
  (spec_l1In.F n x0_0 (1 : Int) (12 : Int)).bind fun r1 =>
  if (!r1) = true then
    some false
  else
    if (decide ((x0_1.length : Int) > (30 : Int))) = true then
      some false
    else
      if (!decide ((x0_2.length : Int) = x0_0)) = true then
        some false
      else
        j3 x0_0 x0_1 x0_2

/-- loop.example/g01158/spec.l2Node -/
def spec_l2Node.F (n : Nat) (x0_0 : Int) (x0_1 : List (Int × Int × Int)) (x0_2 : List (Int)) (x1 : Int) : Option (Bool) :=
  (spec_l2Maze.F n x0_0 x0_1 x0_2).bind fun r1 =>
  if r1 = true then
    (spec_l1In.F n x1 (0 : Int) (IntKind.wrap .i64 (x0_0 - (1 : Int)))).bind fun r2 =>
    some r2
  else
    some false

/-- loop.example/g01158/spec.l2Has -/
def spec_l2Has.F (n : Nat) (x0 : Int) (x1 : Int) : Option (Bool) :=
  some (decide ((bitAnd .i64 x0 x1) = x1))

/-- loop.example/g01158/spec.l1Has -/
def spec_l1Has.l0 (n : Nat) (K : Unit → Option (Bool)) : Nat → (List (Int)) → Int → Int → Option (Bool)
  | 0, _, _, _ => none
  | k + 1, x0, x1, x5 =>
    if (decide (x5 < (x0.length : Int))) = true then
      if 0 ≤ x5 ∧ x5 < (x0.length : Int) then (if (decide ((x0.getD x5.toNat (0 : Int)) = x1)) = true then
        some true
      else
        spec_l1Has.l0 n K k x0 x1 (IntKind.wrap .i64 (x5 + (1 : Int)))) else none
    else
      K ()
def spec_l1Has.F (n : Nat) (x0 : List (Int)) (x1 : Int) : Option (Bool) :=
  spec_l1Has.l0 n (fun _ =>
    some false) n x0 x1 (0 : Int)

/-- loop.example/g01158/spec.l1Put -/
def spec_l1Put.l0 (n : Nat) (K : (List (Int)) → Int → Int → Option ((List (Int)))) : Nat → (List (Int)) → Int → Int → Option ((List (Int)))
  | 0, _, _, _ => none
  | k + 1, x0, x1, x5 =>
    if (decide (x5 < (x0.length : Int))) = true then
      if 0 ≤ x5 ∧ x5 < (x0.length : Int) then (if (decide ((x0.getD x5.toNat (0 : Int)) < x1)) = true then
        spec_l1Put.l0 n K k x0 x1 (IntKind.wrap .i64 (x5 + (1 : Int)))
      else
        K x0 x1 x5) else none
    else
      K x0 x1 x5
def spec_l1Put.F (n : Nat) (x0 : List (Int)) (x1 : Int) : Option ((List (Int))) :=
  spec_l1Put.l0 n (fun y1 y2 y3 =>
    if (decide (y3 < (y1.length : Int))) = true then
      if 0 ≤ y3 ∧ y3 < (y1.length : Int) then (if (decide ((y1.getD y3.toNat (0 : Int)) = y2)) = true then
        some y1
      else
        if 0 ≤ y3 ∧ y3 ≤ (y1.length : Int) then (if ([] : List (Int)).length + (y1.take y3.toNat).length ≤ 4398046511104 then (if (([] : List (Int)) ++ (y1.take y3.toNat)).length + ([y2] : List (Int)).length ≤ 4398046511104 then (if 0 ≤ y3 ∧ y3 ≤ (y1.length : Int) then (if ((([] : List (Int)) ++ (y1.take y3.toNat)) ++ ([y2] : List (Int))).length + (y1.drop y3.toNat).length ≤ 4398046511104 then (some (((([] : List (Int)) ++ (y1.take y3.toNat)) ++ ([y2] : List (Int))) ++ (y1.drop y3.toNat))) else none) else none) else none) else none) else none) else none
    else
      if 0 ≤ y3 ∧ y3 ≤ (y1.length : Int) then (if ([] : List (Int)).length + (y1.take y3.toNat).length ≤ 4398046511104 then (if (([] : List (Int)) ++ (y1.take y3.toNat)).length + ([y2] : List (Int)).length ≤ 4398046511104 then (if 0 ≤ y3 ∧ y3 ≤ (y1.length : Int) then (if ((([] : List (Int)) ++ (y1.take y3.toNat)) ++ ([y2] : List (Int))).length + (y1.drop y3.toNat).length ≤ 4398046511104 then (some (((([] : List (Int)) ++ (y1.take y3.toNat)) ++ ([y2] : List (Int))) ++ (y1.drop y3.toNat))) else none) else none) else none) else none) else none) n x0 x1 (0 : Int)

/-- loop.example/g01158/spec.l2Reach -/
def spec_l2Reach.l2 (n : Nat) (K : Int → Int → (List (Int × Int × Int)) → (List (Int)) → (List (Int)) → (List (Int)) → Int → Option ((List (Int)))) : Nat → Int → Int → (List (Int × Int × Int)) → (List (Int)) → (List (Int)) → (List (Int)) → Int → Int → Option ((List (Int)))
  | 0, _, _, _, _, _, _, _, _ => none
  | k + 1, x2, x3_0, x3_1, x3_2, x7, x8, x9, x10 =>
    if (decide (x10 < (x3_1.length : Int))) = true then
      if 0 ≤ x10 ∧ x10 < (x3_1.length : Int) then ((spec_l2Has.F n x2 ((x3_1.getD x10.toNat ((0 : Int), (0 : Int), (0 : Int))).2.2)).bind fun r1 =>
      if (!r1) = true then
        spec_l2Reach.l2 n K k x2 x3_0 x3_1 x3_2 x7 x8 x9 (IntKind.wrap .i64 (x10 + (1 : Int)))
      else
        if 0 ≤ x9 ∧ x9 < (x8.length : Int) then (if (!decide (((x3_1.getD x10.toNat ((0 : Int), (0 : Int), (0 : Int))).1) = (x8.getD x9.toNat (0 : Int)))) = true then
          if 0 ≤ x9 ∧ x9 < (x8.length : Int) then (if (!decide (((x3_1.getD x10.toNat ((0 : Int), (0 : Int), (0 : Int))).2.1) = (x8.getD x9.toNat (0 : Int)))) = true then
            spec_l2Reach.l2 n K k x2 x3_0 x3_1 x3_2 x7 x8 x9 (IntKind.wrap .i64 (x10 + (1 : Int)))
          else
            if 0 ≤ x9 ∧ x9 < (x8.length : Int) then ((spec_l1Has.F n x7 (IntKind.wrap .i64 ((IntKind.wrap .i64 (((x3_1.getD x10.toNat ((0 : Int), (0 : Int), (0 : Int))).1) + ((x3_1.getD x10.toNat ((0 : Int), (0 : Int), (0 : Int))).2.1))) - (x8.getD x9.toNat (0 : Int))))).bind fun r2 =>
            if (!r2) = true then
              (spec_l1Put.F n x7 (IntKind.wrap .i64 ((IntKind.wrap .i64 (((x3_1.getD x10.toNat ((0 : Int), (0 : Int), (0 : Int))).1) + ((x3_1.getD x10.toNat ((0 : Int), (0 : Int), (0 : Int))).2.1))) - (x8.getD x9.toNat (0 : Int))))).bind fun r3 =>
              if x8.length + ([IntKind.wrap .i64 ((IntKind.wrap .i64 (((x3_1.getD x10.toNat ((0 : Int), (0 : Int), (0 : Int))).1) + ((x3_1.getD x10.toNat ((0 : Int), (0 : Int), (0 : Int))).2.1))) - (x8.getD x9.toNat (0 : Int)))] : List (Int)).length ≤ 4398046511104 then (spec_l2Reach.l2 n K k x2 x3_0 x3_1 x3_2 r3 (x8 ++ ([IntKind.wrap .i64 ((IntKind.wrap .i64 (((x3_1.getD x10.toNat ((0 : Int), (0 : Int), (0 : Int))).1) + ((x3_1.getD x10.toNat ((0 : Int), (0 : Int), (0 : Int))).2.1))) - (x8.getD x9.toNat (0 : Int)))] : List (Int))) x9 (IntKind.wrap .i64 (x10 + (1 : Int)))) else none
            else
              spec_l2Reach.l2 n K k x2 x3_0 x3_1 x3_2 x7 x8 x9 (IntKind.wrap .i64 (x10 + (1 : Int)))) else none) else none
        else
          if 0 ≤ x9 ∧ x9 < (x8.length : Int) then ((spec_l1Has.F n x7 (IntKind.wrap .i64 ((IntKind.wrap .i64 (((x3_1.getD x10.toNat ((0 : Int), (0 : Int), (0 : Int))).1) + ((x3_1.getD x10.toNat ((0 : Int), (0 : Int), (0 : Int))).2.1))) - (x8.getD x9.toNat (0 : Int))))).bind fun r4 =>
          if (!r4) = true then
            (spec_l1Put.F n x7 (IntKind.wrap .i64 ((IntKind.wrap .i64 (((x3_1.getD x10.toNat ((0 : Int), (0 : Int), (0 : Int))).1) + ((x3_1.getD x10.toNat ((0 : Int), (0 : Int), (0 : Int))).2.1))) - (x8.getD x9.toNat (0 : Int))))).bind fun r5 =>
            if x8.length + ([IntKind.wrap .i64 ((IntKind.wrap .i64 (((x3_1.getD x10.toNat ((0 : Int), (0 : Int), (0 : Int))).1) + ((x3_1.getD x10.toNat ((0 : Int), (0 : Int), (0 : Int))).2.1))) - (x8.getD x9.toNat (0 : Int)))] : List (Int)).length ≤ 4398046511104 then (spec_l2Reach.l2 n K k x2 x3_0 x3_1 x3_2 r5 (x8 ++ ([IntKind.wrap .i64 ((IntKind.wrap .i64 (((x3_1.getD x10.toNat ((0 : Int), (0 : Int), (0 : Int))).1) + ((x3_1.getD x10.toNat ((0 : Int), (0 : Int), (0 : Int))).2.1))) - (x8.getD x9.toNat (0 : Int)))] : List (Int))) x9 (IntKind.wrap .i64 (x10 + (1 : Int)))) else none
          else
            spec_l2Reach.l2 n K k x2 x3_0 x3_1 x3_2 x7 x8 x9 (IntKind.wrap .i64 (x10 + (1 : Int)))) else none) else none) else none
    else
      K x2 x3_0 x3_1 x3_2 x7 x8 x9
def spec_l2Reach.l0 (n : Nat) (K : (List (Int)) → Option ((List (Int)))) : Nat → Int → Int → (List (Int × Int × Int)) → (List (Int)) → (List (Int)) → (List (Int)) → Int → Option ((List (Int)))
  | 0, _, _, _, _, _, _, _ => none
  | k + 1, x2, x3_0, x3_1, x3_2, x7, x8, x9 =>
    if (decide (x9 < (x8.length : Int))) = true then
      spec_l2Reach.l2 n (fun y6 y7 y8 y9 y10 y11 y12 =>
        spec_l2Reach.l0 n K k y6 y7 y8 y9 y10 y11 (IntKind.wrap .i64 (y12 + (1 : Int)))) n x2 x3_0 x3_1 x3_2 x7 x8 x9 (0 : Int)
    else
      K x7
def spec_l2Reach.F (n : Nat) (x0_0 : Int) (x0_1 : List (Int × Int × Int)) (x0_2 : List (Int)) (x1 : Int) (x2 : Int) : Option ((List (Int))) :=
  spec_l2Reach.l0 n (fun y13 =>
    some y13) n x2 x0_0 x0_1 x0_2 ([x1] : List (Int)) ([x1] : List (Int)) (0 : Int)

/-- loop.example/g01158/spec.ReachWith -/
def spec_ReachWith.F (n : Nat) (x0_0 : Int) (x0_1 : List (Int × Int × Int)) (x0_2 : List (Int)) (x1 : Int) (x2 : Int) : Option ((List (Int)) × Bool) :=
  (spec_l2Node.F n x0_0 x0_1 x0_2 x1).bind fun r1 =>
  if (!r1) = true then
    some (([] : List (Int)), false)
  else
    (spec_l2Set.F n x2).bind fun r2 =>
    if (!r2) = true then
      some (([] : List (Int)), false)
    else
      (spec_l2Reach.F n x0_0 x0_1 x0_2 x1 x2).bind fun r3 =>
      some (r3, true)

/-- loop.example/g01158/impl.within -/
def impl_within.F (n : Nat) (x0 : Int) (x1 : Int) (x2 : Int) : Option (Bool) :=
  if (decide (x1 ≤ x0)) = true then
    some (decide (x0 ≤ x2))
  else
    some false

/-- loop.example/g01158/impl.isSet -/
def impl_isSet.F (n : Nat) (x0 : Int) : Option (Bool) :=
  (impl_within.F n x0 (0 : Int) (63 : Int)).bind fun r1 =>
  some r1

/-- cmp.isNaN[int] -/
def cmp_isNaN_int.F (n : Nat) (x0 : Int) : Option (Bool) :=
  some (!decide (x0 = x0))

/-- cmp.Compare[int] -/
def cmp_Compare_int.F (n : Nat) (x0 : Int) (x1 : Int) : Option (Int) :=
  (cmp_isNaN_int.F n x0).bind fun r1 =>
  (cmp_isNaN_int.F n x1).bind fun r2 =>
  if r1 = true then
    if r2 = true then
      some (0 : Int)
    else
      some (-1 : Int)
  else
    if r2 = true then
      some (1 : Int)
    else
      if (decide (x0 < x1)) = true then
        some (-1 : Int)
      else
        if (decide (x0 > x1)) = true then
          some (1 : Int)
        else
          some (0 : Int)

/-- cmp.Or[int] -/
def cmp_Or_int.l0 (n : Nat) (K : Int → Option (Int)) : Nat → Int → (List (Int)) → Int → Int → Option (Int)
  | 0, _, _, _, _ => none
  | k + 1, x3, x6, x7, x8 =>
    if (decide (x8 < x7)) = true then
      if 0 ≤ x8 ∧ x8 < (x6.length : Int) then (if (!decide ((x6.getD x8.toNat (0 : Int)) = x3)) = true then
        some (x6.getD x8.toNat (0 : Int))
      else
        cmp_Or_int.l0 n K k x3 x6 x7 (IntKind.wrap .i64 (x8 + (1 : Int)))) else none
    else
      K x3
def cmp_Or_int.F (n : Nat) (x0 : List (Int)) : Option (Int) :=
  cmp_Or_int.l0 n (fun y1 =>
    some y1) n (0 : Int) x0 (x0.length : Int) (0 : Int)

/-- loop.example/g01158/impl.compareDoors -/
def impl_compareDoors.F (n : Nat) (x0_0 : Int) (x0_1 : Int) (x0_2 : Int) (x1_0 : Int) (x1_1 : Int) (x1_2 : Int) : Option (Int) :=
  (cmp_Compare_int.F n x0_0 x1_0).bind fun r1 =>
  (cmp_Compare_int.F n x0_1 x1_1).bind fun r2 =>
  (cmp_Compare_int.F n x0_2 x1_2).bind fun r3 =>
  (cmp_Or_int.F n ([r1, r2, r3] : List (Int))).bind fun r4 =>
  some r4

/-- loop.example/g01158/impl.IsMaze$1 -/
def impl_IsMaze_1.F (n : Nat) (x0 : Int) : Option (Bool) :=
  (impl_isSet.F n x0).bind fun r1 =>
  some (!r1)

/-- slices.IndexFunc[[]int,int] -/
def slices_IndexFunc_int_int_cIsMaze_1.l0 (n : Nat) (K : Unit → Option (Int)) : Nat → (List (Int)) → Int → Int → Option (Int)
  | 0, _, _, _ => none
  | k + 1, x0, x7, x8 =>
    if (decide (x8 < x7)) = true then
      if 0 ≤ x8 ∧ x8 < (x0.length : Int) then ((impl_IsMaze_1.F n (x0.getD x8.toNat (0 : Int))).bind fun r1 =>
      if r1 = true then
        some x8
      else
        slices_IndexFunc_int_int_cIsMaze_1.l0 n K k x0 x7 (IntKind.wrap .i64 (x8 + (1 : Int)))) else none
    else
      K ()
def slices_IndexFunc_int_int_cIsMaze_1.F (n : Nat) (x0 : List (Int)) : Option (Int) :=
  slices_IndexFunc_int_int_cIsMaze_1.l0 n (fun _ =>
    some (-1 : Int)) n x0 (x0.length : Int) (0 : Int)

/-- slices.ContainsFunc[[]int,int] -/
def slices_ContainsFunc_int_int_cIsMaze_1.F (n : Nat) (x0 : List (Int)) : Option (Bool) :=
  (slices_IndexFunc_int_int_cIsMaze_1.F n x0).bind fun r1 =>
  some (decide (r1 ≥ (0 : Int)))

/-- loop.example/g01158/impl.IsMaze -/
def impl_IsMaze.l0 (n : Nat) (K : Int → (List (Int × Int × Int)) → (List (Int)) → Option (Bool)) : Nat → Int → (List (Int × Int × Int)) → (List (Int)) → Int → Int → Option (Bool)
  | 0, _, _, _, _, _ => none
  | k + 1, x1_0, x1_1, x1_2, x25, x26 =>
    if (decide (x26 < x25)) = true then
      if 0 ≤ x26 ∧ x26 < (x1_1.length : Int) then (if (decide (((x1_1.getD x26.toNat ((0 : Int), (0 : Int), (0 : Int))).1) < (0 : Int))) = true then
        some false
      else
        if (decide (((x1_1.getD x26.toNat ((0 : Int), (0 : Int), (0 : Int))).1) ≥ ((x1_1.getD x26.toNat ((0 : Int), (0 : Int), (0 : Int))).2.1))) = true then
          some false
        else
          if (decide (((x1_1.getD x26.toNat ((0 : Int), (0 : Int), (0 : Int))).2.1) ≥ x1_0)) = true then
            some false
          else
            (impl_isSet.F n ((x1_1.getD x26.toNat ((0 : Int), (0 : Int), (0 : Int))).2.2)).bind fun r2 =>
            if (!r2) = true then
              some false
            else
              if (decide (x26 > (0 : Int))) = true then
                if 0 ≤ (IntKind.wrap .i64 (x26 - (1 : Int))) ∧ (IntKind.wrap .i64 (x26 - (1 : Int))) < (x1_1.length : Int) then ((impl_compareDoors.F n ((x1_1.getD ((IntKind.wrap .i64 (x26 - (1 : Int))).toNat) ((0 : Int), (0 : Int), (0 : Int))).1) ((x1_1.getD ((IntKind.wrap .i64 (x26 - (1 : Int))).toNat) ((0 : Int), (0 : Int), (0 : Int))).2.1) ((x1_1.getD ((IntKind.wrap .i64 (x26 - (1 : Int))).toNat) ((0 : Int), (0 : Int), (0 : Int))).2.2) ((x1_1.getD x26.toNat ((0 : Int), (0 : Int), (0 : Int))).1) ((x1_1.getD x26.toNat ((0 : Int), (0 : Int), (0 : Int))).2.1) ((x1_1.getD x26.toNat ((0 : Int), (0 : Int), (0 : Int))).2.2)).bind fun r3 =>
                if (decide (r3 ≥ (0 : Int))) = true then
                  some false
                else
                  impl_IsMaze.l0 n K k x1_0 x1_1 x1_2 x25 (IntKind.wrap .i64 (x26 + (1 : Int)))) else none
              else
                impl_IsMaze.l0 n K k x1_0 x1_1 x1_2 x25 (IntKind.wrap .i64 (x26 + (1 : Int)))) else none
    else
      K x1_0 x1_1 x1_2
def impl_IsMaze.F (n : Nat) (x0_0 : Int) (x0_1 : List (Int × Int × Int)) (x0_2 : List (Int)) : Option (Bool) :=
  let j3 : (Int) → (List (Int × Int × Int)) → (List (Int)) → Option (Bool) := fun j3_x1_0 j3_x1_1 j3_x1_2 =>
    impl_IsMaze.l0 n (fun y4 y5 y6 =>
      (slices_ContainsFunc_int_int_cIsMaze_1.F n y6).bind fun r7 =>
      some (!r7)) n j3_x1_0 j3_x1_1 j3_x1_2 (j3_x1_1.length : Int) (0 : Int)
  (impl_within.F n x0_0 (1 : Int) (12 : Int)).bind fun r1 =>
  if (!r1) = true then
    some false
  else
    if (decide ((x0_1.length : Int) > (30 : Int))) = true then
      some false
    else
      if (!decide ((x0_2.length : Int) = x0_0)) = true then
        some false
      else
        j3 x0_0 x0_1 x0_2

/-- loop.example/g01158/impl.isNode$1 -/
def impl_isNode_1_c0.F (n : Nat) (x0 : Int) (x1_0 : Int) (x1_1 : List (Int × Int × Int)) (x1_2 : List (Int)) : Option (Bool) :=
  (impl_within.F n x0 (0 : Int) (IntKind.wrap .i64 (x1_0 - (1 : Int)))).bind fun r1 =>
  some (!r1)

/-- slices.IndexFunc[[]int,int] -/
def slices_IndexFunc_int_int_cisNode_1.l0 (n : Nat) (K : Unit → Option (Int)) : Nat → (List (Int)) → Int → (List (Int × Int × Int)) → (List (Int)) → Int → Int → Option (Int)
  | 0, _, _, _, _, _, _ => none
  | k + 1, x0, x1_0, x1_1, x1_2, x7, x8 =>
    if (decide (x8 < x7)) = true then
      if 0 ≤ x8 ∧ x8 < (x0.length : Int) then ((impl_isNode_1_c0.F n (x0.getD x8.toNat (0 : Int)) x1_0 x1_1 x1_2).bind fun r1 =>
      if r1 = true then
        some x8
      else
        slices_IndexFunc_int_int_cisNode_1.l0 n K k x0 x1_0 x1_1 x1_2 x7 (IntKind.wrap .i64 (x8 + (1 : Int)))) else none
    else
      K ()
def slices_IndexFunc_int_int_cisNode_1.F (n : Nat) (x0 : List (Int)) (x1_0 : Int) (x1_1 : List (Int × Int × Int)) (x1_2 : List (Int)) : Option (Int) :=
  slices_IndexFunc_int_int_cisNode_1.l0 n (fun _ =>
    some (-1 : Int)) n x0 x1_0 x1_1 x1_2 (x0.length : Int) (0 : Int)

/-- slices.ContainsFunc[[]int,int] -/
def slices_ContainsFunc_int_int_cisNode_1.F (n : Nat) (x0 : List (Int)) (x1_0 : Int) (x1_1 : List (Int × Int × Int)) (x1_2 : List (Int)) : Option (Bool) :=
  (slices_IndexFunc_int_int_cisNode_1.F n x0 x1_0 x1_1 x1_2).bind fun r1 =>
  some (decide (r1 ≥ (0 : Int)))

/-- loop.example/g01158/impl.isNode -/
def impl_isNode.F (n : Nat) (x0_0 : Int) (x0_1 : List (Int × Int × Int)) (x0_2 : List (Int)) (x1 : List (Int)) : Option (Bool) :=
  (impl_IsMaze.F n x0_0 x0_1 x0_2).bind fun r1 =>
  if r1 = true then
    (slices_ContainsFunc_int_int_cisNode_1.F n x1 x0_0 x0_1 x0_2).bind fun r2 =>
    some (!r2)
  else
    some false

/-- loop.example/g01158/impl.has -/
def impl_has.F (n : Nat) (x0 : Int) (x1 : Int) : Option (Bool) :=
  some (decide ((bitClr .i64 x1 x0) = (0 : Int)))

/-- loop.example/g01158/impl.steps -/
def impl_steps.l0 (n : Nat) (K : Int → Option (Int)) : Nat → Int → Int → Int → (List (Int × Int × Int)) → Int → Int → Option (Int)
  | 0, _, _, _, _, _, _ => none
  | k + 1, x1, x2, x7, x11, x12, x13 =>
    if (decide (x13 < x12)) = true then
      if 0 ≤ x13 ∧ x13 < (x11.length : Int) then ((impl_has.F n x2 ((x11.getD x13.toNat ((0 : Int), (0 : Int), (0 : Int))).2.2)).bind fun r1 =>
      if (!r1) = true then
        impl_steps.l0 n K k x1 x2 x7 x11 x12 (IntKind.wrap .i64 (x13 + (1 : Int)))
      else
        if (decide (((x11.getD x13.toNat ((0 : Int), (0 : Int), (0 : Int))).1) = x1)) = true then
          if ((x11.getD x13.toNat ((0 : Int), (0 : Int), (0 : Int))).2.1) < 0 then none else (if (decide (((x11.getD x13.toNat ((0 : Int), (0 : Int), (0 : Int))).2.1) = x1)) = true then
            if ((x11.getD x13.toNat ((0 : Int), (0 : Int), (0 : Int))).1) < 0 then none else (impl_steps.l0 n K k x1 x2 (bitOr .i64 (bitOr .i64 x7 (shL .i64 1 ((x11.getD x13.toNat ((0 : Int), (0 : Int), (0 : Int))).2.1))) (shL .i64 1 ((x11.getD x13.toNat ((0 : Int), (0 : Int), (0 : Int))).1))) x11 x12 (IntKind.wrap .i64 (x13 + (1 : Int))))
          else
            impl_steps.l0 n K k x1 x2 (bitOr .i64 x7 (shL .i64 1 ((x11.getD x13.toNat ((0 : Int), (0 : Int), (0 : Int))).2.1))) x11 x12 (IntKind.wrap .i64 (x13 + (1 : Int))))
        else
          if (decide (((x11.getD x13.toNat ((0 : Int), (0 : Int), (0 : Int))).2.1) = x1)) = true then
            if ((x11.getD x13.toNat ((0 : Int), (0 : Int), (0 : Int))).1) < 0 then none else (impl_steps.l0 n K k x1 x2 (bitOr .i64 x7 (shL .i64 1 ((x11.getD x13.toNat ((0 : Int), (0 : Int), (0 : Int))).1))) x11 x12 (IntKind.wrap .i64 (x13 + (1 : Int))))
          else
            impl_steps.l0 n K k x1 x2 x7 x11 x12 (IntKind.wrap .i64 (x13 + (1 : Int)))) else none
    else
      K x7
def impl_steps.F (n : Nat) (x0_0 : Int) (x0_1 : List (Int × Int × Int)) (x0_2 : List (Int)) (x1 : Int) (x2 : Int) : Option (Int) :=
  impl_steps.l0 n (fun y2 =>
    some y2) n x1 x2 (0 : Int) x0_1 (x0_1.length : Int) (0 : Int)

/-- loop.example/g01158/impl.members -/
def impl_members.l0 (n : Nat) (K : (List (Int)) → Option ((List (Int)))) : Nat → Int → (List (Int)) → Int → Option ((List (Int)))
  | 0, _, _, _ => none
  | k + 1, x0, x3, x4 =>
    if x4 < 0 then none else (if (decide ((shR .i64 x0 x4) > (0 : Int))) = true then
      if x4 < 0 then none else (if (decide ((bitAnd .i64 (shR .i64 x0 x4) 1) = (1 : Int))) = true then
        if x3.length + ([x4] : List (Int)).length ≤ 4398046511104 then (impl_members.l0 n K k x0 (x3 ++ ([x4] : List (Int))) (IntKind.wrap .i64 (x4 + (1 : Int)))) else none
      else
        impl_members.l0 n K k x0 x3 (IntKind.wrap .i64 (x4 + (1 : Int))))
    else
      K x3)
def impl_members.F (n : Nat) (x0 : Int) : Option ((List (Int))) :=
  impl_members.l0 n (fun y1 =>
    some y1) n x0 ([] : List (Int)) (0 : Int)

/-- loop.example/g01158/impl.reach -/
def impl_reach.l0 (n : Nat) (K : Int → Option (Int)) : Nat → Int → Int → (List (Int × Int × Int)) → (List (Int)) → Int → (List (Int)) → Option (Int)
  | 0, _, _, _, _, _, _ => none
  | k + 1, x2, x3_0, x3_1, x3_2, x7, x8 =>
    if (decide ((x8.length : Int) > (0 : Int))) = true then
      if 0 ≤ (0 : Int) ∧ (0 : Int) < (x8.length : Int) then ((impl_steps.F n x3_0 x3_1 x3_2 (x8.getD 0 (0 : Int)) x2).bind fun r1 =>
      if 0 ≤ (1 : Int) ∧ (1 : Int) ≤ (x8.length : Int) then ((impl_members.F n (bitClr .i64 r1 x7)).bind fun r2 =>
      if (x8.drop 1).length + r2.length ≤ 4398046511104 then (impl_reach.l0 n K k x2 x3_0 x3_1 x3_2 (bitOr .i64 x7 (bitClr .i64 r1 x7)) ((x8.drop 1) ++ r2)) else none) else none) else none
    else
      K x7
def impl_reach.F (n : Nat) (x0_0 : Int) (x0_1 : List (Int × Int × Int)) (x0_2 : List (Int)) (x1 : Int) (x2 : Int) : Option (Int) :=
  if x1 < 0 then none else (impl_reach.l0 n (fun y3 =>
    some y3) n x2 x0_0 x0_1 x0_2 (shL .i64 1 x1) ([x1] : List (Int)))

/-- loop.example/g01158/impl.ReachWith -/
def impl_ReachWith.F (n : Nat) (x0_0 : Int) (x0_1 : List (Int × Int × Int)) (x0_2 : List (Int)) (x1 : Int) (x2 : Int) : Option ((List (Int)) × Bool) :=
  (impl_isNode.F n x0_0 x0_1 x0_2 ([x1] : List (Int))).bind fun r1 =>
  if (!r1) = true then
    some (([] : List (Int)), false)
  else
    (impl_isSet.F n x2).bind fun r2 =>
    if (!r2) = true then
      some (([] : List (Int)), false)
    else
      (impl_reach.F n x0_0 x0_1 x0_2 x1 x2).bind fun r3 =>
      (impl_members.F n r3).bind fun r4 =>
      some (r4, true)

/-- loop.example/g01158/laws.eqIntS -/
def laws_eqIntS.l0 (n : Nat) (K : Unit → Option (Bool)) : Nat → (List (Int)) → (List (Int)) → Int → Option (Bool)
  | 0, _, _, _ => none
  | k + 1, x0, x1, x5 =>
    if (decide (x5 < (x0.length : Int))) = true then
      if 0 ≤ x5 ∧ x5 < (x0.length : Int) then (if 0 ≤ x5 ∧ x5 < (x1.length : Int) then (if (!decide ((x0.getD x5.toNat (0 : Int)) = (x1.getD x5.toNat (0 : Int)))) = true then
        some false
      else
        laws_eqIntS.l0 n K k x0 x1 (IntKind.wrap .i64 (x5 + (1 : Int)))) else none) else none
    else
      K ()
def laws_eqIntS.F (n : Nat) (x0 : List (Int)) (x1 : List (Int)) : Option (Bool) :=
  if (!decide ((x0.length : Int) = (x1.length : Int))) = true then
    some false
  else
    laws_eqIntS.l0 n (fun _ =>
      some true) n x0 x1 (0 : Int)

/-- loop.example/g01158/laws.eqIntA3 -/
def laws_eqIntA3.F (n : Nat) (x0_0 : Int) (x0_1 : Int) (x0_2 : Int) (x1_0 : Int) (x1_1 : Int) (x1_2 : Int) : Option (Bool) :=
  if (!decide (x0_0 = x1_0)) = true then
    some false
  else
    if (!decide (x0_1 = x1_1)) = true then
      some false
    else
      if (!decide (x0_2 = x1_2)) = true then
        some false
      else
        some true

/-- loop.example/g01158/laws.eqIntA3S -/
def laws_eqIntA3S.l0 (n : Nat) (K : Unit → Option (Bool)) : Nat → (List (Int × Int × Int)) → (List (Int × Int × Int)) → Int → Option (Bool)
  | 0, _, _, _ => none
  | k + 1, x0, x1, x5 =>
    if (decide (x5 < (x0.length : Int))) = true then
      if 0 ≤ x5 ∧ x5 < (x0.length : Int) then (if 0 ≤ x5 ∧ x5 < (x1.length : Int) then ((laws_eqIntA3.F n ((x0.getD x5.toNat ((0 : Int), (0 : Int), (0 : Int))).1) ((x0.getD x5.toNat ((0 : Int), (0 : Int), (0 : Int))).2.1) ((x0.getD x5.toNat ((0 : Int), (0 : Int), (0 : Int))).2.2) ((x1.getD x5.toNat ((0 : Int), (0 : Int), (0 : Int))).1) ((x1.getD x5.toNat ((0 : Int), (0 : Int), (0 : Int))).2.1) ((x1.getD x5.toNat ((0 : Int), (0 : Int), (0 : Int))).2.2)).bind fun r1 =>
      if (!r1) = true then
        some false
      else
        laws_eqIntA3S.l0 n K k x0 x1 (IntKind.wrap .i64 (x5 + (1 : Int)))) else none) else none
    else
      K ()
def laws_eqIntA3S.F (n : Nat) (x0 : List (Int × Int × Int)) (x1 : List (Int × Int × Int)) : Option (Bool) :=
  if (!decide ((x0.length : Int) = (x1.length : Int))) = true then
    some false
  else
    laws_eqIntA3S.l0 n (fun _ =>
      some true) n x0 x1 (0 : Int)

/-- loop.example/g01158/laws.eqMaze -/
def laws_eqMaze.F (n : Nat) (x0_0 : Int) (x0_1 : List (Int × Int × Int)) (x0_2 : List (Int)) (x1_0 : Int) (x1_1 : List (Int × Int × Int)) (x1_2 : List (Int)) : Option (Bool) :=
  if (!decide (x0_0 = x1_0)) = true then
    some false
  else
    (laws_eqIntA3S.F n x0_1 x1_1).bind fun r1 =>
    if (!r1) = true then
      some false
    else
      (laws_eqIntS.F n x0_2 x1_2).bind fun r2 =>
      if (!r2) = true then
        some false
      else
        some true

/-- loop.example/g01158/laws.markIntA3S -/
def laws_markIntA3S.l0 (n : Nat) (K : (List (Int × Int × Int)) → Int → Option (Int × (List (Int × Int × Int)))) : Nat → (List (Int × Int × Int)) → Int → Int → Option (Int × (List (Int × Int × Int)))
  | 0, _, _, _ => none
  | k + 1, x0, x1, x5 =>
    if (decide (x5 < (x0.length : Int))) = true then
      if 0 ≤ x5 ∧ x5 < (x0.length : Int) then (if 0 ≤ x5 ∧ x5 < ((x0.set x5.toNat (x1, (x0.getD x5.toNat ((0 : Int), (0 : Int), (0 : Int))).2.1, (x0.getD x5.toNat ((0 : Int), (0 : Int), (0 : Int))).2.2)).length : Int) then (if 0 ≤ x5 ∧ x5 < (((x0.set x5.toNat (x1, (x0.getD x5.toNat ((0 : Int), (0 : Int), (0 : Int))).2.1, (x0.getD x5.toNat ((0 : Int), (0 : Int), (0 : Int))).2.2)).set x5.toNat (((x0.set x5.toNat (x1, (x0.getD x5.toNat ((0 : Int), (0 : Int), (0 : Int))).2.1, (x0.getD x5.toNat ((0 : Int), (0 : Int), (0 : Int))).2.2)).getD x5.toNat ((0 : Int), (0 : Int), (0 : Int))).1, IntKind.wrap .i64 (x1 + (1 : Int)), ((x0.set x5.toNat (x1, (x0.getD x5.toNat ((0 : Int), (0 : Int), (0 : Int))).2.1, (x0.getD x5.toNat ((0 : Int), (0 : Int), (0 : Int))).2.2)).getD x5.toNat ((0 : Int), (0 : Int), (0 : Int))).2.2)).length : Int) then (laws_markIntA3S.l0 n K k (((x0.set x5.toNat (x1, (x0.getD x5.toNat ((0 : Int), (0 : Int), (0 : Int))).2.1, (x0.getD x5.toNat ((0 : Int), (0 : Int), (0 : Int))).2.2)).set x5.toNat (((x0.set x5.toNat (x1, (x0.getD x5.toNat ((0 : Int), (0 : Int), (0 : Int))).2.1, (x0.getD x5.toNat ((0 : Int), (0 : Int), (0 : Int))).2.2)).getD x5.toNat ((0 : Int), (0 : Int), (0 : Int))).1, IntKind.wrap .i64 (x1 + (1 : Int)), ((x0.set x5.toNat (x1, (x0.getD x5.toNat ((0 : Int), (0 : Int), (0 : Int))).2.1, (x0.getD x5.toNat ((0 : Int), (0 : Int), (0 : Int))).2.2)).getD x5.toNat ((0 : Int), (0 : Int), (0 : Int))).2.2)).set x5.toNat ((((x0.set x5.toNat (x1, (x0.getD x5.toNat ((0 : Int), (0 : Int), (0 : Int))).2.1, (x0.getD x5.toNat ((0 : Int), (0 : Int), (0 : Int))).2.2)).set x5.toNat (((x0.set x5.toNat (x1, (x0.getD x5.toNat ((0 : Int), (0 : Int), (0 : Int))).2.1, (x0.getD x5.toNat ((0 : Int), (0 : Int), (0 : Int))).2.2)).getD x5.toNat ((0 : Int), (0 : Int), (0 : Int))).1, IntKind.wrap .i64 (x1 + (1 : Int)), ((x0.set x5.toNat (x1, (x0.getD x5.toNat ((0 : Int), (0 : Int), (0 : Int))).2.1, (x0.getD x5.toNat ((0 : Int), (0 : Int), (0 : Int))).2.2)).getD x5.toNat ((0 : Int), (0 : Int), (0 : Int))).2.2)).getD x5.toNat ((0 : Int), (0 : Int), (0 : Int))).1, (((x0.set x5.toNat (x1, (x0.getD x5.toNat ((0 : Int), (0 : Int), (0 : Int))).2.1, (x0.getD x5.toNat ((0 : Int), (0 : Int), (0 : Int))).2.2)).set x5.toNat (((x0.set x5.toNat (x1, (x0.getD x5.toNat ((0 : Int), (0 : Int), (0 : Int))).2.1, (x0.getD x5.toNat ((0 : Int), (0 : Int), (0 : Int))).2.2)).getD x5.toNat ((0 : Int), (0 : Int), (0 : Int))).1, IntKind.wrap .i64 (x1 + (1 : Int)), ((x0.set x5.toNat (x1, (x0.getD x5.toNat ((0 : Int), (0 : Int), (0 : Int))).2.1, (x0.getD x5.toNat ((0 : Int), (0 : Int), (0 : Int))).2.2)).getD x5.toNat ((0 : Int), (0 : Int), (0 : Int))).2.2)).getD x5.toNat ((0 : Int), (0 : Int), (0 : Int))).2.1, IntKind.wrap .i64 ((IntKind.wrap .i64 (x1 + (1 : Int))) + (1 : Int)))) (IntKind.wrap .i64 ((IntKind.wrap .i64 ((IntKind.wrap .i64 (x1 + (1 : Int))) + (1 : Int))) + (1 : Int))) (IntKind.wrap .i64 (x5 + (1 : Int)))) else none) else none) else none
    else
      K x0 x1
def laws_markIntA3S.F (n : Nat) (x0 : List (Int × Int × Int)) (x1 : Int) : Option (Int × (List (Int × Int × Int))) :=
  laws_markIntA3S.l0 n (fun y1 y2 =>
    some (y2, y1)) n x0 x1 (0 : Int)

/-- loop.example/g01158/laws.markIntS -/
def laws_markIntS.l0 (n : Nat) (K : (List (Int)) → Int → Option (Int × (List (Int)))) : Nat → (List (Int)) → Int → Int → Option (Int × (List (Int)))
  | 0, _, _, _ => none
  | k + 1, x0, x1, x5 =>
    if (decide (x5 < (x0.length : Int))) = true then
      if 0 ≤ x5 ∧ x5 < (x0.length : Int) then (laws_markIntS.l0 n K k (x0.set x5.toNat x1) (IntKind.wrap .i64 (x1 + (1 : Int))) (IntKind.wrap .i64 (x5 + (1 : Int)))) else none
    else
      K x0 x1
def laws_markIntS.F (n : Nat) (x0 : List (Int)) (x1 : Int) : Option (Int × (List (Int))) :=
  laws_markIntS.l0 n (fun y1 y2 =>
    some (y2, y1)) n x0 x1 (0 : Int)

/-- loop.example/g01158/laws.markMaze -/
def laws_markMaze.F (n : Nat) (x0_0 : Int) (x0_1 : List (Int × Int × Int)) (x0_2 : List (Int)) (x1 : Int) : Option (Int × Int × (List (Int × Int × Int)) × (List (Int))) :=
  (laws_markIntA3S.F n x0_1 x1).bind fun r1 =>
  (laws_markIntS.F n x0_2 r1.1).bind fun r2 =>
  some (r2.1, x0_0, r1.2, r2.2)

/-- loop.example/g01158/laws.heldIntS -/
def laws_heldIntS.l0 (n : Nat) (K : Int → Option (Int)) : Nat → (List (Int)) → Int → Int → Option (Int)
  | 0, _, _, _ => none
  | k + 1, x0, x1, x5 =>
    if (decide (x5 < (x0.length : Int))) = true then
      if 0 ≤ x5 ∧ x5 < (x0.length : Int) then (if (!decide ((x0.getD x5.toNat (0 : Int)) = x1)) = true then
        some (-1 : Int)
      else
        laws_heldIntS.l0 n K k x0 (IntKind.wrap .i64 (x1 + (1 : Int))) (IntKind.wrap .i64 (x5 + (1 : Int)))) else none
    else
      K x1
def laws_heldIntS.F (n : Nat) (x0 : List (Int)) (x1 : Int) : Option (Int) :=
  laws_heldIntS.l0 n (fun y1 =>
    some y1) n x0 x1 (0 : Int)

/-- loop.example/g01158/laws.FnExactReachWith -/
def laws_FnExactReachWith.F (n : Nat) (x0_0 : Int) (x0_1 : List (Int × Int × Int)) (x0_2 : List (Int)) (x1 : Int) (x2 : Int) : Option (Bool) :=
  (laws_szMaze.F n x0_0 x0_1 x0_2 (1048576 : Int)).bind fun r1 =>
  if (decide (r1 < (0 : Int))) = true then
    some true
  else
    (laws_toMaze.F n x0_0 x0_1 x0_2).bind fun r2 =>
    (spec_ReachWith.F n r2.1 r2.2.1 r2.2.2 x1 x2).bind fun r3 =>
    (laws_toMaze.F n x0_0 x0_1 x0_2).bind fun r4 =>
    (impl_ReachWith.F n r4.1 r4.2.1 r4.2.2 x1 x2).bind fun r5 =>
    let j10 : (Int) → (Int) → (Int) → (List (Int × Int × Int)) → (List (Int)) → (List (Int)) → (Bool) → (Int) → (List (Int × Int × Int)) → (List (Int)) → (List (Int)) → (Bool) → Option (Bool) := fun j10_x1 j10_x2 j10_x3_0 j10_x3_1 j10_x3_2 j10_x8 j10_x9 j10_x10_0 j10_x10_1 j10_x10_2 j10_x11 j10_x12 =>
      (laws_toMaze.F n j10_x3_0 j10_x3_1 j10_x3_2).bind fun r7 =>
      (laws_eqMaze.F n j10_x10_0 j10_x10_1 j10_x10_2 r7.1 r7.2.1 r7.2.2).bind fun r8 =>
      if (!r8) = true then
        some false
      else
        (laws_markMaze.F n j10_x10_0 j10_x10_1 j10_x10_2 (1 : Int)).bind fun r9 =>
        let j16 : (Int) → (Int) → (Int) → (List (Int × Int × Int)) → (List (Int)) → (List (Int)) → (Bool) → (List (Int)) → Option (Bool) := fun j16_x1 j16_x2 j16_x3_0 j16_x3_1 j16_x3_2 j16_x8 j16_x9 j16_x11 =>
          (laws_markIntS.F n j16_x11 (1 : Int)).bind fun r11 =>
          (laws_heldIntS.F n r11.2 (1 : Int)).bind fun r12 =>
          if (decide (r12 < (0 : Int))) = true then
            some false
          else
            if (!decide (r12 = r11.1)) = true then
              some false
            else
              (laws_toMaze.F n j16_x3_0 j16_x3_1 j16_x3_2).bind fun r13 =>
              (impl_ReachWith.F n r13.1 r13.2.1 r13.2.2 j16_x1 j16_x2).bind fun r14 =>
              (laws_eqIntS.F n r14.1 j16_x8).bind fun r15 =>
              if (!r15) = true then
                some false
              else
                if (!(r14.2 == j16_x9)) = true then
                  some false
                else
                  (laws_heldIntS.F n r11.2 (1 : Int)).bind fun r16 =>
                  if (decide (r16 < (0 : Int))) = true then
                    some false
                  else
                    if (!decide (r16 = r11.1)) = true then
                      some false
                    else
                      some true
        if (decide (r9.1 < (0 : Int))) = true then
          some false
        else
          (laws_eqIntS.F n j10_x11 j10_x8).bind fun r10 =>
          if (!r10) = true then
            some false
          else
            if (!(j10_x12 == j10_x9)) = true then
              some false
            else
              j16 j10_x1 j10_x2 j10_x3_0 j10_x3_1 j10_x3_2 j10_x8 j10_x9 j10_x11
    (laws_eqIntS.F n r5.1 r3.1).bind fun r6 =>
    if (!r6) = true then
      some false
    else
      if (!(r5.2 == r3.2)) = true then
        some false
      else
        j10 x1 x2 x0_0 x0_1 x0_2 r3.1 r3.2 r4.1 r4.2.1 r4.2.2 r5.1 r5.2

/-- loop.example/g01158/spec.l3Ask -/
def spec_l3Ask.F (n : Nat) (x0_0 : Int) (x0_1 : List (Int × Int × Int)) (x0_2 : List (Int)) (x1 : Int) : Option (Bool) :=
  (spec_l2Maze.F n x0_0 x0_1 x0_2).bind fun r1 =>
  if r1 = true then
    (spec_l2Set.F n x1).bind fun r2 =>
    some r2
  else
    some false

/-- loop.example/g01158/spec.l2Close -/
def spec_l2Close.l2 (n : Nat) (K : Int → Int → (List (Int × Int × Int)) → (List (Int)) → (List (Int)) → Int → Option (Int × (List (Int)))) : Nat → Int → Int → (List (Int × Int × Int)) → (List (Int)) → (List (Int)) → Int → Int → Option (Int × (List (Int)))
  | 0, _, _, _, _, _, _, _ => none
  | k + 1, x1, x2_0, x2_1, x2_2, x6, x7, x8 =>
    if (decide (x8 < (x6.length : Int))) = true then
      if 0 ≤ x8 ∧ x8 < (x6.length : Int) then (if 0 ≤ (x6.getD x8.toNat (0 : Int)) ∧ (x6.getD x8.toNat (0 : Int)) < (x2_2.length : Int) then (spec_l2Close.l2 n K k x1 x2_0 x2_1 x2_2 x6 (bitOr .i64 x7 (x2_2.getD ((x6.getD x8.toNat (0 : Int)).toNat) (0 : Int))) (IntKind.wrap .i64 (x8 + (1 : Int)))) else none) else none
    else
      K x1 x2_0 x2_1 x2_2 x6 x7
def spec_l2Close.l0 (n : Nat) (K : Unit → Option (Int × (List (Int)))) : Nat → Int → Int → (List (Int × Int × Int)) → (List (Int)) → Option (Int × (List (Int)))
  | 0, _, _, _, _ => none
  | k + 1, x1, x2_0, x2_1, x2_2 =>
    (spec_l2Reach.F n x2_0 x2_1 x2_2 (0 : Int) x1).bind fun r1 =>
    spec_l2Close.l2 n (fun y2 y3 y4 y5 y6 y7 =>
      if (decide (y7 = y2)) = true then
        some (y2, y6)
      else
        spec_l2Close.l0 n K k y7 y3 y4 y5) n x1 x2_0 x2_1 x2_2 r1 x1 (0 : Int)
def spec_l2Close.F (n : Nat) (x0_0 : Int) (x0_1 : List (Int × Int × Int)) (x0_2 : List (Int)) (x1 : Int) : Option (Int × (List (Int))) :=
  spec_l2Close.l0 n (fun _ =>
    none) n x1 x0_0 x0_1 x0_2

/-- loop.example/g01158/spec.l3Wins -/
def spec_l3Wins.F (n : Nat) (x0_0 : Int) (x0_1 : List (Int × Int × Int)) (x0_2 : List (Int)) (x1 : Int) : Option (Bool) :=
  (spec_l2Close.F n x0_0 x0_1 x0_2 x1).bind fun r1 =>
  (spec_l1Has.F n r1.2 (IntKind.wrap .i64 (x0_0 - (1 : Int)))).bind fun r2 =>
  some r2

/-- loop.example/g01158/spec.CanWin -/
def spec_CanWin.F (n : Nat) (x0_0 : Int) (x0_1 : List (Int × Int × Int)) (x0_2 : List (Int)) (x1 : Int) : Option (Bool × Bool) :=
  (spec_l3Ask.F n x0_0 x0_1 x0_2 x1).bind fun r1 =>
  if (!r1) = true then
    some (false, false)
  else
    (spec_l3Wins.F n x0_0 x0_1 x0_2 x1).bind fun r2 =>
    some (r2, true)

/-- loop.example/g01158/impl.asked -/
def impl_asked.F (n : Nat) (x0_0 : Int) (x0_1 : List (Int × Int × Int)) (x0_2 : List (Int)) (x1 : Int) : Option (Bool) :=
  (impl_IsMaze.F n x0_0 x0_1 x0_2).bind fun r1 =>
  if r1 = true then
    (impl_isSet.F n x1).bind fun r2 =>
    some r2
  else
    some false

/-- loop.example/g01158/impl.rounds -/
def impl_rounds.l2 (n : Nat) (K : Int → (List (Int × Int × Int)) → (List (Int)) → (List (Int × Int)) → Int → Int → Int → Option ((List (Int × Int)))) : Nat → Int → (List (Int × Int × Int)) → (List (Int)) → (List (Int × Int)) → Int → Int → Int → (List (Int)) → Int → Int → Option ((List (Int × Int)))
  | 0, _, _, _, _, _, _, _, _, _, _ => none
  | k + 1, x2_0, x2_1, x2_2, x5, x6, x7, x8, x18, x19, x20 =>
    if (decide (x20 < x19)) = true then
      if 0 ≤ x20 ∧ x20 < (x18.length : Int) then (if 0 ≤ (x18.getD x20.toNat (0 : Int)) ∧ (x18.getD x20.toNat (0 : Int)) < (x2_2.length : Int) then (impl_rounds.l2 n K k x2_0 x2_1 x2_2 x5 x6 x7 (bitOr .i64 x8 (x2_2.getD ((x18.getD x20.toNat (0 : Int)).toNat) (0 : Int))) x18 x19 (IntKind.wrap .i64 (x20 + (1 : Int)))) else none) else none
    else
      K x2_0 x2_1 x2_2 x5 x6 x7 x8
def impl_rounds.l0 (n : Nat) (K : Unit → Option ((List (Int × Int)))) : Nat → Int → (List (Int × Int × Int)) → (List (Int)) → (List (Int × Int)) → Int → Option ((List (Int × Int)))
  | 0, _, _, _, _, _ => none
  | k + 1, x2_0, x2_1, x2_2, x5, x6 =>
    (impl_reach.F n x2_0 x2_1 x2_2 (0 : Int) x6).bind fun r1 =>
    (impl_members.F n r1).bind fun r2 =>
    impl_rounds.l2 n (fun y3 y4 y5 y6 y7 y8 y9 =>
      if y6.length + ([(y7, y8)] : List (Int × Int)).length ≤ 4398046511104 then (if (decide (y9 = y7)) = true then
        some (y6 ++ ([(y7, y8)] : List (Int × Int)))
      else
        impl_rounds.l0 n K k y3 y4 y5 (y6 ++ ([(y7, y8)] : List (Int × Int))) y9) else none) n x2_0 x2_1 x2_2 x5 x6 r1 x6 r2 (r2.length : Int) (0 : Int)
def impl_rounds.F (n : Nat) (x0_0 : Int) (x0_1 : List (Int × Int × Int)) (x0_2 : List (Int)) (x1 : Int) : Option ((List (Int × Int))) :=
  impl_rounds.l0 n (fun _ =>
    none) n x0_0 x0_1 x0_2 ([] : List (Int × Int)) x1

/-- loop.example/g01158/impl.atLast -/
def impl_atLast.F (n : Nat) (x0_0 : Int) (x0_1 : List (Int × Int × Int)) (x0_2 : List (Int)) (x1 : Int) : Option (Int × Int) :=
  (impl_rounds.F n x0_0 x0_1 x0_2 x1).bind fun r1 =>
  if 0 ≤ (IntKind.wrap .i64 ((r1.length : Int) - (1 : Int))) ∧ (IntKind.wrap .i64 ((r1.length : Int) - (1 : Int))) < (r1.length : Int) then (some ((r1.getD ((IntKind.wrap .i64 ((r1.length : Int) - (1 : Int))).toNat) ((0 : Int), (0 : Int))).1, (r1.getD ((IntKind.wrap .i64 ((r1.length : Int) - (1 : Int))).toNat) ((0 : Int), (0 : Int))).2)) else none

/-- loop.example/g01158/impl.canWin -/
def impl_canWin.F (n : Nat) (x0_0 : Int) (x0_1 : List (Int × Int × Int)) (x0_2 : List (Int)) (x1 : Int) : Option (Bool) :=
  (impl_atLast.F n x0_0 x0_1 x0_2 x1).bind fun r1 =>
  if (IntKind.wrap .i64 (x0_0 - (1 : Int))) < 0 then none else (some (decide ((bitAnd .i64 (shR .i64 r1.2 (IntKind.wrap .i64 (x0_0 - (1 : Int)))) 1) = (1 : Int))))

/-- loop.example/g01158/impl.CanWin -/
def impl_CanWin.F (n : Nat) (x0_0 : Int) (x0_1 : List (Int × Int × Int)) (x0_2 : List (Int)) (x1 : Int) : Option (Bool × Bool) :=
  (impl_asked.F n x0_0 x0_1 x0_2 x1).bind fun r1 =>
  if (!r1) = true then
    some (false, false)
  else
    (impl_canWin.F n x0_0 x0_1 x0_2 x1).bind fun r2 =>
    some (r2, true)

/-- loop.example/g01158/laws.FnExactCanWin -/
def laws_FnExactCanWin.F (n : Nat) (x0_0 : Int) (x0_1 : List (Int × Int × Int)) (x0_2 : List (Int)) (x1 : Int) : Option (Bool) :=
  (laws_szMaze.F n x0_0 x0_1 x0_2 (1048576 : Int)).bind fun r1 =>
  if (decide (r1 < (0 : Int))) = true then
    some true
  else
    (laws_toMaze.F n x0_0 x0_1 x0_2).bind fun r2 =>
    (spec_CanWin.F n r2.1 r2.2.1 r2.2.2 x1).bind fun r3 =>
    (laws_toMaze.F n x0_0 x0_1 x0_2).bind fun r4 =>
    (impl_CanWin.F n r4.1 r4.2.1 r4.2.2 x1).bind fun r5 =>
    if (!(r5.1 == r3.1)) = true then
      some false
    else
      if (!(r5.2 == r3.2)) = true then
        some false
      else
        (laws_toMaze.F n x0_0 x0_1 x0_2).bind fun r6 =>
        (laws_eqMaze.F n r4.1 r4.2.1 r4.2.2 r6.1 r6.2.1 r6.2.2).bind fun r7 =>
        if (!r7) = true then
          some false
        else
          some true

/-- loop.example/g01158/spec.HelpfulColours -/
def spec_HelpfulColours.l0 (n : Nat) (K : Int → Option (Int × Bool)) : Nat → Int → Int → (List (Int × Int × Int)) → (List (Int)) → Int → Int → Option (Int × Bool)
  | 0, _, _, _, _, _, _ => none
  | k + 1, x1, x2_0, x2_1, x2_2, x6, x7 =>
    if (decide (x7 < (6 : Int))) = true then
      if x7 < 0 then none else ((spec_l3Wins.F n x2_0 x2_1 x2_2 (bitOr .i64 x1 (shL .i64 1 x7))).bind fun r3 =>
      if r3 = true then
        if x7 < 0 then none else (spec_HelpfulColours.l0 n K k x1 x2_0 x2_1 x2_2 (bitOr .i64 x6 (shL .i64 1 x7)) (IntKind.wrap .i64 (x7 + (1 : Int))))
      else
        spec_HelpfulColours.l0 n K k x1 x2_0 x2_1 x2_2 x6 (IntKind.wrap .i64 (x7 + (1 : Int))))
    else
      K x6
def spec_HelpfulColours.F (n : Nat) (x0_0 : Int) (x0_1 : List (Int × Int × Int)) (x0_2 : List (Int)) (x1 : Int) : Option (Int × Bool) :=
  (spec_l3Ask.F n x0_0 x0_1 x0_2 x1).bind fun r1 =>
  if (!r1) = true then
    some ((0 : Int), false)
  else
    (spec_l3Wins.F n x0_0 x0_1 x0_2 x1).bind fun r2 =>
    if r2 = true then
      some ((0 : Int), false)
    else
      spec_HelpfulColours.l0 n (fun y4 =>
        some (y4, true)) n x1 x0_0 x0_1 x0_2 (0 : Int) (0 : Int)

/-- loop.example/g01158/impl.HelpfulColours -/
def impl_HelpfulColours.l0 (n : Nat) (K : Int → Option (Int × Bool)) : Nat → Int → Int → (List (Int × Int × Int)) → (List (Int)) → Int → Int → Option (Int × Bool)
  | 0, _, _, _, _, _, _ => none
  | k + 1, x1, x2_0, x2_1, x2_2, x6, x17 =>
    if (decide (x17 < (6 : Int))) = true then
      if x17 < 0 then none else ((impl_canWin.F n x2_0 x2_1 x2_2 (bitOr .i64 x1 (shL .i64 1 x17))).bind fun r3 =>
      if r3 = true then
        if x17 < 0 then none else (impl_HelpfulColours.l0 n K k x1 x2_0 x2_1 x2_2 (bitOr .i64 x6 (shL .i64 1 x17)) (IntKind.wrap .i64 (x17 + (1 : Int))))
      else
        impl_HelpfulColours.l0 n K k x1 x2_0 x2_1 x2_2 x6 (IntKind.wrap .i64 (x17 + (1 : Int))))
    else
      K x6
def impl_HelpfulColours.F (n : Nat) (x0_0 : Int) (x0_1 : List (Int × Int × Int)) (x0_2 : List (Int)) (x1 : Int) : Option (Int × Bool) :=
  (impl_asked.F n x0_0 x0_1 x0_2 x1).bind fun r1 =>
  if (!r1) = true then
    some ((0 : Int), false)
  else
    (impl_canWin.F n x0_0 x0_1 x0_2 x1).bind fun r2 =>
    if r2 = true then
      some ((0 : Int), false)
    else
      impl_HelpfulColours.l0 n (fun y4 =>
        some (y4, true)) n x1 x0_0 x0_1 x0_2 (0 : Int) (0 : Int)

/-- loop.example/g01158/laws.FnExactHelpfulColours -/
def laws_FnExactHelpfulColours.F (n : Nat) (x0_0 : Int) (x0_1 : List (Int × Int × Int)) (x0_2 : List (Int)) (x1 : Int) : Option (Bool) :=
  (laws_szMaze.F n x0_0 x0_1 x0_2 (1048576 : Int)).bind fun r1 =>
  if (decide (r1 < (0 : Int))) = true then
    some true
  else
    (laws_toMaze.F n x0_0 x0_1 x0_2).bind fun r2 =>
    (spec_HelpfulColours.F n r2.1 r2.2.1 r2.2.2 x1).bind fun r3 =>
    (laws_toMaze.F n x0_0 x0_1 x0_2).bind fun r4 =>
    (impl_HelpfulColours.F n r4.1 r4.2.1 r4.2.2 x1).bind fun r5 =>
    if (!decide (r5.1 = r3.1)) = true then
      some false
    else
      if (!(r5.2 == r3.2)) = true then
        some false
      else
        (laws_toMaze.F n x0_0 x0_1 x0_2).bind fun r6 =>
        (laws_eqMaze.F n r4.1 r4.2.1 r4.2.2 r6.1 r6.2.1 r6.2.2).bind fun r7 =>
        if (!r7) = true then
          some false
        else
          some true

/-- loop.example/g01158/spec.l3Rounds -/
def spec_l3Rounds.l2 (n : Nat) (K : Int → (List (Int × Int × Int)) → (List (Int)) → (List (Int)) → Int → Int → Option ((List (Int)))) : Nat → Int → (List (Int × Int × Int)) → (List (Int)) → (List (Int)) → Int → (List (Int)) → Int → Int → Option ((List (Int)))
  | 0, _, _, _, _, _, _, _, _ => none
  | k + 1, x2_0, x2_1, x2_2, x5, x6, x7, x8, x9 =>
    if (decide (x9 < (x7.length : Int))) = true then
      if 0 ≤ x9 ∧ x9 < (x7.length : Int) then (if 0 ≤ (x7.getD x9.toNat (0 : Int)) ∧ (x7.getD x9.toNat (0 : Int)) < (x2_2.length : Int) then (spec_l3Rounds.l2 n K k x2_0 x2_1 x2_2 x5 x6 x7 (bitOr .i64 x8 (x2_2.getD ((x7.getD x9.toNat (0 : Int)).toNat) (0 : Int))) (IntKind.wrap .i64 (x9 + (1 : Int)))) else none) else none
    else
      K x2_0 x2_1 x2_2 x5 x6 x8
def spec_l3Rounds.l0 (n : Nat) (K : Unit → Option ((List (Int)))) : Nat → Int → (List (Int × Int × Int)) → (List (Int)) → (List (Int)) → Option ((List (Int)))
  | 0, _, _, _, _ => none
  | k + 1, x2_0, x2_1, x2_2, x5 =>
    if 0 ≤ (IntKind.wrap .i64 ((x5.length : Int) - (1 : Int))) ∧ (IntKind.wrap .i64 ((x5.length : Int) - (1 : Int))) < (x5.length : Int) then ((spec_l2Reach.F n x2_0 x2_1 x2_2 (0 : Int) (x5.getD ((IntKind.wrap .i64 ((x5.length : Int) - (1 : Int))).toNat) (0 : Int))).bind fun r1 =>
    spec_l3Rounds.l2 n (fun y2 y3 y4 y5 y6 y7 =>
      if (decide (y7 = y6)) = true then
        some y5
      else
        if y5.length + ([y7] : List (Int)).length ≤ 4398046511104 then (spec_l3Rounds.l0 n K k y2 y3 y4 (y5 ++ ([y7] : List (Int)))) else none) n x2_0 x2_1 x2_2 x5 (x5.getD ((IntKind.wrap .i64 ((x5.length : Int) - (1 : Int))).toNat) (0 : Int)) r1 (x5.getD ((IntKind.wrap .i64 ((x5.length : Int) - (1 : Int))).toNat) (0 : Int)) (0 : Int)) else none
def spec_l3Rounds.F (n : Nat) (x0_0 : Int) (x0_1 : List (Int × Int × Int)) (x0_2 : List (Int)) (x1 : Int) : Option ((List (Int))) :=
  spec_l3Rounds.l0 n (fun _ =>
    none) n x0_0 x0_1 x0_2 ([x1] : List (Int))

/-- loop.example/g01158/spec.l3Entered -/
def spec_l3Entered.l2 (n : Nat) (K : Int → (List (Int × Int × Int)) → (List (Int)) → (List (Int)) → (List (Int)) → Int → Option ((List (Int)))) : Nat → Int → (List (Int × Int × Int)) → (List (Int)) → (List (Int)) → (List (Int)) → Int → (List (Int)) → Int → Option ((List (Int)))
  | 0, _, _, _, _, _, _, _, _ => none
  | k + 1, x2_0, x2_1, x2_2, x5, x6, x7, x8, x9 =>
    if (decide (x9 < (x8.length : Int))) = true then
      if 0 ≤ x9 ∧ x9 < (x8.length : Int) then (if 0 ≤ (x8.getD x9.toNat (0 : Int)) ∧ (x8.getD x9.toNat (0 : Int)) < (x5.length : Int) then (if (decide ((x5.getD ((x8.getD x9.toNat (0 : Int)).toNat) (0 : Int)) = (0 : Int))) = true then
        if 0 ≤ x9 ∧ x9 < (x8.length : Int) then (if 0 ≤ (x8.getD x9.toNat (0 : Int)) ∧ (x8.getD x9.toNat (0 : Int)) < (x5.length : Int) then (spec_l3Entered.l2 n K k x2_0 x2_1 x2_2 (x5.set ((x8.getD x9.toNat (0 : Int)).toNat) (IntKind.wrap .i64 (x7 + (1 : Int)))) x6 x7 x8 (IntKind.wrap .i64 (x9 + (1 : Int)))) else none) else none
      else
        spec_l3Entered.l2 n K k x2_0 x2_1 x2_2 x5 x6 x7 x8 (IntKind.wrap .i64 (x9 + (1 : Int)))) else none) else none
    else
      K x2_0 x2_1 x2_2 x5 x6 x7
def spec_l3Entered.l0 (n : Nat) (K : (List (Int)) → Option ((List (Int)))) : Nat → Int → (List (Int × Int × Int)) → (List (Int)) → (List (Int)) → (List (Int)) → Int → Option ((List (Int)))
  | 0, _, _, _, _, _, _ => none
  | k + 1, x2_0, x2_1, x2_2, x5, x6, x7 =>
    if (decide (x7 < (x6.length : Int))) = true then
      if 0 ≤ x7 ∧ x7 < (x6.length : Int) then ((spec_l2Reach.F n x2_0 x2_1 x2_2 (0 : Int) (x6.getD x7.toNat (0 : Int))).bind fun r2 =>
      spec_l3Entered.l2 n (fun y3 y4 y5 y6 y7 y8 =>
        spec_l3Entered.l0 n K k y3 y4 y5 y6 y7 (IntKind.wrap .i64 (y8 + (1 : Int)))) n x2_0 x2_1 x2_2 x5 x6 x7 r2 (0 : Int)) else none
    else
      K x5
def spec_l3Entered.F (n : Nat) (x0_0 : Int) (x0_1 : List (Int × Int × Int)) (x0_2 : List (Int)) (x1 : Int) : Option ((List (Int))) :=
  if 0 ≤ x0_0 ∧ x0_0 ≤ x0_0 ∧ x0_0 ≤ 4398046511104 then ((spec_l3Rounds.F n x0_0 x0_1 x0_2 x1).bind fun r1 =>
  spec_l3Entered.l0 n (fun y9 =>
    some y9) n x0_0 x0_1 x0_2 (List.replicate x0_0.toNat (0 : Int)) r1 (0 : Int)) else none

/-- loop.example/g01158/spec.WinRound -/
def spec_WinRound.F (n : Nat) (x0_0 : Int) (x0_1 : List (Int × Int × Int)) (x0_2 : List (Int)) (x1 : Int) : Option (Int × Bool) :=
  (spec_l3Ask.F n x0_0 x0_1 x0_2 x1).bind fun r1 =>
  if (!r1) = true then
    some ((0 : Int), false)
  else
    (spec_l3Entered.F n x0_0 x0_1 x0_2 x1).bind fun r2 =>
    if 0 ≤ (IntKind.wrap .i64 (x0_0 - (1 : Int))) ∧ (IntKind.wrap .i64 (x0_0 - (1 : Int))) < (r2.length : Int) then (some (r2.getD ((IntKind.wrap .i64 (x0_0 - (1 : Int))).toNat) (0 : Int), (decide ((r2.getD ((IntKind.wrap .i64 (x0_0 - (1 : Int))).toNat) (0 : Int)) > (0 : Int))))) else none

/-- loop.example/g01158/impl.nodeRounds -/
def impl_nodeRounds.l2 (n : Nat) (K : (List (Int)) → (List (Int × Int)) → Int → Int → Option ((List (Int)))) : Nat → (List (Int)) → Int → (List (Int × Int)) → Int → Int → (List (Int)) → Int → Int → Option ((List (Int)))
  | 0, _, _, _, _, _, _, _, _ => none
  | k + 1, x5, x6, x15, x16, x17, x24, x25, x26 =>
    if (decide (x26 < x25)) = true then
      if 0 ≤ x26 ∧ x26 < (x24.length : Int) then (if 0 ≤ (x24.getD x26.toNat (0 : Int)) ∧ (x24.getD x26.toNat (0 : Int)) < (x5.length : Int) then (if (decide ((x5.getD ((x24.getD x26.toNat (0 : Int)).toNat) (0 : Int)) = (0 : Int))) = true then
        if 0 ≤ (x24.getD x26.toNat (0 : Int)) ∧ (x24.getD x26.toNat (0 : Int)) < (x5.length : Int) then (impl_nodeRounds.l2 n K k (x5.set ((x24.getD x26.toNat (0 : Int)).toNat) (IntKind.wrap .i64 (x6 + (1 : Int)))) x6 x15 x16 x17 x24 x25 (IntKind.wrap .i64 (x26 + (1 : Int)))) else none
      else
        impl_nodeRounds.l2 n K k x5 x6 x15 x16 x17 x24 x25 (IntKind.wrap .i64 (x26 + (1 : Int)))) else none) else none
    else
      K x5 x15 x16 x17
def impl_nodeRounds.l0 (n : Nat) (K : (List (Int)) → Option ((List (Int)))) : Nat → (List (Int)) → (List (Int × Int)) → Int → Int → Option ((List (Int)))
  | 0, _, _, _, _ => none
  | k + 1, x5, x15, x16, x17 =>
    if (decide (x17 < x16)) = true then
      if 0 ≤ x17 ∧ x17 < (x15.length : Int) then ((impl_members.F n ((x15.getD x17.toNat ((0 : Int), (0 : Int))).2)).bind fun r2 =>
      impl_nodeRounds.l2 n (fun y3 y4 y5 y6 =>
        impl_nodeRounds.l0 n K k y3 y4 y5 (IntKind.wrap .i64 (y6 + (1 : Int)))) n x5 x17 x15 x16 x17 r2 (r2.length : Int) (0 : Int)) else none
    else
      K x5
def impl_nodeRounds.F (n : Nat) (x0_0 : Int) (x0_1 : List (Int × Int × Int)) (x0_2 : List (Int)) (x1 : Int) : Option ((List (Int))) :=
  if 0 ≤ x0_0 ∧ x0_0 ≤ x0_0 ∧ x0_0 ≤ 4398046511104 then ((impl_rounds.F n x0_0 x0_1 x0_2 x1).bind fun r1 =>
  impl_nodeRounds.l0 n (fun y7 =>
    some y7) n (List.replicate x0_0.toNat (0 : Int)) r1 (r1.length : Int) (0 : Int)) else none

/-- loop.example/g01158/impl.WinRound -/
def impl_WinRound.F (n : Nat) (x0_0 : Int) (x0_1 : List (Int × Int × Int)) (x0_2 : List (Int)) (x1 : Int) : Option (Int × Bool) :=
  (impl_asked.F n x0_0 x0_1 x0_2 x1).bind fun r1 =>
  if (!r1) = true then
    some ((0 : Int), false)
  else
    (impl_nodeRounds.F n x0_0 x0_1 x0_2 x1).bind fun r2 =>
    if 0 ≤ (IntKind.wrap .i64 (x0_0 - (1 : Int))) ∧ (IntKind.wrap .i64 (x0_0 - (1 : Int))) < (r2.length : Int) then (some (r2.getD ((IntKind.wrap .i64 (x0_0 - (1 : Int))).toNat) (0 : Int), (decide ((r2.getD ((IntKind.wrap .i64 (x0_0 - (1 : Int))).toNat) (0 : Int)) > (0 : Int))))) else none

/-- loop.example/g01158/laws.FnExactWinRound -/
def laws_FnExactWinRound.F (n : Nat) (x0_0 : Int) (x0_1 : List (Int × Int × Int)) (x0_2 : List (Int)) (x1 : Int) : Option (Bool) :=
  (laws_szMaze.F n x0_0 x0_1 x0_2 (1048576 : Int)).bind fun r1 =>
  if (decide (r1 < (0 : Int))) = true then
    some true
  else
    (laws_toMaze.F n x0_0 x0_1 x0_2).bind fun r2 =>
    (spec_WinRound.F n r2.1 r2.2.1 r2.2.2 x1).bind fun r3 =>
    (laws_toMaze.F n x0_0 x0_1 x0_2).bind fun r4 =>
    (impl_WinRound.F n r4.1 r4.2.1 r4.2.2 x1).bind fun r5 =>
    if (!decide (r5.1 = r3.1)) = true then
      some false
    else
      if (!(r5.2 == r3.2)) = true then
        some false
      else
        (laws_toMaze.F n x0_0 x0_1 x0_2).bind fun r6 =>
        (laws_eqMaze.F n r4.1 r4.2.1 r4.2.2 r6.1 r6.2.1 r6.2.2).bind fun r7 =>
        if (!r7) = true then
          some false
        else
          some true

/-- loop.example/g01158/spec.RoundsOf -/
def spec_RoundsOf.F (n : Nat) (x0_0 : Int) (x0_1 : List (Int × Int × Int)) (x0_2 : List (Int)) (x1 : Int) : Option ((List (Int)) × Bool) :=
  (spec_l3Ask.F n x0_0 x0_1 x0_2 x1).bind fun r1 =>
  if (!r1) = true then
    some (([] : List (Int)), false)
  else
    (spec_l3Rounds.F n x0_0 x0_1 x0_2 x1).bind fun r2 =>
    some (r2, true)

/-- loop.example/g01158/impl.RoundsOf -/
def impl_RoundsOf.l0 (n : Nat) (K : (List (Int)) → Option ((List (Int)) × Bool)) : Nat → (List (Int)) → (List (Int × Int)) → Int → Int → Option ((List (Int)) × Bool)
  | 0, _, _, _, _ => none
  | k + 1, x6, x16, x17, x18 =>
    if (decide (x18 < x17)) = true then
      if 0 ≤ x18 ∧ x18 < (x16.length : Int) then (if x6.length + ([(x16.getD x18.toNat ((0 : Int), (0 : Int))).1] : List (Int)).length ≤ 4398046511104 then (impl_RoundsOf.l0 n K k (x6 ++ ([(x16.getD x18.toNat ((0 : Int), (0 : Int))).1] : List (Int))) x16 x17 (IntKind.wrap .i64 (x18 + (1 : Int)))) else none) else none
    else
      K x6
def impl_RoundsOf.F (n : Nat) (x0_0 : Int) (x0_1 : List (Int × Int × Int)) (x0_2 : List (Int)) (x1 : Int) : Option ((List (Int)) × Bool) :=
  (impl_asked.F n x0_0 x0_1 x0_2 x1).bind fun r1 =>
  if (!r1) = true then
    some (([] : List (Int)), false)
  else
    (impl_rounds.F n x0_0 x0_1 x0_2 x1).bind fun r2 =>
    impl_RoundsOf.l0 n (fun y3 =>
      some (y3, true)) n ([] : List (Int)) r2 (r2.length : Int) (0 : Int)

/-- loop.example/g01158/laws.FnExactRoundsOf -/
def laws_FnExactRoundsOf.F (n : Nat) (x0_0 : Int) (x0_1 : List (Int × Int × Int)) (x0_2 : List (Int)) (x1 : Int) : Option (Bool) :=
  (laws_szMaze.F n x0_0 x0_1 x0_2 (1048576 : Int)).bind fun r1 =>
  if (decide (r1 < (0 : Int))) = true then
    some true
  else
    (laws_toMaze.F n x0_0 x0_1 x0_2).bind fun r2 =>
    (spec_RoundsOf.F n r2.1 r2.2.1 r2.2.2 x1).bind fun r3 =>
    (laws_toMaze.F n x0_0 x0_1 x0_2).bind fun r4 =>
    (impl_RoundsOf.F n r4.1 r4.2.1 r4.2.2 x1).bind fun r5 =>
    let j10 : (Int) → (Int) → (List (Int × Int × Int)) → (List (Int)) → (List (Int)) → (Bool) → (Int) → (List (Int × Int × Int)) → (List (Int)) → (List (Int)) → (Bool) → Option (Bool) := fun j10_x1 j10_x2_0 j10_x2_1 j10_x2_2 j10_x6 j10_x7 j10_x8_0 j10_x8_1 j10_x8_2 j10_x9 j10_x10 =>
      (laws_toMaze.F n j10_x2_0 j10_x2_1 j10_x2_2).bind fun r7 =>
      (laws_eqMaze.F n j10_x8_0 j10_x8_1 j10_x8_2 r7.1 r7.2.1 r7.2.2).bind fun r8 =>
      if (!r8) = true then
        some false
      else
        (laws_markMaze.F n j10_x8_0 j10_x8_1 j10_x8_2 (1 : Int)).bind fun r9 =>
        let j16 : (Int) → (Int) → (List (Int × Int × Int)) → (List (Int)) → (List (Int)) → (Bool) → (List (Int)) → Option (Bool) := fun j16_x1 j16_x2_0 j16_x2_1 j16_x2_2 j16_x6 j16_x7 j16_x9 =>
          (laws_markIntS.F n j16_x9 (1 : Int)).bind fun r11 =>
          (laws_heldIntS.F n r11.2 (1 : Int)).bind fun r12 =>
          if (decide (r12 < (0 : Int))) = true then
            some false
          else
            if (!decide (r12 = r11.1)) = true then
              some false
            else
              (laws_toMaze.F n j16_x2_0 j16_x2_1 j16_x2_2).bind fun r13 =>
              (impl_RoundsOf.F n r13.1 r13.2.1 r13.2.2 j16_x1).bind fun r14 =>
              (laws_eqIntS.F n r14.1 j16_x6).bind fun r15 =>
              if (!r15) = true then
                some false
              else
                if (!(r14.2 == j16_x7)) = true then
                  some false
                else
                  (laws_heldIntS.F n r11.2 (1 : Int)).bind fun r16 =>
                  if (decide (r16 < (0 : Int))) = true then
                    some false
                  else
                    if (!decide (r16 = r11.1)) = true then
                      some false
                    else
                      some true
        if (decide (r9.1 < (0 : Int))) = true then
          some false
        else
          (laws_eqIntS.F n j10_x9 j10_x6).bind fun r10 =>
          if (!r10) = true then
            some false
          else
            if (!(j10_x10 == j10_x7)) = true then
              some false
            else
              j16 j10_x1 j10_x2_0 j10_x2_1 j10_x2_2 j10_x6 j10_x7 j10_x9
    (laws_eqIntS.F n r5.1 r3.1).bind fun r6 =>
    if (!r6) = true then
      some false
    else
      if (!(r5.2 == r3.2)) = true then
        some false
      else
        j10 x1 x0_0 x0_1 x0_2 r3.1 r3.2 r4.1 r4.2.1 r4.2.2 r5.1 r5.2

/-- loop.example/g01158/spec.GainAtLast -/
def spec_GainAtLast.F (n : Nat) (x0_0 : Int) (x0_1 : List (Int × Int × Int)) (x0_2 : List (Int)) (x1 : Int) : Option (Int × (List (Int)) × Bool) :=
  (spec_l3Ask.F n x0_0 x0_1 x0_2 x1).bind fun r1 =>
  if (!r1) = true then
    some ((0 : Int), ([] : List (Int)), false)
  else
    (spec_l2Close.F n x0_0 x0_1 x0_2 x1).bind fun r2 =>
    some (r2.1, r2.2, true)

/-- loop.example/g01158/impl.GainAtLast -/
def impl_GainAtLast.F (n : Nat) (x0_0 : Int) (x0_1 : List (Int × Int × Int)) (x0_2 : List (Int)) (x1 : Int) : Option (Int × (List (Int)) × Bool) :=
  (impl_asked.F n x0_0 x0_1 x0_2 x1).bind fun r1 =>
  if (!r1) = true then
    some ((0 : Int), ([] : List (Int)), false)
  else
    (impl_atLast.F n x0_0 x0_1 x0_2 x1).bind fun r2 =>
    (impl_members.F n r2.2).bind fun r3 =>
    some (r2.1, r3, true)

/-- loop.example/g01158/laws.FnExactGainAtLast -/
def laws_FnExactGainAtLast.F (n : Nat) (x0_0 : Int) (x0_1 : List (Int × Int × Int)) (x0_2 : List (Int)) (x1 : Int) : Option (Bool) :=
  (laws_szMaze.F n x0_0 x0_1 x0_2 (1048576 : Int)).bind fun r1 =>
  if (decide (r1 < (0 : Int))) = true then
    some true
  else
    (laws_toMaze.F n x0_0 x0_1 x0_2).bind fun r2 =>
    (spec_GainAtLast.F n r2.1 r2.2.1 r2.2.2 x1).bind fun r3 =>
    (laws_toMaze.F n x0_0 x0_1 x0_2).bind fun r4 =>
    (impl_GainAtLast.F n r4.1 r4.2.1 r4.2.2 x1).bind fun r5 =>
    let j10 : (Int) → (Int) → (List (Int × Int × Int)) → (List (Int)) → (Int) → (List (Int)) → (Bool) → (Int) → (List (Int × Int × Int)) → (List (Int)) → (Int) → (List (Int)) → (Bool) → Option (Bool) := fun j10_x1 j10_x2_0 j10_x2_1 j10_x2_2 j10_x6 j10_x7 j10_x8 j10_x9_0 j10_x9_1 j10_x9_2 j10_x10 j10_x11 j10_x12 =>
      (laws_toMaze.F n j10_x2_0 j10_x2_1 j10_x2_2).bind fun r7 =>
      (laws_eqMaze.F n j10_x9_0 j10_x9_1 j10_x9_2 r7.1 r7.2.1 r7.2.2).bind fun r8 =>
      if (!r8) = true then
        some false
      else
        (laws_markMaze.F n j10_x9_0 j10_x9_1 j10_x9_2 (1 : Int)).bind fun r9 =>
        let j16 : (Int) → (Int) → (List (Int × Int × Int)) → (List (Int)) → (Int) → (List (Int)) → (Bool) → (List (Int)) → Option (Bool) := fun j16_x1 j16_x2_0 j16_x2_1 j16_x2_2 j16_x6 j16_x7 j16_x8 j16_x11 =>
          (laws_markIntS.F n j16_x11 (1 : Int)).bind fun r11 =>
          (laws_heldIntS.F n r11.2 (1 : Int)).bind fun r12 =>
          if (decide (r12 < (0 : Int))) = true then
            some false
          else
            if (!decide (r12 = r11.1)) = true then
              some false
            else
              (laws_toMaze.F n j16_x2_0 j16_x2_1 j16_x2_2).bind fun r13 =>
              (impl_GainAtLast.F n r13.1 r13.2.1 r13.2.2 j16_x1).bind fun r14 =>
              if (!decide (r14.1 = j16_x6)) = true then
                some false
              else
                (laws_eqIntS.F n r14.2.1 j16_x7).bind fun r15 =>
                if (!r15) = true then
                  some false
                else
                  if (!(r14.2.2 == j16_x8)) = true then
                    some false
                  else
                    (laws_heldIntS.F n r11.2 (1 : Int)).bind fun r16 =>
                    if (decide (r16 < (0 : Int))) = true then
                      some false
                    else
                      if (!decide (r16 = r11.1)) = true then
                        some false
                      else
                        some true
        if (decide (r9.1 < (0 : Int))) = true then
          some false
        else
          if (!decide (j10_x10 = j10_x6)) = true then
            some false
          else
            (laws_eqIntS.F n j10_x11 j10_x7).bind fun r10 =>
            if (!r10) = true then
              some false
            else
              if (!(j10_x12 == j10_x8)) = true then
                some false
              else
                j16 j10_x1 j10_x2_0 j10_x2_1 j10_x2_2 j10_x6 j10_x7 j10_x8 j10_x11
    if (!decide (r5.1 = r3.1)) = true then
      some false
    else
      (laws_eqIntS.F n r5.2.1 r3.2.1).bind fun r6 =>
      if (!r6) = true then
        some false
      else
        if (!(r5.2.2 == r3.2.2)) = true then
          some false
        else
          j10 x1 x0_0 x0_1 x0_2 r3.1 r3.2.1 r3.2.2 r4.1 r4.2.1 r4.2.2 r5.1 r5.2.1 r5.2.2

/-- loop.example/g01158/spec.NodeRounds -/
def spec_NodeRounds.F (n : Nat) (x0_0 : Int) (x0_1 : List (Int × Int × Int)) (x0_2 : List (Int)) (x1 : Int) : Option ((List (Int)) × Bool) :=
  (spec_l3Ask.F n x0_0 x0_1 x0_2 x1).bind fun r1 =>
  if (!r1) = true then
    some (([] : List (Int)), false)
  else
    (spec_l3Entered.F n x0_0 x0_1 x0_2 x1).bind fun r2 =>
    some (r2, true)

/-- loop.example/g01158/impl.NodeRounds -/
def impl_NodeRounds.F (n : Nat) (x0_0 : Int) (x0_1 : List (Int × Int × Int)) (x0_2 : List (Int)) (x1 : Int) : Option ((List (Int)) × Bool) :=
  (impl_asked.F n x0_0 x0_1 x0_2 x1).bind fun r1 =>
  if (!r1) = true then
    some (([] : List (Int)), false)
  else
    (impl_nodeRounds.F n x0_0 x0_1 x0_2 x1).bind fun r2 =>
    some (r2, true)

/-- loop.example/g01158/laws.FnExactNodeRounds -/
def laws_FnExactNodeRounds.F (n : Nat) (x0_0 : Int) (x0_1 : List (Int × Int × Int)) (x0_2 : List (Int)) (x1 : Int) : Option (Bool) :=
  (laws_szMaze.F n x0_0 x0_1 x0_2 (1048576 : Int)).bind fun r1 =>
  if (decide (r1 < (0 : Int))) = true then
    some true
  else
    (laws_toMaze.F n x0_0 x0_1 x0_2).bind fun r2 =>
    (spec_NodeRounds.F n r2.1 r2.2.1 r2.2.2 x1).bind fun r3 =>
    (laws_toMaze.F n x0_0 x0_1 x0_2).bind fun r4 =>
    (impl_NodeRounds.F n r4.1 r4.2.1 r4.2.2 x1).bind fun r5 =>
    let j10 : (Int) → (Int) → (List (Int × Int × Int)) → (List (Int)) → (List (Int)) → (Bool) → (Int) → (List (Int × Int × Int)) → (List (Int)) → (List (Int)) → (Bool) → Option (Bool) := fun j10_x1 j10_x2_0 j10_x2_1 j10_x2_2 j10_x6 j10_x7 j10_x8_0 j10_x8_1 j10_x8_2 j10_x9 j10_x10 =>
      (laws_toMaze.F n j10_x2_0 j10_x2_1 j10_x2_2).bind fun r7 =>
      (laws_eqMaze.F n j10_x8_0 j10_x8_1 j10_x8_2 r7.1 r7.2.1 r7.2.2).bind fun r8 =>
      if (!r8) = true then
        some false
      else
        (laws_markMaze.F n j10_x8_0 j10_x8_1 j10_x8_2 (1 : Int)).bind fun r9 =>
        let j16 : (Int) → (Int) → (List (Int × Int × Int)) → (List (Int)) → (List (Int)) → (Bool) → (List (Int)) → Option (Bool) := fun j16_x1 j16_x2_0 j16_x2_1 j16_x2_2 j16_x6 j16_x7 j16_x9 =>
          (laws_markIntS.F n j16_x9 (1 : Int)).bind fun r11 =>
          (laws_heldIntS.F n r11.2 (1 : Int)).bind fun r12 =>
          if (decide (r12 < (0 : Int))) = true then
            some false
          else
            if (!decide (r12 = r11.1)) = true then
              some false
            else
              (laws_toMaze.F n j16_x2_0 j16_x2_1 j16_x2_2).bind fun r13 =>
              (impl_NodeRounds.F n r13.1 r13.2.1 r13.2.2 j16_x1).bind fun r14 =>
              (laws_eqIntS.F n r14.1 j16_x6).bind fun r15 =>
              if (!r15) = true then
                some false
              else
                if (!(r14.2 == j16_x7)) = true then
                  some false
                else
                  (laws_heldIntS.F n r11.2 (1 : Int)).bind fun r16 =>
                  if (decide (r16 < (0 : Int))) = true then
                    some false
                  else
                    if (!decide (r16 = r11.1)) = true then
                      some false
                    else
                      some true
        if (decide (r9.1 < (0 : Int))) = true then
          some false
        else
          (laws_eqIntS.F n j10_x9 j10_x6).bind fun r10 =>
          if (!r10) = true then
            some false
          else
            if (!(j10_x10 == j10_x7)) = true then
              some false
            else
              j16 j10_x1 j10_x2_0 j10_x2_1 j10_x2_2 j10_x6 j10_x7 j10_x9
    (laws_eqIntS.F n r5.1 r3.1).bind fun r6 =>
    if (!r6) = true then
      some false
    else
      if (!(r5.2 == r3.2)) = true then
        some false
      else
        j10 x1 x0_0 x0_1 x0_2 r3.1 r3.2 r4.1 r4.2.1 r4.2.2 r5.1 r5.2

/-- loop.example/g01158/spec.l2Joins -/
def spec_l2Joins.F (n : Nat) (x0_0 : Int) (x0_1 : Int) (x0_2 : Int) (x1 : Int) (x2 : Int) : Option (Bool) :=
  if (decide (x0_0 = x1)) = true then
    if (decide (x0_1 = x2)) = true then
      some true
    else
      if (decide (x0_0 = x2)) = true then
        some (decide (x0_1 = x1))
      else
        some false
  else
    if (decide (x0_0 = x2)) = true then
      some (decide (x0_1 = x1))
    else
      some false

/-- loop.example/g01158/spec.l2Open -/
def spec_l2Open.l0 (n : Nat) (K : Unit → Option (Bool)) : Nat → Int → Int → Int → Int → (List (Int × Int × Int)) → (List (Int)) → Int → Option (Bool)
  | 0, _, _, _, _, _, _, _ => none
  | k + 1, x1, x2, x3, x4_0, x4_1, x4_2, x9 =>
    if (decide (x9 < (x4_1.length : Int))) = true then
      if 0 ≤ x9 ∧ x9 < (x4_1.length : Int) then ((spec_l2Joins.F n ((x4_1.getD x9.toNat ((0 : Int), (0 : Int), (0 : Int))).1) ((x4_1.getD x9.toNat ((0 : Int), (0 : Int), (0 : Int))).2.1) ((x4_1.getD x9.toNat ((0 : Int), (0 : Int), (0 : Int))).2.2) x1 x2).bind fun r1 =>
      if r1 = true then
        if 0 ≤ x9 ∧ x9 < (x4_1.length : Int) then ((spec_l2Has.F n x3 ((x4_1.getD x9.toNat ((0 : Int), (0 : Int), (0 : Int))).2.2)).bind fun r2 =>
        if r2 = true then
          some true
        else
          spec_l2Open.l0 n K k x1 x2 x3 x4_0 x4_1 x4_2 (IntKind.wrap .i64 (x9 + (1 : Int)))) else none
      else
        spec_l2Open.l0 n K k x1 x2 x3 x4_0 x4_1 x4_2 (IntKind.wrap .i64 (x9 + (1 : Int)))) else none
    else
      K ()
def spec_l2Open.F (n : Nat) (x0_0 : Int) (x0_1 : List (Int × Int × Int)) (x0_2 : List (Int)) (x1 : Int) (x2 : Int) (x3 : Int) : Option (Bool) :=
  spec_l2Open.l0 n (fun _ =>
    some false) n x1 x2 x3 x0_0 x0_1 x0_2 (0 : Int)

/-- loop.example/g01158/spec.l5Next -/
def spec_l5Next.l0 (n : Nat) (K : Int → Int → (List (Int × Int × Int)) → (List (Int)) → (List (Int)) → Int → Option ((List (Int)))) : Nat → Int → Int → (List (Int × Int × Int)) → (List (Int)) → (List (Int)) → Int → Int → Option ((List (Int)))
  | 0, _, _, _, _, _, _, _ => none
  | k + 1, x1, x2_0, x2_1, x2_2, x5, x6, x7 =>
    if (decide (x7 < x2_0)) = true then
      if x7 < 0 then none else (if (decide ((bitAnd .i64 (shR .i64 x1 x7) 1) = (1 : Int))) = true then
        if 0 ≤ x7 ∧ x7 < (x2_2.length : Int) then (spec_l5Next.l0 n K k x1 x2_0 x2_1 x2_2 x5 (bitOr .i64 x6 (x2_2.getD x7.toNat (0 : Int))) (IntKind.wrap .i64 (x7 + (1 : Int)))) else none
      else
        spec_l5Next.l0 n K k x1 x2_0 x2_1 x2_2 x5 x6 (IntKind.wrap .i64 (x7 + (1 : Int))))
    else
      K x1 x2_0 x2_1 x2_2 x5 x6
def spec_l5Next.l4 (n : Nat) (K : Int → Int → (List (Int × Int × Int)) → (List (Int)) → (List (Int)) → Int → Int → Option ((List (Int)))) : Nat → Int → Int → (List (Int × Int × Int)) → (List (Int)) → (List (Int)) → Int → Int → Int → Option ((List (Int)))
  | 0, _, _, _, _, _, _, _, _ => none
  | k + 1, x1, x2_0, x2_1, x2_2, x5, x6, x8, x9 =>
    if (decide (x9 < x2_0)) = true then
      if x8 < 0 then none else (if (decide ((bitAnd .i64 (shR .i64 x1 x8) 1) = (0 : Int))) = true then
        if x9 < 0 then none else (if (decide ((bitAnd .i64 (shR .i64 x1 x9) 1) = (1 : Int))) = true then
          (spec_l2Open.F n x2_0 x2_1 x2_2 x9 x8 x6).bind fun r7 =>
          if r7 = true then
            if x5.length + ([x8] : List (Int)).length ≤ 4398046511104 then (K x1 x2_0 x2_1 x2_2 (x5 ++ ([x8] : List (Int))) x6 x8) else none
          else
            spec_l5Next.l4 n K k x1 x2_0 x2_1 x2_2 x5 x6 x8 (IntKind.wrap .i64 (x9 + (1 : Int)))
        else
          spec_l5Next.l4 n K k x1 x2_0 x2_1 x2_2 x5 x6 x8 (IntKind.wrap .i64 (x9 + (1 : Int))))
      else
        K x1 x2_0 x2_1 x2_2 x5 x6 x8)
    else
      K x1 x2_0 x2_1 x2_2 x5 x6 x8
def spec_l5Next.l2 (n : Nat) (K : (List (Int)) → Option ((List (Int)))) : Nat → Int → Int → (List (Int × Int × Int)) → (List (Int)) → (List (Int)) → Int → Int → Option ((List (Int)))
  | 0, _, _, _, _, _, _, _ => none
  | k + 1, x1, x2_0, x2_1, x2_2, x5, x6, x8 =>
    if (decide (x8 < x2_0)) = true then
      spec_l5Next.l4 n (fun y8 y9 y10 y11 y12 y13 y14 =>
        spec_l5Next.l2 n K k y8 y9 y10 y11 y12 y13 (IntKind.wrap .i64 (y14 + (1 : Int)))) n x1 x2_0 x2_1 x2_2 x5 x6 x8 (0 : Int)
    else
      K x5
def spec_l5Next.F (n : Nat) (x0_0 : Int) (x0_1 : List (Int × Int × Int)) (x0_2 : List (Int)) (x1 : Int) : Option ((List (Int))) :=
  spec_l5Next.l0 n (fun y1 y2 y3 y4 y5 y6 =>
    spec_l5Next.l2 n (fun y15 =>
      some y15) n y1 y2 y3 y4 y5 y6 (0 : Int)) n x1 x0_0 x0_1 x0_2 ([] : List (Int)) (0 : Int) (0 : Int)

/-- loop.example/g01158/spec.l5Table -/
def spec_l5Table.l2 (n : Nat) (K : Int → (List (Int × Int × Int)) → (List (Int)) → (List (Int)) → Int → Option ((List (Int)))) : Nat → Int → (List (Int × Int × Int)) → (List (Int)) → (List (Int)) → Int → (List (Int)) → Int → Option ((List (Int)))
  | 0, _, _, _, _, _, _, _ => none
  | k + 1, x1_0, x1_1, x1_2, x3, x4, x5, x6 =>
    if (decide (x6 < (x5.length : Int))) = true then
      if 0 ≤ x6 ∧ x6 < (x5.length : Int) then (if (x5.getD x6.toNat (0 : Int)) < 0 then none else (if 0 ≤ x6 ∧ x6 < (x5.length : Int) then (if (x5.getD x6.toNat (0 : Int)) < 0 then none else (if 0 ≤ (bitOr .i64 x4 (shL .i64 1 (x5.getD x6.toNat (0 : Int)))) ∧ (bitOr .i64 x4 (shL .i64 1 (x5.getD x6.toNat (0 : Int)))) < (x3.length : Int) then (if 0 ≤ x4 ∧ x4 < (x3.length : Int) then (if 0 ≤ (bitOr .i64 x4 (shL .i64 1 (x5.getD x6.toNat (0 : Int)))) ∧ (bitOr .i64 x4 (shL .i64 1 (x5.getD x6.toNat (0 : Int)))) < (x3.length : Int) then (spec_l5Table.l2 n K k x1_0 x1_1 x1_2 (x3.set ((bitOr .i64 x4 (shL .i64 1 (x5.getD x6.toNat (0 : Int)))).toNat) (IntKind.wrap .i64 ((x3.getD ((bitOr .i64 x4 (shL .i64 1 (x5.getD x6.toNat (0 : Int)))).toNat) (0 : Int)) + (x3.getD x4.toNat (0 : Int))))) x4 x5 (IntKind.wrap .i64 (x6 + (1 : Int)))) else none) else none) else none)) else none)) else none
    else
      K x1_0 x1_1 x1_2 x3 x4
def spec_l5Table.l0 (n : Nat) (K : (List (Int)) → Option ((List (Int)))) : Nat → Int → (List (Int × Int × Int)) → (List (Int)) → (List (Int)) → Int → Option ((List (Int)))
  | 0, _, _, _, _, _ => none
  | k + 1, x1_0, x1_1, x1_2, x3, x4 =>
    if (decide (x4 < (x3.length : Int))) = true then
      if 0 ≤ x4 ∧ x4 < (x3.length : Int) then (if (decide ((x3.getD x4.toNat (0 : Int)) = (0 : Int))) = true then
        spec_l5Table.l0 n K k x1_0 x1_1 x1_2 x3 (IntKind.wrap .i64 (x4 + (1 : Int)))
      else
        (spec_l5Next.F n x1_0 x1_1 x1_2 x4).bind fun r1 =>
        spec_l5Table.l2 n (fun y2 y3 y4 y5 y6 =>
          spec_l5Table.l0 n K k y2 y3 y4 y5 (IntKind.wrap .i64 (y6 + (1 : Int)))) n x1_0 x1_1 x1_2 x3 x4 r1 (0 : Int)) else none
    else
      K x3
def spec_l5Table.F (n : Nat) (x0_0 : Int) (x0_1 : List (Int × Int × Int)) (x0_2 : List (Int)) : Option ((List (Int))) :=
  if x0_0 < 0 then none else (if 0 ≤ (shL .i64 1 x0_0) ∧ (shL .i64 1 x0_0) ≤ (shL .i64 1 x0_0) ∧ (shL .i64 1 x0_0) ≤ 4398046511104 then (if 0 ≤ (1 : Int) ∧ (1 : Int) < ((List.replicate ((shL .i64 1 x0_0).toNat) (0 : Int)).length : Int) then (spec_l5Table.l0 n (fun y7 =>
    some y7) n x0_0 x0_1 x0_2 ((List.replicate ((shL .i64 1 x0_0).toNat) (0 : Int)).set 1 (1 : Int)) (1 : Int)) else none) else none)

/-- loop.example/g01158/spec.CountEntrySets -/
def spec_CountEntrySets.l0 (n : Nat) (K : Int → Option (Int × Bool)) : Nat → (List (Int)) → Int → Int → Option (Int × Bool)
  | 0, _, _, _ => none
  | k + 1, x4, x5, x6 =>
    if (decide (x6 < (x4.length : Int))) = true then
      if 0 ≤ x6 ∧ x6 < (x4.length : Int) then (if (decide ((x4.getD x6.toNat (0 : Int)) > (0 : Int))) = true then
        spec_CountEntrySets.l0 n K k x4 (IntKind.wrap .i64 (x5 + (1 : Int))) (IntKind.wrap .i64 (x6 + (1 : Int)))
      else
        spec_CountEntrySets.l0 n K k x4 x5 (IntKind.wrap .i64 (x6 + (1 : Int)))) else none
    else
      K x5
def spec_CountEntrySets.F (n : Nat) (x0_0 : Int) (x0_1 : List (Int × Int × Int)) (x0_2 : List (Int)) : Option (Int × Bool) :=
  (spec_l2Maze.F n x0_0 x0_1 x0_2).bind fun r1 =>
  if (!r1) = true then
    some ((0 : Int), false)
  else
    (spec_l5Table.F n x0_0 x0_1 x0_2).bind fun r2 =>
    spec_CountEntrySets.l0 n (fun y3 =>
      some (y3, true)) n r2 (0 : Int) (1 : Int)

/-- loop.example/g01158/impl.allNodes -/
def impl_allNodes.F (n : Nat) (x0_0 : Int) (x0_1 : List (Int × Int × Int)) (x0_2 : List (Int)) : Option (Int) :=
  if x0_0 < 0 then none else (some (IntKind.wrap .i64 ((shL .i64 1 x0_0) - (1 : Int))))

/-- loop.example/g01158/impl.keysOf -/
def impl_keysOf.l0 (n : Nat) (K : Int → Option (Int)) : Nat → Int → (List (Int × Int × Int)) → (List (Int)) → Int → (List (Int)) → Int → Int → Option (Int)
  | 0, _, _, _, _, _, _, _ => none
  | k + 1, x2_0, x2_1, x2_2, x5, x9, x10, x11 =>
    if (decide (x11 < x10)) = true then
      if 0 ≤ x11 ∧ x11 < (x9.length : Int) then (if 0 ≤ (x9.getD x11.toNat (0 : Int)) ∧ (x9.getD x11.toNat (0 : Int)) < (x2_2.length : Int) then (impl_keysOf.l0 n K k x2_0 x2_1 x2_2 (bitOr .i64 x5 (x2_2.getD ((x9.getD x11.toNat (0 : Int)).toNat) (0 : Int))) x9 x10 (IntKind.wrap .i64 (x11 + (1 : Int)))) else none) else none
    else
      K x5
def impl_keysOf.F (n : Nat) (x0_0 : Int) (x0_1 : List (Int × Int × Int)) (x0_2 : List (Int)) (x1 : Int) : Option (Int) :=
  (impl_members.F n x1).bind fun r1 =>
  impl_keysOf.l0 n (fun y2 =>
    some y2) n x0_0 x0_1 x0_2 (0 : Int) r1 (r1.length : Int) (0 : Int)

/-- loop.example/g01158/impl.nexts -/
def impl_nexts.l0 (n : Nat) (K : Int → Int → Option (Int)) : Nat → Int → Int → (List (Int × Int × Int)) → (List (Int)) → Int → Int → (List (Int)) → Int → Int → Option (Int)
  | 0, _, _, _, _, _, _, _, _, _ => none
  | k + 1, x1, x2_0, x2_1, x2_2, x5, x6, x13, x14, x15 =>
    if (decide (x15 < x14)) = true then
      if 0 ≤ x15 ∧ x15 < (x13.length : Int) then ((impl_steps.F n x2_0 x2_1 x2_2 (x13.getD x15.toNat (0 : Int)) x5).bind fun r3 =>
      impl_nexts.l0 n K k x1 x2_0 x2_1 x2_2 x5 (bitOr .i64 x6 r3) x13 x14 (IntKind.wrap .i64 (x15 + (1 : Int)))) else none
    else
      K x1 x6
def impl_nexts.F (n : Nat) (x0_0 : Int) (x0_1 : List (Int × Int × Int)) (x0_2 : List (Int)) (x1 : Int) : Option (Int) :=
  (impl_keysOf.F n x0_0 x0_1 x0_2 x1).bind fun r1 =>
  (impl_members.F n x1).bind fun r2 =>
  impl_nexts.l0 n (fun y4 y5 =>
    some (bitClr .i64 y5 y4)) n x1 x0_0 x0_1 x0_2 r1 (0 : Int) r2 (r2.length : Int) (0 : Int)

/-- loop.example/g01158/impl.largest -/
def impl_largest.l0 (n : Nat) (K : Int → Option (Int)) : Nat → Int → Int → (List (Int × Int × Int)) → (List (Int)) → Int → Int → Option (Int)
  | 0, _, _, _, _, _, _ => none
  | k + 1, x1, x2_0, x2_1, x2_2, x5, x6 =>
    if (!decide (x6 = (0 : Int))) = true then
      (impl_nexts.F n x2_0 x2_1 x2_2 (bitOr .i64 x5 x6)).bind fun r2 =>
      impl_largest.l0 n K k x1 x2_0 x2_1 x2_2 (bitOr .i64 x5 x6) (bitAnd .i64 r2 x1)
    else
      K x5
def impl_largest.F (n : Nat) (x0_0 : Int) (x0_1 : List (Int × Int × Int)) (x0_2 : List (Int)) (x1 : Int) : Option (Int) :=
  (impl_nexts.F n x0_0 x0_1 x0_2 (bitAnd .i64 x1 1)).bind fun r1 =>
  impl_largest.l0 n (fun y3 =>
    some y3) n x1 x0_0 x0_1 x0_2 (bitAnd .i64 x1 1) (bitAnd .i64 r1 x1)

/-- loop.example/g01158/impl.entrySets -/
def impl_entrySets.l0 (n : Nat) (K : (List (Int)) → Option ((List (Int)))) : Nat → Int → (List (Int × Int × Int)) → (List (Int)) → (List (Int)) → Int → Option ((List (Int)))
  | 0, _, _, _, _, _ => none
  | k + 1, x1_0, x1_1, x1_2, x3, x4 =>
    (impl_allNodes.F n x1_0 x1_1 x1_2).bind fun r1 =>
    if (decide (x4 ≤ r1)) = true then
      (impl_largest.F n x1_0 x1_1 x1_2 x4).bind fun r2 =>
      if (decide (r2 = x4)) = true then
        if x3.length + ([x4] : List (Int)).length ≤ 4398046511104 then (impl_entrySets.l0 n K k x1_0 x1_1 x1_2 (x3 ++ ([x4] : List (Int))) (IntKind.wrap .i64 (x4 + (2 : Int)))) else none
      else
        impl_entrySets.l0 n K k x1_0 x1_1 x1_2 x3 (IntKind.wrap .i64 (x4 + (2 : Int)))
    else
      K x3
def impl_entrySets.F (n : Nat) (x0_0 : Int) (x0_1 : List (Int × Int × Int)) (x0_2 : List (Int)) : Option ((List (Int))) :=
  impl_entrySets.l0 n (fun y3 =>
    some y3) n x0_0 x0_1 x0_2 ([] : List (Int)) (1 : Int)

/-- loop.example/g01158/impl.CountEntrySets -/
def impl_CountEntrySets.F (n : Nat) (x0_0 : Int) (x0_1 : List (Int × Int × Int)) (x0_2 : List (Int)) : Option (Int × Bool) :=
  (impl_IsMaze.F n x0_0 x0_1 x0_2).bind fun r1 =>
  if (!r1) = true then
    some ((0 : Int), false)
  else
    (impl_entrySets.F n x0_0 x0_1 x0_2).bind fun r2 =>
    some ((r2.length : Int), true)

/-- loop.example/g01158/laws.FnExactCountEntrySets -/
def laws_FnExactCountEntrySets.F (n : Nat) (x0_0 : Int) (x0_1 : List (Int × Int × Int)) (x0_2 : List (Int)) : Option (Bool) :=
  (laws_szMaze.F n x0_0 x0_1 x0_2 (1048576 : Int)).bind fun r1 =>
  if (decide (r1 < (0 : Int))) = true then
    some true
  else
    (laws_toMaze.F n x0_0 x0_1 x0_2).bind fun r2 =>
    (spec_CountEntrySets.F n r2.1 r2.2.1 r2.2.2).bind fun r3 =>
    (laws_toMaze.F n x0_0 x0_1 x0_2).bind fun r4 =>
    (impl_CountEntrySets.F n r4.1 r4.2.1 r4.2.2).bind fun r5 =>
    if (!decide (r5.1 = r3.1)) = true then
      some false
    else
      if (!(r5.2 == r3.2)) = true then
        some false
      else
        (laws_toMaze.F n x0_0 x0_1 x0_2).bind fun r6 =>
        (laws_eqMaze.F n r4.1 r4.2.1 r4.2.2 r6.1 r6.2.1 r6.2.2).bind fun r7 =>
        if (!r7) = true then
          some false
        else
          some true

/-- loop.example/g01158/spec.l1Rising -/
def spec_l1Rising.l0 (n : Nat) (K : Unit → Option (Bool)) : Nat → (List (Int)) → Int → Int → Int → Option (Bool)
  | 0, _, _, _, _ => none
  | k + 1, x0, x1, x2, x7 =>
    if (decide (x7 < (x0.length : Int))) = true then
      if 0 ≤ x7 ∧ x7 < (x0.length : Int) then ((spec_l1In.F n (x0.getD x7.toNat (0 : Int)) x1 x2).bind fun r1 =>
      if (!r1) = true then
        some false
      else
        if (decide (x7 > (0 : Int))) = true then
          if 0 ≤ (IntKind.wrap .i64 (x7 - (1 : Int))) ∧ (IntKind.wrap .i64 (x7 - (1 : Int))) < (x0.length : Int) then (if 0 ≤ x7 ∧ x7 < (x0.length : Int) then (if (decide ((x0.getD ((IntKind.wrap .i64 (x7 - (1 : Int))).toNat) (0 : Int)) ≥ (x0.getD x7.toNat (0 : Int)))) = true then
            some false
          else
            spec_l1Rising.l0 n K k x0 x1 x2 (IntKind.wrap .i64 (x7 + (1 : Int)))) else none) else none
        else
          spec_l1Rising.l0 n K k x0 x1 x2 (IntKind.wrap .i64 (x7 + (1 : Int)))) else none
    else
      K ()
def spec_l1Rising.F (n : Nat) (x0 : List (Int)) (x1 : Int) (x2 : Int) : Option (Bool) :=
  spec_l1Rising.l0 n (fun _ =>
    some true) n x0 x1 x2 (0 : Int)

/-- loop.example/g01158/spec.l5List -/
def spec_l5List.F (n : Nat) (x0_0 : Int) (x0_1 : List (Int × Int × Int)) (x0_2 : List (Int)) (x1 : List (Int)) : Option (Bool) :=
  (spec_l2Maze.F n x0_0 x0_1 x0_2).bind fun r1 =>
  if r1 = true then
    (spec_l1Rising.F n x1 (0 : Int) (IntKind.wrap .i64 (x0_0 - (1 : Int)))).bind fun r2 =>
    some r2
  else
    some false

/-- loop.example/g01158/spec.l5Code -/
def spec_l5Code.l0 (n : Nat) (K : Int → Option (Int)) : Nat → (List (Int)) → Int → Int → Option (Int)
  | 0, _, _, _ => none
  | k + 1, x0, x3, x4 =>
    if (decide (x4 < (x0.length : Int))) = true then
      if 0 ≤ x4 ∧ x4 < (x0.length : Int) then (if (x0.getD x4.toNat (0 : Int)) < 0 then none else (spec_l5Code.l0 n K k x0 (bitOr .i64 x3 (shL .i64 1 (x0.getD x4.toNat (0 : Int)))) (IntKind.wrap .i64 (x4 + (1 : Int))))) else none
    else
      K x3
def spec_l5Code.F (n : Nat) (x0 : List (Int)) : Option (Int) :=
  spec_l5Code.l0 n (fun y1 =>
    some y1) n x0 (0 : Int) (0 : Int)

/-- loop.example/g01158/spec.l5Largest -/
def spec_l5Largest.l2 (n : Nat) (K : Int → Int → (List (Int × Int × Int)) → (List (Int)) → Int → Int → Option (Int)) : Nat → Int → Int → (List (Int × Int × Int)) → (List (Int)) → Int → (List (Int)) → Int → Int → Option (Int)
  | 0, _, _, _, _, _, _, _, _ => none
  | k + 1, x1, x2_0, x2_1, x2_2, x5, x6, x7, x8 =>
    if (decide (x8 < (x6.length : Int))) = true then
      if 0 ≤ x8 ∧ x8 < (x6.length : Int) then (if (x6.getD x8.toNat (0 : Int)) < 0 then none else (if (decide ((bitAnd .i64 (shR .i64 x1 (x6.getD x8.toNat (0 : Int))) 1) = (1 : Int))) = true then
        if 0 ≤ x8 ∧ x8 < (x6.length : Int) then (if (x6.getD x8.toNat (0 : Int)) < 0 then none else (spec_l5Largest.l2 n K k x1 x2_0 x2_1 x2_2 (bitOr .i64 x5 (shL .i64 1 (x6.getD x8.toNat (0 : Int)))) x6 x7 (IntKind.wrap .i64 (x8 + (1 : Int))))) else none
      else
        spec_l5Largest.l2 n K k x1 x2_0 x2_1 x2_2 x5 x6 x7 (IntKind.wrap .i64 (x8 + (1 : Int))))) else none
    else
      K x1 x2_0 x2_1 x2_2 x5 x7
def spec_l5Largest.l0 (n : Nat) (K : Unit → Option (Int)) : Nat → Int → Int → (List (Int × Int × Int)) → (List (Int)) → Int → Option (Int)
  | 0, _, _, _, _, _ => none
  | k + 1, x1, x2_0, x2_1, x2_2, x5 =>
    (spec_l5Next.F n x2_0 x2_1 x2_2 x5).bind fun r1 =>
    spec_l5Largest.l2 n (fun y2 y3 y4 y5 y6 y7 =>
      if (decide (y6 = y7)) = true then
        some y6
      else
        spec_l5Largest.l0 n K k y2 y3 y4 y5 y6) n x1 x2_0 x2_1 x2_2 x5 r1 x5 (0 : Int)
def spec_l5Largest.F (n : Nat) (x0_0 : Int) (x0_1 : List (Int × Int × Int)) (x0_2 : List (Int)) (x1 : Int) : Option (Int) :=
  spec_l5Largest.l0 n (fun _ =>
    none) n x1 x0_0 x0_1 x0_2 (1 : Int)

/-- loop.example/g01158/spec.IsEntrySet -/
def spec_IsEntrySet.F (n : Nat) (x0_0 : Int) (x0_1 : List (Int × Int × Int)) (x0_2 : List (Int)) (x1 : List (Int)) : Option (Bool × Bool) :=
  (spec_l5List.F n x0_0 x0_1 x0_2 x1).bind fun r1 =>
  if (!r1) = true then
    some (false, false)
  else
    (spec_l1Has.F n x1 (0 : Int)).bind fun r2 =>
    if r2 = true then
      (spec_l5Code.F n x1).bind fun r3 =>
      (spec_l5Largest.F n x0_0 x0_1 x0_2 r3).bind fun r4 =>
      (spec_l5Code.F n x1).bind fun r5 =>
      some ((decide (r4 = r5)), true)
    else
      some (false, true)

/-- loop.example/g01158/impl.ascending -/
def impl_ascending.l0 (n : Nat) (K : Int → Option (Int × Bool)) : Nat → (List (Int)) → Int → (List (Int × Int × Int)) → (List (Int)) → Int → Int → Int → Option (Int × Bool)
  | 0, _, _, _, _, _, _, _ => none
  | k + 1, x1, x2_0, x2_1, x2_2, x6, x10, x11 =>
    if (decide (x11 < x10)) = true then
      if 0 ≤ x11 ∧ x11 < (x1.length : Int) then ((impl_within.F n (x1.getD x11.toNat (0 : Int)) (0 : Int) (IntKind.wrap .i64 (x2_0 - (1 : Int)))).bind fun r1 =>
      if (!r1) = true then
        some ((0 : Int), false)
      else
        if (decide (x11 > (0 : Int))) = true then
          if 0 ≤ (IntKind.wrap .i64 (x11 - (1 : Int))) ∧ (IntKind.wrap .i64 (x11 - (1 : Int))) < (x1.length : Int) then (if (decide ((x1.getD x11.toNat (0 : Int)) ≤ (x1.getD ((IntKind.wrap .i64 (x11 - (1 : Int))).toNat) (0 : Int)))) = true then
            some ((0 : Int), false)
          else
            if (x1.getD x11.toNat (0 : Int)) < 0 then none else (impl_ascending.l0 n K k x1 x2_0 x2_1 x2_2 (bitOr .i64 x6 (shL .i64 1 (x1.getD x11.toNat (0 : Int)))) x10 (IntKind.wrap .i64 (x11 + (1 : Int))))) else none
        else
          if (x1.getD x11.toNat (0 : Int)) < 0 then none else (impl_ascending.l0 n K k x1 x2_0 x2_1 x2_2 (bitOr .i64 x6 (shL .i64 1 (x1.getD x11.toNat (0 : Int)))) x10 (IntKind.wrap .i64 (x11 + (1 : Int))))) else none
    else
      K x6
def impl_ascending.F (n : Nat) (x0_0 : Int) (x0_1 : List (Int × Int × Int)) (x0_2 : List (Int)) (x1 : List (Int)) : Option (Int × Bool) :=
  impl_ascending.l0 n (fun y2 =>
    some (y2, true)) n x1 x0_0 x0_1 x0_2 (0 : Int) (x1.length : Int) (0 : Int)

/-- loop.example/g01158/impl.IsEntrySet -/
def impl_IsEntrySet.F (n : Nat) (x0_0 : Int) (x0_1 : List (Int × Int × Int)) (x0_2 : List (Int)) (x1 : List (Int)) : Option (Bool × Bool) :=
  (impl_IsMaze.F n x0_0 x0_1 x0_2).bind fun r1 =>
  if (!r1) = true then
    some (false, false)
  else
    (impl_ascending.F n x0_0 x0_1 x0_2 x1).bind fun r2 =>
    if r2.2 = true then
      if (!decide (r2.1 = (0 : Int))) = true then
        (impl_largest.F n x0_0 x0_1 x0_2 r2.1).bind fun r3 =>
        some ((decide (r3 = r2.1)), r2.2)
      else
        some (false, r2.2)
    else
      some (false, r2.2)

/-- loop.example/g01158/laws.FnExactIsEntrySet -/
def laws_FnExactIsEntrySet.F (n : Nat) (x0_0 : Int) (x0_1 : List (Int × Int × Int)) (x0_2 : List (Int)) (x1 : List (Int)) : Option (Bool) :=
  if (decide ((x1.length : Int) > (1048576 : Int))) = true then
    some true
  else
    (laws_szMaze.F n x0_0 x0_1 x0_2 (1048576 : Int)).bind fun r1 =>
    if (decide (r1 < (0 : Int))) = true then
      some true
    else
      (laws_toMaze.F n x0_0 x0_1 x0_2).bind fun r2 =>
      (laws_toIntS.F n x1).bind fun r3 =>
      (spec_IsEntrySet.F n r2.1 r2.2.1 r2.2.2 r3).bind fun r4 =>
      (laws_toMaze.F n x0_0 x0_1 x0_2).bind fun r5 =>
      (laws_toIntS.F n x1).bind fun r6 =>
      (impl_IsEntrySet.F n r5.1 r5.2.1 r5.2.2 r6).bind fun r7 =>
      if (!(r7.1 == r4.1)) = true then
        some false
      else
        if (!(r7.2 == r4.2)) = true then
          some false
        else
          (laws_toMaze.F n x0_0 x0_1 x0_2).bind fun r8 =>
          (laws_eqMaze.F n r5.1 r5.2.1 r5.2.2 r8.1 r8.2.1 r8.2.2).bind fun r9 =>
          if (!r9) = true then
            some false
          else
            (laws_toIntS.F n x1).bind fun r10 =>
            (laws_eqIntS.F n r6 r10).bind fun r11 =>
            if (!r11) = true then
              some false
            else
              some true

/-- loop.example/g01158/spec.l5Order -/
def spec_l5Order.l0 (n : Nat) (K : Int → Option (Int × Bool)) : Nat → (List (Int)) → Int → (List (Int × Int × Int)) → (List (Int)) → Int → Int → Option (Int × Bool)
  | 0, _, _, _, _, _, _ => none
  | k + 1, x1, x2_0, x2_1, x2_2, x6, x7 =>
    if (decide (x7 < (x1.length : Int))) = true then
      (spec_l5Next.F n x2_0 x2_1 x2_2 x6).bind fun r1 =>
      if 0 ≤ x7 ∧ x7 < (x1.length : Int) then ((spec_l1Has.F n r1 (x1.getD x7.toNat (0 : Int))).bind fun r2 =>
      if (!r2) = true then
        some ((0 : Int), false)
      else
        if 0 ≤ x7 ∧ x7 < (x1.length : Int) then (if (x1.getD x7.toNat (0 : Int)) < 0 then none else (spec_l5Order.l0 n K k x1 x2_0 x2_1 x2_2 (bitOr .i64 x6 (shL .i64 1 (x1.getD x7.toNat (0 : Int)))) (IntKind.wrap .i64 (x7 + (1 : Int))))) else none) else none
    else
      K x6
def spec_l5Order.F (n : Nat) (x0_0 : Int) (x0_1 : List (Int × Int × Int)) (x0_2 : List (Int)) (x1 : List (Int)) : Option (Int × Bool) :=
  if (decide ((x1.length : Int) = (0 : Int))) = true then
    some ((0 : Int), false)
  else
    if 0 ≤ (0 : Int) ∧ (0 : Int) < (x1.length : Int) then (if (!decide ((x1.getD 0 (0 : Int)) = (0 : Int))) = true then
      some ((0 : Int), false)
    else
      spec_l5Order.l0 n (fun y3 =>
        some (y3, true)) n x1 x0_0 x0_1 x0_2 (1 : Int) (1 : Int)) else none

/-- loop.example/g01158/spec.IsEntryOrder -/
def spec_IsEntryOrder.F (n : Nat) (x0_0 : Int) (x0_1 : List (Int × Int × Int)) (x0_2 : List (Int)) (x1 : List (Int)) : Option (Bool × Bool) :=
  (spec_l2Maze.F n x0_0 x0_1 x0_2).bind fun r1 =>
  if (!r1) = true then
    some (false, false)
  else
    (spec_l5Order.F n x0_0 x0_1 x0_2 x1).bind fun r2 =>
    some (r2.2, true)

/-- loop.example/g01158/impl.isEntryOrder -/
def impl_isEntryOrder.l0 (n : Nat) (K : (List (Int)) → Int → Option (Int × Bool)) : Nat → (List (Int)) → Int → (List (Int × Int × Int)) → (List (Int)) → Int → Int → Int → Option (Int × Bool)
  | 0, _, _, _, _, _, _, _ => none
  | k + 1, x1, x2_0, x2_1, x2_2, x6, x10, x11 =>
    if (decide (x11 < x10)) = true then
      if 0 ≤ x11 ∧ x11 < (x1.length : Int) then ((impl_within.F n (x1.getD x11.toNat (0 : Int)) (0 : Int) (IntKind.wrap .i64 (x2_0 - (1 : Int)))).bind fun r1 =>
      if (!r1) = true then
        some ((0 : Int), false)
      else
        if (decide (x11 = (0 : Int))) = true then
          if (!decide ((x1.getD x11.toNat (0 : Int)) = (0 : Int))) = true then
            some ((0 : Int), false)
          else
            if (decide (x11 > (0 : Int))) = true then
              (impl_nexts.F n x2_0 x2_1 x2_2 x6).bind fun r2 =>
              if (x1.getD x11.toNat (0 : Int)) < 0 then none else (if (decide ((bitAnd .i64 (shR .i64 r2 (x1.getD x11.toNat (0 : Int))) 1) = (0 : Int))) = true then
                some ((0 : Int), false)
              else
                if (x1.getD x11.toNat (0 : Int)) < 0 then none else (impl_isEntryOrder.l0 n K k x1 x2_0 x2_1 x2_2 (bitOr .i64 x6 (shL .i64 1 (x1.getD x11.toNat (0 : Int)))) x10 (IntKind.wrap .i64 (x11 + (1 : Int)))))
            else
              if (x1.getD x11.toNat (0 : Int)) < 0 then none else (impl_isEntryOrder.l0 n K k x1 x2_0 x2_1 x2_2 (bitOr .i64 x6 (shL .i64 1 (x1.getD x11.toNat (0 : Int)))) x10 (IntKind.wrap .i64 (x11 + (1 : Int))))
        else
          if (decide (x11 > (0 : Int))) = true then
            (impl_nexts.F n x2_0 x2_1 x2_2 x6).bind fun r3 =>
            if (x1.getD x11.toNat (0 : Int)) < 0 then none else (if (decide ((bitAnd .i64 (shR .i64 r3 (x1.getD x11.toNat (0 : Int))) 1) = (0 : Int))) = true then
              some ((0 : Int), false)
            else
              if (x1.getD x11.toNat (0 : Int)) < 0 then none else (impl_isEntryOrder.l0 n K k x1 x2_0 x2_1 x2_2 (bitOr .i64 x6 (shL .i64 1 (x1.getD x11.toNat (0 : Int)))) x10 (IntKind.wrap .i64 (x11 + (1 : Int)))))
          else
            if (x1.getD x11.toNat (0 : Int)) < 0 then none else (impl_isEntryOrder.l0 n K k x1 x2_0 x2_1 x2_2 (bitOr .i64 x6 (shL .i64 1 (x1.getD x11.toNat (0 : Int)))) x10 (IntKind.wrap .i64 (x11 + (1 : Int))))) else none
    else
      K x1 x6
def impl_isEntryOrder.F (n : Nat) (x0_0 : Int) (x0_1 : List (Int × Int × Int)) (x0_2 : List (Int)) (x1 : List (Int)) : Option (Int × Bool) :=
  impl_isEntryOrder.l0 n (fun y4 y5 =>
    some (y5, (decide ((y4.length : Int) > (0 : Int))))) n x1 x0_0 x0_1 x0_2 (0 : Int) (x1.length : Int) (0 : Int)

/-- loop.example/g01158/impl.IsEntryOrder -/
def impl_IsEntryOrder.F (n : Nat) (x0_0 : Int) (x0_1 : List (Int × Int × Int)) (x0_2 : List (Int)) (x1 : List (Int)) : Option (Bool × Bool) :=
  (impl_IsMaze.F n x0_0 x0_1 x0_2).bind fun r1 =>
  if (!r1) = true then
    some (false, false)
  else
    (impl_isEntryOrder.F n x0_0 x0_1 x0_2 x1).bind fun r2 =>
    some (r2.2, true)

/-- loop.example/g01158/laws.FnExactIsEntryOrder -/
def laws_FnExactIsEntryOrder.F (n : Nat) (x0_0 : Int) (x0_1 : List (Int × Int × Int)) (x0_2 : List (Int)) (x1 : List (Int)) : Option (Bool) :=
  if (decide ((x1.length : Int) > (1048576 : Int))) = true then
    some true
  else
    (laws_szMaze.F n x0_0 x0_1 x0_2 (1048576 : Int)).bind fun r1 =>
    if (decide (r1 < (0 : Int))) = true then
      some true
    else
      (laws_toMaze.F n x0_0 x0_1 x0_2).bind fun r2 =>
      (laws_toIntS.F n x1).bind fun r3 =>
      (spec_IsEntryOrder.F n r2.1 r2.2.1 r2.2.2 r3).bind fun r4 =>
      (laws_toMaze.F n x0_0 x0_1 x0_2).bind fun r5 =>
      (laws_toIntS.F n x1).bind fun r6 =>
      (impl_IsEntryOrder.F n r5.1 r5.2.1 r5.2.2 r6).bind fun r7 =>
      if (!(r7.1 == r4.1)) = true then
        some false
      else
        if (!(r7.2 == r4.2)) = true then
          some false
        else
          (laws_toMaze.F n x0_0 x0_1 x0_2).bind fun r8 =>
          (laws_eqMaze.F n r5.1 r5.2.1 r5.2.2 r8.1 r8.2.1 r8.2.2).bind fun r9 =>
          if (!r9) = true then
            some false
          else
            (laws_toIntS.F n x1).bind fun r10 =>
            (laws_eqIntS.F n r6 r10).bind fun r11 =>
            if (!r11) = true then
              some false
            else
              some true

/-- loop.example/g01158/spec.l5Full -/
def spec_l5Full.l0 (n : Nat) (K : Unit → Option ((List (Int)))) : Nat → Bool → Int → (List (Int × Int × Int)) → (List (Int)) → (List (Int)) → Int → Option ((List (Int)))
  | 0, _, _, _, _, _, _ => none
  | k + 1, x1, x2_0, x2_1, x2_2, x5, x6 =>
    (spec_l5Next.F n x2_0 x2_1 x2_2 x6).bind fun r1 =>
    if (decide ((r1.length : Int) = (0 : Int))) = true then
      some x5
    else
      if 0 ≤ (0 : Int) ∧ (0 : Int) < (r1.length : Int) then (if x1 = true then
        if 0 ≤ (IntKind.wrap .i64 ((r1.length : Int) - (1 : Int))) ∧ (IntKind.wrap .i64 ((r1.length : Int) - (1 : Int))) < (r1.length : Int) then (if x5.length + ([r1.getD ((IntKind.wrap .i64 ((r1.length : Int) - (1 : Int))).toNat) (0 : Int)] : List (Int)).length ≤ 4398046511104 then (if (r1.getD ((IntKind.wrap .i64 ((r1.length : Int) - (1 : Int))).toNat) (0 : Int)) < 0 then none else (spec_l5Full.l0 n K k x1 x2_0 x2_1 x2_2 (x5 ++ ([r1.getD ((IntKind.wrap .i64 ((r1.length : Int) - (1 : Int))).toNat) (0 : Int)] : List (Int))) (bitOr .i64 x6 (shL .i64 1 (r1.getD ((IntKind.wrap .i64 ((r1.length : Int) - (1 : Int))).toNat) (0 : Int)))))) else none) else none
      else
        if x5.length + ([r1.getD 0 (0 : Int)] : List (Int)).length ≤ 4398046511104 then (if (r1.getD 0 (0 : Int)) < 0 then none else (spec_l5Full.l0 n K k x1 x2_0 x2_1 x2_2 (x5 ++ ([r1.getD 0 (0 : Int)] : List (Int))) (bitOr .i64 x6 (shL .i64 1 (r1.getD 0 (0 : Int)))))) else none) else none
def spec_l5Full.F (n : Nat) (x0_0 : Int) (x0_1 : List (Int × Int × Int)) (x0_2 : List (Int)) (x1 : Bool) : Option ((List (Int))) :=
  spec_l5Full.l0 n (fun _ =>
    none) n x1 x0_0 x0_1 x0_2 ([(0 : Int)] : List (Int)) (1 : Int)

/-- loop.example/g01158/spec.FirstEntryOrder -/
def spec_FirstEntryOrder.F (n : Nat) (x0_0 : Int) (x0_1 : List (Int × Int × Int)) (x0_2 : List (Int)) : Option ((List (Int)) × Bool) :=
  (spec_l2Maze.F n x0_0 x0_1 x0_2).bind fun r1 =>
  if (!r1) = true then
    some (([] : List (Int)), false)
  else
    (spec_l5Full.F n x0_0 x0_1 x0_2 false).bind fun r2 =>
    some (r2, true)

/-- slices.Min[[]int,int] -/
def slices_Min_int_int.l0 (n : Nat) (K : Int → Option (Int)) : Nat → (List (Int)) → Int → Int → Option (Int)
  | 0, _, _, _ => none
  | k + 1, x0, x3, x4 =>
    if (decide (x4 < (x0.length : Int))) = true then
      if 0 ≤ x4 ∧ x4 < (x0.length : Int) then (slices_Min_int_int.l0 n K k x0 (if (x0.getD x4.toNat (0 : Int)) < x3 then x0.getD x4.toNat (0 : Int) else x3) (IntKind.wrap .i64 (x4 + (1 : Int)))) else none
    else
      K x3
def slices_Min_int_int.F (n : Nat) (x0 : List (Int)) : Option (Int) :=
  if (decide ((x0.length : Int) < (1 : Int))) = true then none else (if 0 ≤ (0 : Int) ∧ (0 : Int) < (x0.length : Int) then (slices_Min_int_int.l0 n (fun y1 =>
    some y1) n x0 (x0.getD 0 (0 : Int)) (1 : Int)) else none)

/-- loop.example/g01158/impl.entryOrder -/
def impl_entryOrder_cslices_Min_int_int.l0 (n : Nat) (K : (List (Int)) → Option ((List (Int)))) : Nat → Int → (List (Int × Int × Int)) → (List (Int)) → (List (Int)) → Int → Int → Option ((List (Int)))
  | 0, _, _, _, _, _, _ => none
  | k + 1, x2_0, x2_1, x2_2, x5, x6, x7 =>
    if (!decide (x7 = (0 : Int))) = true then
      (impl_members.F n x7).bind fun r2 =>
      (slices_Min_int_int.F n r2).bind fun r3 =>
      if x5.length + ([r3] : List (Int)).length ≤ 4398046511104 then (if r3 < 0 then none else ((impl_nexts.F n x2_0 x2_1 x2_2 (bitOr .i64 x6 (shL .i64 1 r3))).bind fun r4 =>
      impl_entryOrder_cslices_Min_int_int.l0 n K k x2_0 x2_1 x2_2 (x5 ++ ([r3] : List (Int))) (bitOr .i64 x6 (shL .i64 1 r3)) r4)) else none
    else
      K x5
def impl_entryOrder_cslices_Min_int_int.F (n : Nat) (x0_0 : Int) (x0_1 : List (Int × Int × Int)) (x0_2 : List (Int)) : Option ((List (Int))) :=
  (impl_nexts.F n x0_0 x0_1 x0_2 (1 : Int)).bind fun r1 =>
  impl_entryOrder_cslices_Min_int_int.l0 n (fun y5 =>
    some y5) n x0_0 x0_1 x0_2 ([(0 : Int)] : List (Int)) (1 : Int) r1

/-- loop.example/g01158/impl.FirstEntryOrder -/
def impl_FirstEntryOrder.F (n : Nat) (x0_0 : Int) (x0_1 : List (Int × Int × Int)) (x0_2 : List (Int)) : Option ((List (Int)) × Bool) :=
  (impl_IsMaze.F n x0_0 x0_1 x0_2).bind fun r1 =>
  if (!r1) = true then
    some (([] : List (Int)), false)
  else
    (impl_entryOrder_cslices_Min_int_int.F n x0_0 x0_1 x0_2).bind fun r2 =>
    some (r2, true)

/-- loop.example/g01158/laws.FnExactFirstEntryOrder -/
def laws_FnExactFirstEntryOrder.F (n : Nat) (x0_0 : Int) (x0_1 : List (Int × Int × Int)) (x0_2 : List (Int)) : Option (Bool) :=
  (laws_szMaze.F n x0_0 x0_1 x0_2 (1048576 : Int)).bind fun r1 =>
  if (decide (r1 < (0 : Int))) = true then
    some true
  else
    (laws_toMaze.F n x0_0 x0_1 x0_2).bind fun r2 =>
    (spec_FirstEntryOrder.F n r2.1 r2.2.1 r2.2.2).bind fun r3 =>
    (laws_toMaze.F n x0_0 x0_1 x0_2).bind fun r4 =>
    (impl_FirstEntryOrder.F n r4.1 r4.2.1 r4.2.2).bind fun r5 =>
    let j10 : (Int) → (List (Int × Int × Int)) → (List (Int)) → (List (Int)) → (Bool) → (Int) → (List (Int × Int × Int)) → (List (Int)) → (List (Int)) → (Bool) → Option (Bool) := fun j10_x1_0 j10_x1_1 j10_x1_2 j10_x4 j10_x5 j10_x6_0 j10_x6_1 j10_x6_2 j10_x7 j10_x8 =>
      (laws_toMaze.F n j10_x1_0 j10_x1_1 j10_x1_2).bind fun r7 =>
      (laws_eqMaze.F n j10_x6_0 j10_x6_1 j10_x6_2 r7.1 r7.2.1 r7.2.2).bind fun r8 =>
      if (!r8) = true then
        some false
      else
        (laws_markMaze.F n j10_x6_0 j10_x6_1 j10_x6_2 (1 : Int)).bind fun r9 =>
        let j16 : (Int) → (List (Int × Int × Int)) → (List (Int)) → (List (Int)) → (Bool) → (List (Int)) → Option (Bool) := fun j16_x1_0 j16_x1_1 j16_x1_2 j16_x4 j16_x5 j16_x7 =>
          (laws_markIntS.F n j16_x7 (1 : Int)).bind fun r11 =>
          (laws_heldIntS.F n r11.2 (1 : Int)).bind fun r12 =>
          if (decide (r12 < (0 : Int))) = true then
            some false
          else
            if (!decide (r12 = r11.1)) = true then
              some false
            else
              (laws_toMaze.F n j16_x1_0 j16_x1_1 j16_x1_2).bind fun r13 =>
              (impl_FirstEntryOrder.F n r13.1 r13.2.1 r13.2.2).bind fun r14 =>
              (laws_eqIntS.F n r14.1 j16_x4).bind fun r15 =>
              if (!r15) = true then
                some false
              else
                if (!(r14.2 == j16_x5)) = true then
                  some false
                else
                  (laws_heldIntS.F n r11.2 (1 : Int)).bind fun r16 =>
                  if (decide (r16 < (0 : Int))) = true then
                    some false
                  else
                    if (!decide (r16 = r11.1)) = true then
                      some false
                    else
                      some true
        if (decide (r9.1 < (0 : Int))) = true then
          some false
        else
          (laws_eqIntS.F n j10_x7 j10_x4).bind fun r10 =>
          if (!r10) = true then
            some false
          else
            if (!(j10_x8 == j10_x5)) = true then
              some false
            else
              j16 j10_x1_0 j10_x1_1 j10_x1_2 j10_x4 j10_x5 j10_x7
    (laws_eqIntS.F n r5.1 r3.1).bind fun r6 =>
    if (!r6) = true then
      some false
    else
      if (!(r5.2 == r3.2)) = true then
        some false
      else
        j10 x0_0 x0_1 x0_2 r3.1 r3.2 r4.1 r4.2.1 r4.2.2 r5.1 r5.2

/-- loop.example/g01158/spec.l5Entered -/
def spec_l5Entered.F (n : Nat) (x0_0 : Int) (x0_1 : List (Int × Int × Int)) (x0_2 : List (Int)) (x1 : Int) : Option (Bool) :=
  (spec_l2Node.F n x0_0 x0_1 x0_2 x1).bind fun r1 =>
  if r1 = true then
    (spec_l5Full.F n x0_0 x0_1 x0_2 false).bind fun r2 =>
    (spec_l1Has.F n r2 x1).bind fun r3 =>
    some r3
  else
    some false

/-- loop.example/g01158/spec.Precedes -/
def spec_Precedes.F (n : Nat) (x0_0 : Int) (x0_1 : List (Int × Int × Int)) (x0_2 : List (Int)) (x1 : Int) (x2 : Int) : Option (Bool × Bool) :=
  (spec_l2Node.F n x0_0 x0_1 x0_2 x1).bind fun r1 =>
  if (!r1) = true then
    some (false, false)
  else
    (spec_l2Node.F n x0_0 x0_1 x0_2 x2).bind fun r2 =>
    if (!r2) = true then
      some (false, false)
    else
      if (decide (x1 = x2)) = true then
        some (false, true)
      else
        (spec_l5Entered.F n x0_0 x0_1 x0_2 x1).bind fun r3 =>
        if (!r3) = true then
          some (false, true)
        else
          (spec_l5Entered.F n x0_0 x0_1 x0_2 x2).bind fun r4 =>
          if (!r4) = true then
            some (false, true)
          else
            if (decide (x1 = (0 : Int))) = true then
              some (true, true)
            else
              if x0_0 < 0 then none else (if x1 < 0 then none else ((spec_l5Largest.F n x0_0 x0_1 x0_2 (IntKind.wrap .i64 ((IntKind.wrap .i64 ((shL .i64 1 x0_0) - (1 : Int))) - (shL .i64 1 x1)))).bind fun r5 =>
              if x2 < 0 then none else (some ((decide ((bitAnd .i64 (shR .i64 r5 x2) 1) = (0 : Int))), true))))

/-- loop.example/g01158/impl.entered -/
def impl_entered.F (n : Nat) (x0_0 : Int) (x0_1 : List (Int × Int × Int)) (x0_2 : List (Int)) : Option (Int) :=
  (impl_allNodes.F n x0_0 x0_1 x0_2).bind fun r1 =>
  (impl_largest.F n x0_0 x0_1 x0_2 r1).bind fun r2 =>
  some r2

/-- loop.example/g01158/impl.canEnter -/
def impl_canEnter.F (n : Nat) (x0_0 : Int) (x0_1 : List (Int × Int × Int)) (x0_2 : List (Int)) (x1 : Int) : Option (Bool) :=
  (impl_isNode.F n x0_0 x0_1 x0_2 ([x1] : List (Int))).bind fun r1 =>
  if r1 = true then
    (impl_entered.F n x0_0 x0_1 x0_2).bind fun r2 =>
    if x1 < 0 then none else (some (decide ((bitAnd .i64 (shR .i64 r2 x1) 1) = (1 : Int))))
  else
    some false

/-- loop.example/g01158/impl.without -/
def impl_without.F (n : Nat) (x0_0 : Int) (x0_1 : List (Int × Int × Int)) (x0_2 : List (Int)) (x1 : Int) : Option (Int) :=
  (impl_allNodes.F n x0_0 x0_1 x0_2).bind fun r1 =>
  if x1 < 0 then none else ((impl_largest.F n x0_0 x0_1 x0_2 (bitClr .i64 r1 (shL .i64 1 x1))).bind fun r2 =>
  some r2)

/-- loop.example/g01158/impl.Precedes -/
def impl_Precedes.F (n : Nat) (x0_0 : Int) (x0_1 : List (Int × Int × Int)) (x0_2 : List (Int)) (x1 : Int) (x2 : Int) : Option (Bool × Bool) :=
  (impl_isNode.F n x0_0 x0_1 x0_2 ([x1, x2] : List (Int))).bind fun r1 =>
  if (!r1) = true then
    some (false, false)
  else
    if (!decide (x1 = x2)) = true then
      (impl_canEnter.F n x0_0 x0_1 x0_2 x1).bind fun r2 =>
      if r2 = true then
        (impl_canEnter.F n x0_0 x0_1 x0_2 x2).bind fun r3 =>
        if r3 = true then
          (impl_without.F n x0_0 x0_1 x0_2 x1).bind fun r4 =>
          if x2 < 0 then none else (some ((decide ((bitAnd .i64 (shR .i64 r4 x2) 1) = (0 : Int))), true))
        else
          some (false, true)
      else
        some (false, true)
    else
      some (false, true)

/-- loop.example/g01158/laws.FnExactPrecedes -/
def laws_FnExactPrecedes.F (n : Nat) (x0_0 : Int) (x0_1 : List (Int × Int × Int)) (x0_2 : List (Int)) (x1 : Int) (x2 : Int) : Option (Bool) :=
  (laws_szMaze.F n x0_0 x0_1 x0_2 (1048576 : Int)).bind fun r1 =>
  if (decide (r1 < (0 : Int))) = true then
    some true
  else
    (laws_toMaze.F n x0_0 x0_1 x0_2).bind fun r2 =>
    (spec_Precedes.F n r2.1 r2.2.1 r2.2.2 x1 x2).bind fun r3 =>
    (laws_toMaze.F n x0_0 x0_1 x0_2).bind fun r4 =>
    (impl_Precedes.F n r4.1 r4.2.1 r4.2.2 x1 x2).bind fun r5 =>
    if (!(r5.1 == r3.1)) = true then
      some false
    else
      if (!(r5.2 == r3.2)) = true then
        some false
      else
        (laws_toMaze.F n x0_0 x0_1 x0_2).bind fun r6 =>
        (laws_eqMaze.F n r4.1 r4.2.1 r4.2.2 r6.1 r6.2.1 r6.2.2).bind fun r7 =>
        if (!r7) = true then
          some false
        else
          some true

end Go.Pf
