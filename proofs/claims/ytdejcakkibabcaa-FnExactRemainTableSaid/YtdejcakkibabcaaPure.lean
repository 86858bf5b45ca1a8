/- The pure functions of this seat's Go functions, as a program of mine (mach.py) printed them. -/
import Derived.Test.YtdejcakkibabcaaGwA
set_option linter.unusedVariables false
set_option autoImplicit false
namespace Go.Pf
open Go Go.Fx
noncomputable section

/-- loop.example/g01158/laws.szIntA3S -/
def laws_szIntA3S.F (n : Nat) (x0 : List (Int × Int × Int)) (x1 : Int) : Option (Int) :=
  if (decide ((IntKind.wrap .i64 (x1 - (x0.length : Int))) < (0 : Int))) = true then
    some (-1 : Int)
  else
    some (IntKind.wrap .i64 (x1 - (x0.length : Int)))

/-- loop.example/g01158/laws.szIntS -/
def laws_szIntS.F (n : Nat) (x0 : List (Int)) (x1 : Int) : Option (Int) :=
  if (decide ((IntKind.wrap .i64 (x1 - (x0.length : Int))) < (0 : Int))) = true then
    some (-1 : Int)
  else
    some (IntKind.wrap .i64 (x1 - (x0.length : Int)))

/-- loop.example/g01158/laws.szMaze -/
def laws_szMaze.F (n : Nat) (x0_0 : Int) (x0_1 : List (Int × Int × Int)) (x0_2 : List (Int)) (x1 : Int) : Option (Int) :=
  (laws_szIntA3S.F n x0_1 x1).bind fun r1 =>
  if (decide (r1 < (0 : Int))) = true then
    some (-1 : Int)
  else
    (laws_szIntS.F n x0_2 r1).bind fun r2 =>
    if (decide (r2 < (0 : Int))) = true then
      some (-1 : Int)
    else
      some r2

/-- loop.example/g01158/laws.toIntA3 -/
def laws_toIntA3.F (n : Nat) (x0_0 : Int) (x0_1 : Int) (x0_2 : Int) : Option (Int × Int × Int) :=
  some (x0_0, x0_1, x0_2)

/-- loop.example/g01158/laws.toIntA3S -/
def laws_toIntA3S.l0 (n : Nat) (K : (List (Int × Int × Int)) → Option ((List (Int × Int × Int)))) : Nat → (List (Int × Int × Int)) → (List (Int × Int × Int)) → Int → Option ((List (Int × Int × Int)))
  | 0, _, _, _ => none
  | k + 1, x0, x3, x4 =>
    if (decide (x4 < (x0.length : Int))) = true then
      if 0 ≤ x4 ∧ x4 < (x0.length : Int) then ((laws_toIntA3.F n ((x0.getD x4.toNat ((0 : Int), (0 : Int), (0 : Int))).1) ((x0.getD x4.toNat ((0 : Int), (0 : Int), (0 : Int))).2.1) ((x0.getD x4.toNat ((0 : Int), (0 : Int), (0 : Int))).2.2)).bind fun r1 =>
      if 0 ≤ x4 ∧ x4 < (x3.length : Int) then (laws_toIntA3S.l0 n K k x0 (x3.set x4.toNat r1) (IntKind.wrap .i64 (x4 + (1 : Int)))) else none) else none
    else
      K x3
def laws_toIntA3S.F (n : Nat) (x0 : List (Int × Int × Int)) : Option ((List (Int × Int × Int))) :=
  if 0 ≤ (x0.length : Int) ∧ (x0.length : Int) ≤ (x0.length : Int) ∧ (x0.length : Int) ≤ 4398046511104 then (laws_toIntA3S.l0 n (fun y2 =>
    some y2) n x0 (List.replicate ((x0.length : Int).toNat) ((0 : Int), (0 : Int), (0 : Int))) (0 : Int)) else none

/-- loop.example/g01158/laws.toIntS -/
def laws_toIntS.l0 (n : Nat) (K : (List (Int)) → Option ((List (Int)))) : Nat → (List (Int)) → (List (Int)) → Int → Option ((List (Int)))
  | 0, _, _, _ => none
  | k + 1, x0, x3, x4 =>
    if (decide (x4 < (x0.length : Int))) = true then
      if 0 ≤ x4 ∧ x4 < (x0.length : Int) then (if 0 ≤ x4 ∧ x4 < (x3.length : Int) then (laws_toIntS.l0 n K k x0 (x3.set x4.toNat (x0.getD x4.toNat (0 : Int))) (IntKind.wrap .i64 (x4 + (1 : Int)))) else none) else none
    else
      K x3
def laws_toIntS.F (n : Nat) (x0 : List (Int)) : Option ((List (Int))) :=
  if 0 ≤ (x0.length : Int) ∧ (x0.length : Int) ≤ (x0.length : Int) ∧ (x0.length : Int) ≤ 4398046511104 then (laws_toIntS.l0 n (fun y1 =>
    some y1) n x0 (List.replicate ((x0.length : Int).toNat) (0 : Int)) (0 : Int)) else none

/-- loop.example/g01158/laws.toMaze -/
def laws_toMaze.F (n : Nat) (x0_0 : Int) (x0_1 : List (Int × Int × Int)) (x0_2 : List (Int)) : Option (Int × (List (Int × Int × Int)) × (List (Int))) :=
  (laws_toIntA3S.F n x0_1).bind fun r1 =>
  (laws_toIntS.F n x0_2).bind fun r2 =>
  some (x0_0, r1, r2)

/-- loop.example/g01158/spec.l1In -/
def spec_l1In.F (n : Nat) (x0 : Int) (x1 : Int) (x2 : Int) : Option (Bool) :=
  if (decide (x0 ≥ x1)) = true then
    some (decide (x0 ≤ x2))
  else
    some false

/-- loop.example/g01158/spec.l2Set -/
def spec_l2Set.F (n : Nat) (x0 : Int) : Option (Bool) :=
  (spec_l1In.F n x0 (0 : Int) (63 : Int)).bind fun r1 =>
  some r1

/-- loop.example/g01158/spec.l2Before -/
def spec_l2Before.F (n : Nat) (x0_0 : Int) (x0_1 : Int) (x0_2 : Int) (x1_0 : Int) (x1_1 : Int) (x1_2 : Int) : Option (Bool) :=
  if (!decide (x0_0 = x1_0)) = true then
    some (decide (x0_0 < x1_0))
  else
    if (!decide (x0_1 = x1_1)) = true then
      some (decide (x0_1 < x1_1))
    else
      if (!decide (x0_2 = x1_2)) = true then
        some (decide (x0_2 < x1_2))
      else
        some false

/-- loop.example/g01158/spec.l2Maze -/
def spec_l2Maze.l0 (n : Nat) (K : Int → (List (Int × Int × Int)) → (List (Int)) → Option (Bool)) : Nat → Int → (List (Int × Int × Int)) → (List (Int)) → Int → Option (Bool)
  | 0, _, _, _, _ => none
  | k + 1, x1_0, x1_1, x1_2, x3 =>
    if (decide (x3 < (x1_1.length : Int))) = true then
      if 0 ≤ x3 ∧ x3 < (x1_1.length : Int) then ((spec_l1In.F n ((x1_1.getD x3.toNat ((0 : Int), (0 : Int), (0 : Int))).1) (0 : Int) (IntKind.wrap .i64 (x1_0 - (1 : Int)))).bind fun r2 =>
      if (!r2) = true then
        some false
      else
        (spec_l1In.F n ((x1_1.getD x3.toNat ((0 : Int), (0 : Int), (0 : Int))).2.1) (IntKind.wrap .i64 (((x1_1.getD x3.toNat ((0 : Int), (0 : Int), (0 : Int))).1) + (1 : Int))) (IntKind.wrap .i64 (x1_0 - (1 : Int)))).bind fun r3 =>
        if (!r3) = true then
          some false
        else
          (spec_l2Set.F n ((x1_1.getD x3.toNat ((0 : Int), (0 : Int), (0 : Int))).2.2)).bind fun r4 =>
          if (!r4) = true then
            some false
          else
            if (decide (x3 > (0 : Int))) = true then
              if 0 ≤ (IntKind.wrap .i64 (x3 - (1 : Int))) ∧ (IntKind.wrap .i64 (x3 - (1 : Int))) < (x1_1.length : Int) then ((spec_l2Before.F n ((x1_1.getD ((IntKind.wrap .i64 (x3 - (1 : Int))).toNat) ((0 : Int), (0 : Int), (0 : Int))).1) ((x1_1.getD ((IntKind.wrap .i64 (x3 - (1 : Int))).toNat) ((0 : Int), (0 : Int), (0 : Int))).2.1) ((x1_1.getD ((IntKind.wrap .i64 (x3 - (1 : Int))).toNat) ((0 : Int), (0 : Int), (0 : Int))).2.2) ((x1_1.getD x3.toNat ((0 : Int), (0 : Int), (0 : Int))).1) ((x1_1.getD x3.toNat ((0 : Int), (0 : Int), (0 : Int))).2.1) ((x1_1.getD x3.toNat ((0 : Int), (0 : Int), (0 : Int))).2.2)).bind fun r5 =>
              if (!r5) = true then
                some false
              else
                spec_l2Maze.l0 n K k x1_0 x1_1 x1_2 (IntKind.wrap .i64 (x3 + (1 : Int)))) else none
            else
              spec_l2Maze.l0 n K k x1_0 x1_1 x1_2 (IntKind.wrap .i64 (x3 + (1 : Int)))) else none
    else
      K x1_0 x1_1 x1_2
def spec_l2Maze.l2 (n : Nat) (K : Unit → Option (Bool)) : Nat → Int → (List (Int × Int × Int)) → (List (Int)) → Int → Option (Bool)
  | 0, _, _, _, _ => none
  | k + 1, x1_0, x1_1, x1_2, x5 =>
    if (decide (x5 < x1_0)) = true then
      if 0 ≤ x5 ∧ x5 < (x1_2.length : Int) then ((spec_l2Set.F n (x1_2.getD x5.toNat (0 : Int))).bind fun r9 =>
      if (!r9) = true then
        some false
      else
        spec_l2Maze.l2 n K k x1_0 x1_1 x1_2 (IntKind.wrap .i64 (x5 + (1 : Int)))) else none
    else
      K ()
def spec_l2Maze.F (n : Nat) (x0_0 : Int) (x0_1 : List (Int × Int × Int)) (x0_2 : List (Int)) : Option (Bool) :=
  let j3 : (Int) → (List (Int × Int × Int)) → (List (Int)) → Option (Bool) := fun j3_x1_0 j3_x1_1 j3_x1_2 =>
    spec_l2Maze.l0 n (fun y6 y7 y8 =>
      spec_l2Maze.l2 n (fun _ =>
        some true) n y6 y7 y8 (0 : Int)) n j3_x1_0 j3_x1_1 j3_x1_2 (0 : Int)
  (spec_l1In.F n x0_0 (1 : Int) (12 : Int)).bind fun r1 =>
  if (!r1) = true then
    some false
  else
    if (decide ((x0_1.length : Int) > (30 : Int))) = true then
      some false
    else
      if (!decide ((x0_2.length : Int) = x0_0)) = true then
        some false
      else
        j3 x0_0 x0_1 x0_2

/-- loop.example/g01158/spec.l2Joins -/
def spec_l2Joins.F (n : Nat) (x0_0 : Int) (x0_1 : Int) (x0_2 : Int) (x1 : Int) (x2 : Int) : Option (Bool) :=
  if (decide (x0_0 = x1)) = true then
    if (decide (x0_1 = x2)) = true then
      some true
    else
      if (decide (x0_0 = x2)) = true then
        some (decide (x0_1 = x1))
      else
        some false
  else
    if (decide (x0_0 = x2)) = true then
      some (decide (x0_1 = x1))
    else
      some false

/-- loop.example/g01158/spec.l2Has -/
def spec_l2Has.F (n : Nat) (x0 : Int) (x1 : Int) : Option (Bool) :=
  some (decide ((bitAnd .i64 x0 x1) = x1))

/-- loop.example/g01158/spec.l2Open -/
def spec_l2Open.l0 (n : Nat) (K : Unit → Option (Bool)) : Nat → Int → Int → Int → Int → (List (Int × Int × Int)) → (List (Int)) → Int → Option (Bool)
  | 0, _, _, _, _, _, _, _ => none
  | k + 1, x1, x2, x3, x4_0, x4_1, x4_2, x9 =>
    if (decide (x9 < (x4_1.length : Int))) = true then
      if 0 ≤ x9 ∧ x9 < (x4_1.length : Int) then ((spec_l2Joins.F n ((x4_1.getD x9.toNat ((0 : Int), (0 : Int), (0 : Int))).1) ((x4_1.getD x9.toNat ((0 : Int), (0 : Int), (0 : Int))).2.1) ((x4_1.getD x9.toNat ((0 : Int), (0 : Int), (0 : Int))).2.2) x1 x2).bind fun r1 =>
      if r1 = true then
        if 0 ≤ x9 ∧ x9 < (x4_1.length : Int) then ((spec_l2Has.F n x3 ((x4_1.getD x9.toNat ((0 : Int), (0 : Int), (0 : Int))).2.2)).bind fun r2 =>
        if r2 = true then
          some true
        else
          spec_l2Open.l0 n K k x1 x2 x3 x4_0 x4_1 x4_2 (IntKind.wrap .i64 (x9 + (1 : Int)))) else none
      else
        spec_l2Open.l0 n K k x1 x2 x3 x4_0 x4_1 x4_2 (IntKind.wrap .i64 (x9 + (1 : Int)))) else none
    else
      K ()
def spec_l2Open.F (n : Nat) (x0_0 : Int) (x0_1 : List (Int × Int × Int)) (x0_2 : List (Int)) (x1 : Int) (x2 : Int) (x3 : Int) : Option (Bool) :=
  spec_l2Open.l0 n (fun _ =>
    some false) n x1 x2 x3 x0_0 x0_1 x0_2 (0 : Int)

/-- loop.example/g01158/spec.l4Id -/
def spec_l4Id.F (n : Nat) (x0 : Int) (x1 : Int) : Option (Int) :=
  some (IntKind.wrap .i64 ((IntKind.wrap .i64 (x0 * (64 : Int))) + x1))

/-- loop.example/g01158/spec.l4Step -/
def spec_l4Step.l0 (n : Nat) (K : (List (Int)) → Option ((List (Int)))) : Nat → Int → Int → Int → (List (Int × Int × Int)) → (List (Int)) → (List (Int)) → Int → Option ((List (Int)))
  | 0, _, _, _, _, _, _, _ => none
  | k + 1, x1, x2, x3_0, x3_1, x3_2, x7, x8 =>
    if (decide (x8 < x3_0)) = true then
      (spec_l2Open.F n x3_0 x3_1 x3_2 x1 x8 x2).bind fun r1 =>
      if r1 = true then
        if 0 ≤ x8 ∧ x8 < (x3_2.length : Int) then ((spec_l4Id.F n x8 (bitOr .i64 x2 (x3_2.getD x8.toNat (0 : Int)))).bind fun r2 =>
        if x7.length + ([r2] : List (Int)).length ≤ 4398046511104 then (spec_l4Step.l0 n K k x1 x2 x3_0 x3_1 x3_2 (x7 ++ ([r2] : List (Int))) (IntKind.wrap .i64 (x8 + (1 : Int)))) else none) else none
      else
        spec_l4Step.l0 n K k x1 x2 x3_0 x3_1 x3_2 x7 (IntKind.wrap .i64 (x8 + (1 : Int)))
    else
      K x7
def spec_l4Step.F (n : Nat) (x0_0 : Int) (x0_1 : List (Int × Int × Int)) (x0_2 : List (Int)) (x1 : Int) (x2 : Int) : Option ((List (Int))) :=
  spec_l4Step.l0 n (fun y3 =>
    some y3) n x1 x2 x0_0 x0_1 x0_2 ([] : List (Int)) (0 : Int)

/-- loop.example/g01158/spec.l4Remain -/
def spec_l4Remain.l0 (n : Nat) (K : Int → (List (Int × Int × Int)) → (List (Int)) → (List (Int)) → Option ((List (Int)))) : Nat → Int → (List (Int × Int × Int)) → (List (Int)) → (List (Int)) → Int → Option ((List (Int)))
  | 0, _, _, _, _, _ => none
  | k + 1, x1_0, x1_1, x1_2, x3, x4 =>
    if (decide (x4 < (x3.length : Int))) = true then
      if 0 ≤ x4 ∧ x4 < (x3.length : Int) then (if (decide ((IntKind.wrap .i64 (Int.tdiv x4 64)) = (IntKind.wrap .i64 (x1_0 - (1 : Int))))) = true then
        if 0 ≤ x4 ∧ x4 < ((x3.set x4.toNat (-1 : Int)).length : Int) then (spec_l4Remain.l0 n K k x1_0 x1_1 x1_2 ((x3.set x4.toNat (-1 : Int)).set x4.toNat (0 : Int)) (IntKind.wrap .i64 (x4 + (1 : Int)))) else none
      else
        spec_l4Remain.l0 n K k x1_0 x1_1 x1_2 (x3.set x4.toNat (-1 : Int)) (IntKind.wrap .i64 (x4 + (1 : Int)))) else none
    else
      K x1_0 x1_1 x1_2 x3
def spec_l4Remain.l6 (n : Nat) (K : Int → (List (Int × Int × Int)) → (List (Int)) → (List (Int)) → Int → Bool → Int → Option ((List (Int)))) : Nat → Int → (List (Int × Int × Int)) → (List (Int)) → (List (Int)) → Int → Bool → Int → (List (Int)) → Int → Option ((List (Int)))
  | 0, _, _, _, _, _, _, _, _, _ => none
  | k + 1, x1_0, x1_1, x1_2, x3, x5, x6, x7, x8, x9 =>
    if (decide (x9 < (x8.length : Int))) = true then
      if 0 ≤ x7 ∧ x7 < (x3.length : Int) then (if (decide ((x3.getD x7.toNat (0 : Int)) < (0 : Int))) = true then
        if 0 ≤ x9 ∧ x9 < (x8.length : Int) then (if 0 ≤ (x8.getD x9.toNat (0 : Int)) ∧ (x8.getD x9.toNat (0 : Int)) < (x3.length : Int) then (if (decide ((x3.getD ((x8.getD x9.toNat (0 : Int)).toNat) (0 : Int)) = (IntKind.wrap .i64 (x5 - (1 : Int))))) = true then
          if 0 ≤ x7 ∧ x7 < (x3.length : Int) then (spec_l4Remain.l6 n K k x1_0 x1_1 x1_2 (x3.set x7.toNat x5) x5 true x7 x8 (IntKind.wrap .i64 (x9 + (1 : Int)))) else none
        else
          spec_l4Remain.l6 n K k x1_0 x1_1 x1_2 x3 x5 x6 x7 x8 (IntKind.wrap .i64 (x9 + (1 : Int)))) else none) else none
      else
        K x1_0 x1_1 x1_2 x3 x5 x6 x7) else none
    else
      K x1_0 x1_1 x1_2 x3 x5 x6 x7
def spec_l4Remain.l4 (n : Nat) (K : Int → (List (Int × Int × Int)) → (List (Int)) → (List (Int)) → Int → Bool → Option ((List (Int)))) : Nat → Int → (List (Int × Int × Int)) → (List (Int)) → (List (Int)) → Int → Bool → Int → Option ((List (Int)))
  | 0, _, _, _, _, _, _, _ => none
  | k + 1, x1_0, x1_1, x1_2, x3, x5, x6, x7 =>
    if (decide (x7 < (x3.length : Int))) = true then
      if 0 ≤ (IntKind.wrap .i64 (Int.tdiv x7 64)) ∧ (IntKind.wrap .i64 (Int.tdiv x7 64)) < (x1_2.length : Int) then ((spec_l4Step.F n x1_0 x1_1 x1_2 (IntKind.wrap .i64 (Int.tdiv x7 64)) (bitOr .i64 (Int.tmod x7 64) (x1_2.getD ((IntKind.wrap .i64 (Int.tdiv x7 64)).toNat) (0 : Int)))).bind fun r5 =>
      spec_l4Remain.l6 n (fun y6 y7 y8 y9 y10 y11 y12 =>
        spec_l4Remain.l4 n K k y6 y7 y8 y9 y10 y11 (IntKind.wrap .i64 (y12 + (1 : Int)))) n x1_0 x1_1 x1_2 x3 x5 x6 x7 r5 (0 : Int)) else none
    else
      K x1_0 x1_1 x1_2 x3 x5 x6
def spec_l4Remain.l2 (n : Nat) (K : (List (Int)) → Option ((List (Int)))) : Nat → Int → (List (Int × Int × Int)) → (List (Int)) → (List (Int)) → Int → Option ((List (Int)))
  | 0, _, _, _, _, _ => none
  | k + 1, x1_0, x1_1, x1_2, x3, x5 =>
    if (decide (x5 < (x3.length : Int))) = true then
      spec_l4Remain.l4 n (fun y13 y14 y15 y16 y17 y18 =>
        if (!y18) = true then
          some y16
        else
          spec_l4Remain.l2 n K k y13 y14 y15 y16 (IntKind.wrap .i64 (y17 + (1 : Int)))) n x1_0 x1_1 x1_2 x3 x5 false (0 : Int)
    else
      K x3
def spec_l4Remain.F (n : Nat) (x0_0 : Int) (x0_1 : List (Int × Int × Int)) (x0_2 : List (Int)) : Option ((List (Int))) :=
  if 0 ≤ (IntKind.wrap .i64 (x0_0 * (64 : Int))) ∧ (IntKind.wrap .i64 (x0_0 * (64 : Int))) ≤ (IntKind.wrap .i64 (x0_0 * (64 : Int))) ∧ (IntKind.wrap .i64 (x0_0 * (64 : Int))) ≤ 4398046511104 then (spec_l4Remain.l0 n (fun y1 y2 y3 y4 =>
    spec_l4Remain.l2 n (fun y19 =>
      some y19) n y1 y2 y3 y4 (1 : Int)) n x0_0 x0_1 x0_2 (List.replicate ((IntKind.wrap .i64 (x0_0 * (64 : Int))).toNat) (0 : Int)) (0 : Int)) else none

/-- loop.example/g01158/spec.l1Own -/
def spec_l1Own.F (n : Nat) (x0 : List (Int)) : Option ((List (Int))) :=
  if ([] : List (Int)).length + x0.length ≤ 4398046511104 then (some (([] : List (Int)) ++ x0)) else none

/-- loop.example/g01158/spec.RemainTable -/
def spec_RemainTable.l0 (n : Nat) (K : (List (List Int)) → Option ((List (List Int)) × Bool)) : Nat → Int → (List (Int × Int × Int)) → (List (Int)) → (List (List Int)) → (List (Int)) → Int → Option ((List (List Int)) × Bool)
  | 0, _, _, _, _, _, _ => none
  | k + 1, x1_0, x1_1, x1_2, x4, x5, x6 =>
    if (decide (x6 < x1_0)) = true then
      (spec_l4Id.F n x6 (0 : Int)).bind fun r3 =>
      (spec_l4Id.F n (IntKind.wrap .i64 (x6 + (1 : Int))) (0 : Int)).bind fun r4 =>
      if 0 ≤ r3 ∧ r3 ≤ r4 ∧ r4 ≤ (x5.length : Int) then ((spec_l1Own.F n ((x5.drop r3.toNat).take (r4.toNat - r3.toNat))).bind fun r5 =>
      if x4.length + 1 ≤ 1048576 then (spec_RemainTable.l0 n K k x1_0 x1_1 x1_2 (x4 ++ [r5]) x5 (IntKind.wrap .i64 (x6 + (1 : Int)))) else none) else none
    else
      K x4
def spec_RemainTable.F (n : Nat) (x0_0 : Int) (x0_1 : List (Int × Int × Int)) (x0_2 : List (Int)) : Option ((List (List Int)) × Bool) :=
  (spec_l2Maze.F n x0_0 x0_1 x0_2).bind fun r1 =>
  if (!r1) = true then
    some (([] : List (List Int)), false)
  else
    (spec_l4Remain.F n x0_0 x0_1 x0_2).bind fun r2 =>
    spec_RemainTable.l0 n (fun y6 =>
      some (y6, true)) n x0_0 x0_1 x0_2 ([] : List (List Int)) r2 (0 : Int)

/-- loop.example/g01158/impl.within -/
def impl_within.F (n : Nat) (x0 : Int) (x1 : Int) (x2 : Int) : Option (Bool) :=
  if (decide (x1 ≤ x0)) = true then
    some (decide (x0 ≤ x2))
  else
    some false

/-- loop.example/g01158/impl.isSet -/
def impl_isSet.F (n : Nat) (x0 : Int) : Option (Bool) :=
  (impl_within.F n x0 (0 : Int) (63 : Int)).bind fun r1 =>
  some r1

/-- cmp.isNaN[int] -/
def cmp_isNaN_int.F (n : Nat) (x0 : Int) : Option (Bool) :=
  some (!decide (x0 = x0))

/-- cmp.Compare[int] -/
def cmp_Compare_int.F (n : Nat) (x0 : Int) (x1 : Int) : Option (Int) :=
  (cmp_isNaN_int.F n x0).bind fun r1 =>
  (cmp_isNaN_int.F n x1).bind fun r2 =>
  if r1 = true then
    if r2 = true then
      some (0 : Int)
    else
      some (-1 : Int)
  else
    if r2 = true then
      some (1 : Int)
    else
      if (decide (x0 < x1)) = true then
        some (-1 : Int)
      else
        if (decide (x0 > x1)) = true then
          some (1 : Int)
        else
          some (0 : Int)

/-- cmp.Or[int] -/
def cmp_Or_int.l0 (n : Nat) (K : Int → Option (Int)) : Nat → Int → (List (Int)) → Int → Int → Option (Int)
  | 0, _, _, _, _ => none
  | k + 1, x3, x6, x7, x8 =>
    if (decide (x8 < x7)) = true then
      if 0 ≤ x8 ∧ x8 < (x6.length : Int) then (if (!decide ((x6.getD x8.toNat (0 : Int)) = x3)) = true then
        some (x6.getD x8.toNat (0 : Int))
      else
        cmp_Or_int.l0 n K k x3 x6 x7 (IntKind.wrap .i64 (x8 + (1 : Int)))) else none
    else
      K x3
def cmp_Or_int.F (n : Nat) (x0 : List (Int)) : Option (Int) :=
  cmp_Or_int.l0 n (fun y1 =>
    some y1) n (0 : Int) x0 (x0.length : Int) (0 : Int)

/-- loop.example/g01158/impl.compareDoors -/
def impl_compareDoors.F (n : Nat) (x0_0 : Int) (x0_1 : Int) (x0_2 : Int) (x1_0 : Int) (x1_1 : Int) (x1_2 : Int) : Option (Int) :=
  (cmp_Compare_int.F n x0_0 x1_0).bind fun r1 =>
  (cmp_Compare_int.F n x0_1 x1_1).bind fun r2 =>
  (cmp_Compare_int.F n x0_2 x1_2).bind fun r3 =>
  (cmp_Or_int.F n ([r1, r2, r3] : List (Int))).bind fun r4 =>
  some r4

/-- loop.example/g01158/impl.IsMaze$1 -/
def impl_IsMaze_1.F (n : Nat) (x0 : Int) : Option (Bool) :=
  (impl_isSet.F n x0).bind fun r1 =>
  some (!r1)

/-- slices.IndexFunc[[]int,int] -/
def slices_IndexFunc_int_int_cIsMaze_1.l0 (n : Nat) (K : Unit → Option (Int)) : Nat → (List (Int)) → Int → Int → Option (Int)
  | 0, _, _, _ => none
  | k + 1, x0, x7, x8 =>
    if (decide (x8 < x7)) = true then
      if 0 ≤ x8 ∧ x8 < (x0.length : Int) then ((impl_IsMaze_1.F n (x0.getD x8.toNat (0 : Int))).bind fun r1 =>
      if r1 = true then
        some x8
      else
        slices_IndexFunc_int_int_cIsMaze_1.l0 n K k x0 x7 (IntKind.wrap .i64 (x8 + (1 : Int)))) else none
    else
      K ()
def slices_IndexFunc_int_int_cIsMaze_1.F (n : Nat) (x0 : List (Int)) : Option (Int) :=
  slices_IndexFunc_int_int_cIsMaze_1.l0 n (fun _ =>
    some (-1 : Int)) n x0 (x0.length : Int) (0 : Int)

/-- slices.ContainsFunc[[]int,int] -/
def slices_ContainsFunc_int_int_cIsMaze_1.F (n : Nat) (x0 : List (Int)) : Option (Bool) :=
  (slices_IndexFunc_int_int_cIsMaze_1.F n x0).bind fun r1 =>
  some (decide (r1 ≥ (0 : Int)))

/-- loop.example/g01158/impl.IsMaze -/
def impl_IsMaze.l0 (n : Nat) (K : Int → (List (Int × Int × Int)) → (List (Int)) → Option (Bool)) : Nat → Int → (List (Int × Int × Int)) → (List (Int)) → Int → Int → Option (Bool)
  | 0, _, _, _, _, _ => none
  | k + 1, x1_0, x1_1, x1_2, x25, x26 =>
    if (decide (x26 < x25)) = true then
      if 0 ≤ x26 ∧ x26 < (x1_1.length : Int) then (if (decide (((x1_1.getD x26.toNat ((0 : Int), (0 : Int), (0 : Int))).1) < (0 : Int))) = true then
        some false
      else
        if (decide (((x1_1.getD x26.toNat ((0 : Int), (0 : Int), (0 : Int))).1) ≥ ((x1_1.getD x26.toNat ((0 : Int), (0 : Int), (0 : Int))).2.1))) = true then
          some false
        else
          if (decide (((x1_1.getD x26.toNat ((0 : Int), (0 : Int), (0 : Int))).2.1) ≥ x1_0)) = true then
            some false
          else
            (impl_isSet.F n ((x1_1.getD x26.toNat ((0 : Int), (0 : Int), (0 : Int))).2.2)).bind fun r2 =>
            if (!r2) = true then
              some false
            else
              if (decide (x26 > (0 : Int))) = true then
                if 0 ≤ (IntKind.wrap .i64 (x26 - (1 : Int))) ∧ (IntKind.wrap .i64 (x26 - (1 : Int))) < (x1_1.length : Int) then ((impl_compareDoors.F n ((x1_1.getD ((IntKind.wrap .i64 (x26 - (1 : Int))).toNat) ((0 : Int), (0 : Int), (0 : Int))).1) ((x1_1.getD ((IntKind.wrap .i64 (x26 - (1 : Int))).toNat) ((0 : Int), (0 : Int), (0 : Int))).2.1) ((x1_1.getD ((IntKind.wrap .i64 (x26 - (1 : Int))).toNat) ((0 : Int), (0 : Int), (0 : Int))).2.2) ((x1_1.getD x26.toNat ((0 : Int), (0 : Int), (0 : Int))).1) ((x1_1.getD x26.toNat ((0 : Int), (0 : Int), (0 : Int))).2.1) ((x1_1.getD x26.toNat ((0 : Int), (0 : Int), (0 : Int))).2.2)).bind fun r3 =>
                if (decide (r3 ≥ (0 : Int))) = true then
                  some false
                else
                  impl_IsMaze.l0 n K k x1_0 x1_1 x1_2 x25 (IntKind.wrap .i64 (x26 + (1 : Int)))) else none
              else
                impl_IsMaze.l0 n K k x1_0 x1_1 x1_2 x25 (IntKind.wrap .i64 (x26 + (1 : Int)))) else none
    else
      K x1_0 x1_1 x1_2
def impl_IsMaze.F (n : Nat) (x0_0 : Int) (x0_1 : List (Int × Int × Int)) (x0_2 : List (Int)) : Option (Bool) :=
  let j3 : (Int) → (List (Int × Int × Int)) → (List (Int)) → Option (Bool) := fun j3_x1_0 j3_x1_1 j3_x1_2 =>
    impl_IsMaze.l0 n (fun y4 y5 y6 =>
      (slices_ContainsFunc_int_int_cIsMaze_1.F n y6).bind fun r7 =>
      some (!r7)) n j3_x1_0 j3_x1_1 j3_x1_2 (j3_x1_1.length : Int) (0 : Int)
  (impl_within.F n x0_0 (1 : Int) (12 : Int)).bind fun r1 =>
  if (!r1) = true then
    some false
  else
    if (decide ((x0_1.length : Int) > (30 : Int))) = true then
      some false
    else
      if (!decide ((x0_2.length : Int) = x0_0)) = true then
        some false
      else
        j3 x0_0 x0_1 x0_2

/-- loop.example/g01158/impl.has -/
def impl_has.F (n : Nat) (x0 : Int) (x1 : Int) : Option (Bool) :=
  some (decide ((bitClr .i64 x1 x0) = (0 : Int)))

/-- loop.example/g01158/impl.steps -/
def impl_steps.l0 (n : Nat) (K : Int → Option (Int)) : Nat → Int → Int → Int → (List (Int × Int × Int)) → Int → Int → Option (Int)
  | 0, _, _, _, _, _, _ => none
  | k + 1, x1, x2, x7, x11, x12, x13 =>
    if (decide (x13 < x12)) = true then
      if 0 ≤ x13 ∧ x13 < (x11.length : Int) then ((impl_has.F n x2 ((x11.getD x13.toNat ((0 : Int), (0 : Int), (0 : Int))).2.2)).bind fun r1 =>
      if (!r1) = true then
        impl_steps.l0 n K k x1 x2 x7 x11 x12 (IntKind.wrap .i64 (x13 + (1 : Int)))
      else
        if (decide (((x11.getD x13.toNat ((0 : Int), (0 : Int), (0 : Int))).1) = x1)) = true then
          if ((x11.getD x13.toNat ((0 : Int), (0 : Int), (0 : Int))).2.1) < 0 then none else (if (decide (((x11.getD x13.toNat ((0 : Int), (0 : Int), (0 : Int))).2.1) = x1)) = true then
            if ((x11.getD x13.toNat ((0 : Int), (0 : Int), (0 : Int))).1) < 0 then none else (impl_steps.l0 n K k x1 x2 (bitOr .i64 (bitOr .i64 x7 (shL .i64 1 ((x11.getD x13.toNat ((0 : Int), (0 : Int), (0 : Int))).2.1))) (shL .i64 1 ((x11.getD x13.toNat ((0 : Int), (0 : Int), (0 : Int))).1))) x11 x12 (IntKind.wrap .i64 (x13 + (1 : Int))))
          else
            impl_steps.l0 n K k x1 x2 (bitOr .i64 x7 (shL .i64 1 ((x11.getD x13.toNat ((0 : Int), (0 : Int), (0 : Int))).2.1))) x11 x12 (IntKind.wrap .i64 (x13 + (1 : Int))))
        else
          if (decide (((x11.getD x13.toNat ((0 : Int), (0 : Int), (0 : Int))).2.1) = x1)) = true then
            if ((x11.getD x13.toNat ((0 : Int), (0 : Int), (0 : Int))).1) < 0 then none else (impl_steps.l0 n K k x1 x2 (bitOr .i64 x7 (shL .i64 1 ((x11.getD x13.toNat ((0 : Int), (0 : Int), (0 : Int))).1))) x11 x12 (IntKind.wrap .i64 (x13 + (1 : Int))))
          else
            impl_steps.l0 n K k x1 x2 x7 x11 x12 (IntKind.wrap .i64 (x13 + (1 : Int)))) else none
    else
      K x7
def impl_steps.F (n : Nat) (x0_0 : Int) (x0_1 : List (Int × Int × Int)) (x0_2 : List (Int)) (x1 : Int) (x2 : Int) : Option (Int) :=
  impl_steps.l0 n (fun y2 =>
    some y2) n x1 x2 (0 : Int) x0_1 (x0_1.length : Int) (0 : Int)

/-- loop.example/g01158/impl.members -/
def impl_members.l0 (n : Nat) (K : (List (Int)) → Option ((List (Int)))) : Nat → Int → (List (Int)) → Int → Option ((List (Int)))
  | 0, _, _, _ => none
  | k + 1, x0, x3, x4 =>
    if x4 < 0 then none else (if (decide ((shR .i64 x0 x4) > (0 : Int))) = true then
      if x4 < 0 then none else (if (decide ((bitAnd .i64 (shR .i64 x0 x4) 1) = (1 : Int))) = true then
        if x3.length + ([x4] : List (Int)).length ≤ 4398046511104 then (impl_members.l0 n K k x0 (x3 ++ ([x4] : List (Int))) (IntKind.wrap .i64 (x4 + (1 : Int)))) else none
      else
        impl_members.l0 n K k x0 x3 (IntKind.wrap .i64 (x4 + (1 : Int))))
    else
      K x3)
def impl_members.F (n : Nat) (x0 : Int) : Option ((List (Int))) :=
  impl_members.l0 n (fun y1 =>
    some y1) n x0 ([] : List (Int)) (0 : Int)

/-- loop.example/g01158/impl.better -/
def impl_better.F (n : Nat) (x0 : Int) (x1 : Int) : Option (Bool) :=
  if (decide (x0 ≥ (0 : Int))) = true then
    if (decide (x1 < (0 : Int))) = true then
      some true
    else
      some (decide (x0 < x1))
  else
    some false

/-- loop.example/g01158/impl.remain -/
def impl_remain.l2 (n : Nat) (K : Int → (List (Int × Int × Int)) → (List (Int)) → (List Int) → (List Int) → Int → Option ((List Int))) : Nat → Int → (List (Int × Int × Int)) → (List (Int)) → (List Int) → (List Int) → Int → Int → Int → Option ((List Int))
  | 0, _, _, _, _, _, _, _, _ => none
  | k + 1, x1_0, x1_1, x1_2, x2, x3, x4, x14, x17 =>
    if (decide (x17 < (64 : Int))) = true then
      if 0 ≤ x4 ∧ x4 < (12 : Int) ∧ (0 + (x4.toNat * 64)) < 768 then (if 0 ≤ x17 ∧ x17 < (64 : Int) ∧ ((0 + (x4.toNat * 64)) + (x17.toNat * 1)) < 768 then (impl_remain.l2 n K k x1_0 x1_1 x1_2 x2 (x3.set ((0 + (x4.toNat * 64)) + (x17.toNat * 1)) (-1)) x4 x14 (IntKind.wrap .i64 (x17 + (1 : Int)))) else none) else none
    else
      K x1_0 x1_1 x1_2 x2 x3 x14
def impl_remain.l0 (n : Nat) (K : Int → (List (Int × Int × Int)) → (List (Int)) → (List Int) → (List Int) → Option ((List Int))) : Nat → Int → (List (Int × Int × Int)) → (List (Int)) → (List Int) → (List Int) → Int → Option ((List Int))
  | 0, _, _, _, _, _, _ => none
  | k + 1, x1_0, x1_1, x1_2, x2, x3, x14 =>
    if (decide (x14 < (12 : Int))) = true then
      impl_remain.l2 n (fun y1 y2 y3 y4 y5 y6 =>
        impl_remain.l0 n K k y1 y2 y3 y4 y5 (IntKind.wrap .i64 (y6 + (1 : Int)))) n x1_0 x1_1 x1_2 x2 x3 x14 x14 (0 : Int)
    else
      K x1_0 x1_1 x1_2 x2 x3
def impl_remain.l13 (n : Nat) (K : Int → (List (Int × Int × Int)) → (List (Int)) → (List Int) → (List Int) → Bool → Int → Int → Int → Int → Option ((List Int))) : Nat → Int → (List (Int × Int × Int)) → (List (Int)) → (List Int) → (List Int) → Bool → Int → Int → Int → Int → Int → (List (Int)) → Int → Int → Option ((List Int))
  | 0, _, _, _, _, _, _, _, _, _, _, _, _, _, _ => none
  | k + 1, x1_0, x1_1, x1_2, x2, x3, x7, x8, x9, x48, x49, x52, x59, x60, x61 =>
    if (decide (x61 < x60)) = true then
      if 0 ≤ x61 ∧ x61 < (x59.length : Int) then (if 0 ≤ (x59.getD x61.toNat (0 : Int)) ∧ (x59.getD x61.toNat (0 : Int)) < (x1_2.length : Int) then (if 0 ≤ (x59.getD x61.toNat (0 : Int)) ∧ (x59.getD x61.toNat (0 : Int)) < (12 : Int) ∧ (0 + (((x59.getD x61.toNat (0 : Int)).toNat) * 64)) < 768 then (if 0 ≤ (bitOr .i64 x9 (x1_2.getD ((x59.getD x61.toNat (0 : Int)).toNat) (0 : Int))) ∧ (bitOr .i64 x9 (x1_2.getD ((x59.getD x61.toNat (0 : Int)).toNat) (0 : Int))) < (64 : Int) ∧ ((0 + (((x59.getD x61.toNat (0 : Int)).toNat) * 64)) + (((bitOr .i64 x9 (x1_2.getD ((x59.getD x61.toNat (0 : Int)).toNat) (0 : Int))).toNat) * 1)) < 768 then (if (decide ((x3.getD ((0 + (((x59.getD x61.toNat (0 : Int)).toNat) * 64)) + (((bitOr .i64 x9 (x1_2.getD ((x59.getD x61.toNat (0 : Int)).toNat) (0 : Int))).toNat) * 1)) 0) ≥ (0 : Int))) = true then
        if 0 ≤ x8 ∧ x8 < (12 : Int) ∧ (0 + (x8.toNat * 64)) < 768 then (if 0 ≤ x9 ∧ x9 < (64 : Int) ∧ ((0 + (x8.toNat * 64)) + (x9.toNat * 1)) < 768 then ((impl_better.F n (IntKind.wrap .i64 ((x3.getD ((0 + (((x59.getD x61.toNat (0 : Int)).toNat) * 64)) + (((bitOr .i64 x9 (x1_2.getD ((x59.getD x61.toNat (0 : Int)).toNat) (0 : Int))).toNat) * 1)) 0) + (1 : Int))) (x3.getD ((0 + (x8.toNat * 64)) + (x9.toNat * 1)) 0)).bind fun r24 =>
        if r24 = true then
          if 0 ≤ x8 ∧ x8 < (12 : Int) ∧ (0 + (x8.toNat * 64)) < 768 then (if 0 ≤ x9 ∧ x9 < (64 : Int) ∧ ((0 + (x8.toNat * 64)) + (x9.toNat * 1)) < 768 then (impl_remain.l13 n K k x1_0 x1_1 x1_2 x2 (x3.set ((0 + (x8.toNat * 64)) + (x9.toNat * 1)) (IntKind.wrap .i64 ((x3.getD ((0 + (((x59.getD x61.toNat (0 : Int)).toNat) * 64)) + (((bitOr .i64 x9 (x1_2.getD ((x59.getD x61.toNat (0 : Int)).toNat) (0 : Int))).toNat) * 1)) 0) + (1 : Int)))) true x8 x9 x48 x49 x52 x59 x60 (IntKind.wrap .i64 (x61 + (1 : Int)))) else none) else none
        else
          impl_remain.l13 n K k x1_0 x1_1 x1_2 x2 x3 x7 x8 x9 x48 x49 x52 x59 x60 (IntKind.wrap .i64 (x61 + (1 : Int)))) else none) else none
      else
        impl_remain.l13 n K k x1_0 x1_1 x1_2 x2 x3 x7 x8 x9 x48 x49 x52 x59 x60 (IntKind.wrap .i64 (x61 + (1 : Int)))) else none) else none) else none) else none
    else
      K x1_0 x1_1 x1_2 x2 x3 x7 x8 x48 x49 x52
def impl_remain.l11 (n : Nat) (K : Int → (List (Int × Int × Int)) → (List (Int)) → (List Int) → (List Int) → Bool → Int → Int → Option ((List Int))) : Nat → Int → (List (Int × Int × Int)) → (List (Int)) → (List Int) → (List Int) → Bool → Int → Int → Int → Int → Option ((List Int))
  | 0, _, _, _, _, _, _, _, _, _, _ => none
  | k + 1, x1_0, x1_1, x1_2, x2, x3, x7, x8, x48, x49, x52 =>
    if (decide (x52 < (64 : Int))) = true then
      (impl_steps.F n x1_0 x1_1 x1_2 x8 x52).bind fun r22 =>
      (impl_members.F n r22).bind fun r23 =>
      impl_remain.l13 n (fun y25 y26 y27 y28 y29 y30 y31 y32 y33 y34 =>
        impl_remain.l11 n K k y25 y26 y27 y28 y29 y30 y31 y32 y33 (IntKind.wrap .i64 (y34 + (1 : Int)))) n x1_0 x1_1 x1_2 x2 x3 x7 x8 x52 x48 x49 x52 r23 (r23.length : Int) (0 : Int)
    else
      K x1_0 x1_1 x1_2 x2 x3 x7 x48 x49
def impl_remain.l9 (n : Nat) (K : Int → (List (Int × Int × Int)) → (List (Int)) → (List Int) → (List Int) → Bool → Option ((List Int))) : Nat → Int → (List (Int × Int × Int)) → (List (Int)) → (List Int) → (List Int) → Bool → Int → Int → Option ((List Int))
  | 0, _, _, _, _, _, _, _, _ => none
  | k + 1, x1_0, x1_1, x1_2, x2, x3, x7, x48, x49 =>
    if (decide (x49 < x48)) = true then
      impl_remain.l11 n (fun y35 y36 y37 y38 y39 y40 y41 y42 =>
        impl_remain.l9 n K k y35 y36 y37 y38 y39 y40 y41 (IntKind.wrap .i64 (y42 + (1 : Int)))) n x1_0 x1_1 x1_2 x2 x3 x7 x49 x48 x49 (0 : Int)
    else
      K x1_0 x1_1 x1_2 x2 x3 x7
def impl_remain.l7 (n : Nat) (K : (List Int) → (List Int) → Option ((List Int))) : Nat → Int → (List (Int × Int × Int)) → (List (Int)) → (List Int) → (List Int) → Bool → Option ((List Int))
  | 0, _, _, _, _, _, _ => none
  | k + 1, x1_0, x1_1, x1_2, x2, x3, x7 =>
    if x7 = true then
      impl_remain.l9 n (fun y43 y44 y45 y46 y47 y48 =>
        impl_remain.l7 n K k y43 y44 y45 y46 y47 y48) n x1_0 x1_1 x1_2 x2 x3 false x1_0 (0 : Int)
    else
      K x2 x3
def impl_remain.l5 (n : Nat) (K : Int → (List (Int × Int × Int)) → (List (Int)) → (List Int) → (List Int) → Option ((List Int))) : Nat → Int → (List (Int × Int × Int)) → (List (Int)) → (List Int) → (List Int) → Int → Option ((List Int))
  | 0, _, _, _, _, _, _ => none
  | k + 1, x1_0, x1_1, x1_2, x2, x3, x36 =>
    if (decide (x36 < (64 : Int))) = true then
      if 0 ≤ (IntKind.wrap .i64 (x1_0 - (1 : Int))) ∧ (IntKind.wrap .i64 (x1_0 - (1 : Int))) < (12 : Int) ∧ (0 + (((IntKind.wrap .i64 (x1_0 - (1 : Int))).toNat) * 64)) < 768 then (if 0 ≤ x36 ∧ x36 < (64 : Int) ∧ ((0 + (((IntKind.wrap .i64 (x1_0 - (1 : Int))).toNat) * 64)) + (x36.toNat * 1)) < 768 then (impl_remain.l5 n K k x1_0 x1_1 x1_2 x2 (x3.set ((0 + (((IntKind.wrap .i64 (x1_0 - (1 : Int))).toNat) * 64)) + (x36.toNat * 1)) 0) (IntKind.wrap .i64 (x36 + (1 : Int)))) else none) else none
    else
      K x1_0 x1_1 x1_2 x2 x3
def impl_remain.l4 (n : Nat) (K : Int → (List (Int × Int × Int)) → (List (Int)) → (List Int) → (List Int) → Option ((List Int))) : Nat → Int → (List (Int × Int × Int)) → (List (Int)) → (List Int) → (List Int) → Int → Int → Option ((List Int))
  | 0, _, _, _, _, _, _, _ => none
  | k + 1, x1_0, x1_1, x1_2, x2, x3, x30, x31 =>
    if (decide (x31 < (64 : Int))) = true then
      if 0 ≤ x30 ∧ x30 < (12 : Int) ∧ (0 + (x30.toNat * 64)) < 768 then (if 0 ≤ x31 ∧ x31 < (64 : Int) ∧ ((0 + (x30.toNat * 64)) + (x31.toNat * 1)) < 768 then (impl_remain.l4 n K k x1_0 x1_1 x1_2 x2 (x3.set ((0 + (x30.toNat * 64)) + (x31.toNat * 1)) 0) x30 (IntKind.wrap .i64 (x31 + (1 : Int)))) else none) else none
    else
      K x1_0 x1_1 x1_2 x2 x3
def impl_remain.F (n : Nat) (x0_0 : Int) (x0_1 : List (Int × Int × Int)) (x0_2 : List (Int)) : Option ((List Int)) :=
  impl_remain.l0 n (fun y7 y8 y9 y10 y11 =>
    let j23 : (Int) → (List (Int × Int × Int)) → (List (Int)) → (List Int) → (List Int) → Option ((List Int)) := fun j23_x1_0 j23_x1_1 j23_x1_2 j23_x2 j23_x3 =>
      impl_remain.l7 n (fun y49 y50 =>
        some y50) n j23_x1_0 j23_x1_1 j23_x1_2 j23_x2 j23_x3 true
    coin (
      impl_remain.l5 n (fun y12 y13 y14 y15 y16 =>
        j23 y12 y13 y14 y15 y16) n y7 y8 y9 y10 y11 (0 : Int))
      (impl_remain.l4 n (fun y17 y18 y19 y20 y21 =>
        j23 y17 y18 y19 y20 y21) n y7 y8 y9 y10 y11 (IntKind.wrap .i64 (y7 - (1 : Int))) (0 : Int))) n x0_0 x0_1 x0_2 (List.replicate 768 (0 : Int)) (List.replicate 768 (0 : Int)) (0 : Int)

/-- loop.example/g01158/impl.RemainTable -/
def impl_RemainTable.l2 (n : Nat) (K : Int → (List (Int × Int × Int)) → (List (Int)) → (List Int) → (List (List Int)) → (List (Int)) → Int → Int → Option ((List (List Int)) × Bool)) : Nat → Int → (List (Int × Int × Int)) → (List (Int)) → (List Int) → (List (List Int)) → Int → (List (Int)) → Int → Int → Int → Option ((List (List Int)) × Bool)
  | 0, _, _, _, _, _, _, _, _, _, _ => none
  | k + 1, x1_0, x1_1, x1_2, x4, x5, x6, x7, x16, x17, x21 =>
    if (decide (x21 < (64 : Int))) = true then
      if 0 ≤ x6 ∧ x6 < (x1_2.length : Int) then (if 0 ≤ x6 ∧ x6 < (12 : Int) ∧ (0 + (x6.toNat * 64)) < 768 then (if 0 ≤ (bitOr .i64 x21 (x1_2.getD x6.toNat (0 : Int))) ∧ (bitOr .i64 x21 (x1_2.getD x6.toNat (0 : Int))) < (64 : Int) ∧ ((0 + (x6.toNat * 64)) + (((bitOr .i64 x21 (x1_2.getD x6.toNat (0 : Int))).toNat) * 1)) < 768 then (if x7.length + ([x4.getD ((0 + (x6.toNat * 64)) + (((bitOr .i64 x21 (x1_2.getD x6.toNat (0 : Int))).toNat) * 1)) 0] : List (Int)).length ≤ 4398046511104 then (impl_RemainTable.l2 n K k x1_0 x1_1 x1_2 x4 x5 x6 (x7 ++ ([x4.getD ((0 + (x6.toNat * 64)) + (((bitOr .i64 x21 (x1_2.getD x6.toNat (0 : Int))).toNat) * 1)) 0] : List (Int))) x16 x17 (IntKind.wrap .i64 (x21 + (1 : Int)))) else none) else none) else none) else none
    else
      K x1_0 x1_1 x1_2 x4 x5 x7 x16 x17
def impl_RemainTable.l0 (n : Nat) (K : (List (List Int)) → Option ((List (List Int)) × Bool)) : Nat → Int → (List (Int × Int × Int)) → (List (Int)) → (List Int) → (List (List Int)) → Int → Int → Option ((List (List Int)) × Bool)
  | 0, _, _, _, _, _, _, _ => none
  | k + 1, x1_0, x1_1, x1_2, x4, x5, x16, x17 =>
    if (decide (x17 < x16)) = true then
      impl_RemainTable.l2 n (fun y3 y4 y5 y6 y7 y8 y9 y10 =>
        if y7.length + 1 ≤ 1048576 then (impl_RemainTable.l0 n K k y3 y4 y5 y6 (y7 ++ [y8]) y9 (IntKind.wrap .i64 (y10 + (1 : Int)))) else none) n x1_0 x1_1 x1_2 x4 x5 x17 ([] : List (Int)) x16 x17 (0 : Int)
    else
      K x5
def impl_RemainTable.F (n : Nat) (x0_0 : Int) (x0_1 : List (Int × Int × Int)) (x0_2 : List (Int)) : Option ((List (List Int)) × Bool) :=
  (impl_IsMaze.F n x0_0 x0_1 x0_2).bind fun r1 =>
  if (!r1) = true then
    some (([] : List (List Int)), false)
  else
    (impl_remain.F n x0_0 x0_1 x0_2).bind fun r2 =>
    impl_RemainTable.l0 n (fun y11 =>
      some (y11, true)) n x0_0 x0_1 x0_2 r2 ([] : List (List Int)) x0_0 (0 : Int)

/-- loop.example/g01158/laws.eqIntS -/
def laws_eqIntS.l0 (n : Nat) (K : Unit → Option (Bool)) : Nat → (List (Int)) → (List (Int)) → Int → Option (Bool)
  | 0, _, _, _ => none
  | k + 1, x0, x1, x5 =>
    if (decide (x5 < (x0.length : Int))) = true then
      if 0 ≤ x5 ∧ x5 < (x0.length : Int) then (if 0 ≤ x5 ∧ x5 < (x1.length : Int) then (if (!decide ((x0.getD x5.toNat (0 : Int)) = (x1.getD x5.toNat (0 : Int)))) = true then
        some false
      else
        laws_eqIntS.l0 n K k x0 x1 (IntKind.wrap .i64 (x5 + (1 : Int)))) else none) else none
    else
      K ()
def laws_eqIntS.F (n : Nat) (x0 : List (Int)) (x1 : List (Int)) : Option (Bool) :=
  if (!decide ((x0.length : Int) = (x1.length : Int))) = true then
    some false
  else
    laws_eqIntS.l0 n (fun _ =>
      some true) n x0 x1 (0 : Int)

/-- loop.example/g01158/laws.eqIntSS -/
def laws_eqIntSS.l0 (n : Nat) (K : Unit → Option (Bool)) : Nat → (List (List Int)) → (List (List Int)) → Int → Option (Bool)
  | 0, _, _, _ => none
  | k + 1, x0, x1, x5 =>
    if (decide (x5 < (x0.length : Int))) = true then
      if 0 ≤ x5 ∧ x5 < (x0.length : Int) then (if x5.toNat < x0.length then (if 0 ≤ x5 ∧ x5 < (x1.length : Int) then (if x5.toNat < x1.length then ((laws_eqIntS.F n (x0.getD x5.toNat []) (x1.getD x5.toNat [])).bind fun r1 =>
      if (!r1) = true then
        some false
      else
        laws_eqIntSS.l0 n K k x0 x1 (IntKind.wrap .i64 (x5 + (1 : Int)))) else none) else none) else none) else none
    else
      K ()
def laws_eqIntSS.F (n : Nat) (x0 : List (List Int)) (x1 : List (List Int)) : Option (Bool) :=
  if (!decide ((x0.length : Int) = (x1.length : Int))) = true then
    some false
  else
    laws_eqIntSS.l0 n (fun _ =>
      some true) n x0 x1 (0 : Int)

/-- loop.example/g01158/laws.eqIntA3 -/
def laws_eqIntA3.F (n : Nat) (x0_0 : Int) (x0_1 : Int) (x0_2 : Int) (x1_0 : Int) (x1_1 : Int) (x1_2 : Int) : Option (Bool) :=
  if (!decide (x0_0 = x1_0)) = true then
    some false
  else
    if (!decide (x0_1 = x1_1)) = true then
      some false
    else
      if (!decide (x0_2 = x1_2)) = true then
        some false
      else
        some true

/-- loop.example/g01158/laws.eqIntA3S -/
def laws_eqIntA3S.l0 (n : Nat) (K : Unit → Option (Bool)) : Nat → (List (Int × Int × Int)) → (List (Int × Int × Int)) → Int → Option (Bool)
  | 0, _, _, _ => none
  | k + 1, x0, x1, x5 =>
    if (decide (x5 < (x0.length : Int))) = true then
      if 0 ≤ x5 ∧ x5 < (x0.length : Int) then (if 0 ≤ x5 ∧ x5 < (x1.length : Int) then ((laws_eqIntA3.F n ((x0.getD x5.toNat ((0 : Int), (0 : Int), (0 : Int))).1) ((x0.getD x5.toNat ((0 : Int), (0 : Int), (0 : Int))).2.1) ((x0.getD x5.toNat ((0 : Int), (0 : Int), (0 : Int))).2.2) ((x1.getD x5.toNat ((0 : Int), (0 : Int), (0 : Int))).1) ((x1.getD x5.toNat ((0 : Int), (0 : Int), (0 : Int))).2.1) ((x1.getD x5.toNat ((0 : Int), (0 : Int), (0 : Int))).2.2)).bind fun r1 =>
      if (!r1) = true then
        some false
      else
        laws_eqIntA3S.l0 n K k x0 x1 (IntKind.wrap .i64 (x5 + (1 : Int)))) else none) else none
    else
      K ()
def laws_eqIntA3S.F (n : Nat) (x0 : List (Int × Int × Int)) (x1 : List (Int × Int × Int)) : Option (Bool) :=
  if (!decide ((x0.length : Int) = (x1.length : Int))) = true then
    some false
  else
    laws_eqIntA3S.l0 n (fun _ =>
      some true) n x0 x1 (0 : Int)

/-- loop.example/g01158/laws.eqMaze -/
def laws_eqMaze.F (n : Nat) (x0_0 : Int) (x0_1 : List (Int × Int × Int)) (x0_2 : List (Int)) (x1_0 : Int) (x1_1 : List (Int × Int × Int)) (x1_2 : List (Int)) : Option (Bool) :=
  if (!decide (x0_0 = x1_0)) = true then
    some false
  else
    (laws_eqIntA3S.F n x0_1 x1_1).bind fun r1 =>
    if (!r1) = true then
      some false
    else
      (laws_eqIntS.F n x0_2 x1_2).bind fun r2 =>
      if (!r2) = true then
        some false
      else
        some true

/-- loop.example/g01158/laws.markIntA3S -/
def laws_markIntA3S.l0 (n : Nat) (K : (List (Int × Int × Int)) → Int → Option (Int × (List (Int × Int × Int)))) : Nat → (List (Int × Int × Int)) → Int → Int → Option (Int × (List (Int × Int × Int)))
  | 0, _, _, _ => none
  | k + 1, x0, x1, x5 =>
    if (decide (x5 < (x0.length : Int))) = true then
      if 0 ≤ x5 ∧ x5 < (x0.length : Int) then (if 0 ≤ x5 ∧ x5 < ((x0.set x5.toNat (x1, (x0.getD x5.toNat ((0 : Int), (0 : Int), (0 : Int))).2.1, (x0.getD x5.toNat ((0 : Int), (0 : Int), (0 : Int))).2.2)).length : Int) then (if 0 ≤ x5 ∧ x5 < (((x0.set x5.toNat (x1, (x0.getD x5.toNat ((0 : Int), (0 : Int), (0 : Int))).2.1, (x0.getD x5.toNat ((0 : Int), (0 : Int), (0 : Int))).2.2)).set x5.toNat (((x0.set x5.toNat (x1, (x0.getD x5.toNat ((0 : Int), (0 : Int), (0 : Int))).2.1, (x0.getD x5.toNat ((0 : Int), (0 : Int), (0 : Int))).2.2)).getD x5.toNat ((0 : Int), (0 : Int), (0 : Int))).1, IntKind.wrap .i64 (x1 + (1 : Int)), ((x0.set x5.toNat (x1, (x0.getD x5.toNat ((0 : Int), (0 : Int), (0 : Int))).2.1, (x0.getD x5.toNat ((0 : Int), (0 : Int), (0 : Int))).2.2)).getD x5.toNat ((0 : Int), (0 : Int), (0 : Int))).2.2)).length : Int) then (laws_markIntA3S.l0 n K k (((x0.set x5.toNat (x1, (x0.getD x5.toNat ((0 : Int), (0 : Int), (0 : Int))).2.1, (x0.getD x5.toNat ((0 : Int), (0 : Int), (0 : Int))).2.2)).set x5.toNat (((x0.set x5.toNat (x1, (x0.getD x5.toNat ((0 : Int), (0 : Int), (0 : Int))).2.1, (x0.getD x5.toNat ((0 : Int), (0 : Int), (0 : Int))).2.2)).getD x5.toNat ((0 : Int), (0 : Int), (0 : Int))).1, IntKind.wrap .i64 (x1 + (1 : Int)), ((x0.set x5.toNat (x1, (x0.getD x5.toNat ((0 : Int), (0 : Int), (0 : Int))).2.1, (x0.getD x5.toNat ((0 : Int), (0 : Int), (0 : Int))).2.2)).getD x5.toNat ((0 : Int), (0 : Int), (0 : Int))).2.2)).set x5.toNat ((((x0.set x5.toNat (x1, (x0.getD x5.toNat ((0 : Int), (0 : Int), (0 : Int))).2.1, (x0.getD x5.toNat ((0 : Int), (0 : Int), (0 : Int))).2.2)).set x5.toNat (((x0.set x5.toNat (x1, (x0.getD x5.toNat ((0 : Int), (0 : Int), (0 : Int))).2.1, (x0.getD x5.toNat ((0 : Int), (0 : Int), (0 : Int))).2.2)).getD x5.toNat ((0 : Int), (0 : Int), (0 : Int))).1, IntKind.wrap .i64 (x1 + (1 : Int)), ((x0.set x5.toNat (x1, (x0.getD x5.toNat ((0 : Int), (0 : Int), (0 : Int))).2.1, (x0.getD x5.toNat ((0 : Int), (0 : Int), (0 : Int))).2.2)).getD x5.toNat ((0 : Int), (0 : Int), (0 : Int))).2.2)).getD x5.toNat ((0 : Int), (0 : Int), (0 : Int))).1, (((x0.set x5.toNat (x1, (x0.getD x5.toNat ((0 : Int), (0 : Int), (0 : Int))).2.1, (x0.getD x5.toNat ((0 : Int), (0 : Int), (0 : Int))).2.2)).set x5.toNat (((x0.set x5.toNat (x1, (x0.getD x5.toNat ((0 : Int), (0 : Int), (0 : Int))).2.1, (x0.getD x5.toNat ((0 : Int), (0 : Int), (0 : Int))).2.2)).getD x5.toNat ((0 : Int), (0 : Int), (0 : Int))).1, IntKind.wrap .i64 (x1 + (1 : Int)), ((x0.set x5.toNat (x1, (x0.getD x5.toNat ((0 : Int), (0 : Int), (0 : Int))).2.1, (x0.getD x5.toNat ((0 : Int), (0 : Int), (0 : Int))).2.2)).getD x5.toNat ((0 : Int), (0 : Int), (0 : Int))).2.2)).getD x5.toNat ((0 : Int), (0 : Int), (0 : Int))).2.1, IntKind.wrap .i64 ((IntKind.wrap .i64 (x1 + (1 : Int))) + (1 : Int)))) (IntKind.wrap .i64 ((IntKind.wrap .i64 ((IntKind.wrap .i64 (x1 + (1 : Int))) + (1 : Int))) + (1 : Int))) (IntKind.wrap .i64 (x5 + (1 : Int)))) else none) else none) else none
    else
      K x0 x1
def laws_markIntA3S.F (n : Nat) (x0 : List (Int × Int × Int)) (x1 : Int) : Option (Int × (List (Int × Int × Int))) :=
  laws_markIntA3S.l0 n (fun y1 y2 =>
    some (y2, y1)) n x0 x1 (0 : Int)

/-- loop.example/g01158/laws.markIntS -/
def laws_markIntS.l0 (n : Nat) (K : (List (Int)) → Int → Option (Int × (List (Int)))) : Nat → (List (Int)) → Int → Int → Option (Int × (List (Int)))
  | 0, _, _, _ => none
  | k + 1, x0, x1, x5 =>
    if (decide (x5 < (x0.length : Int))) = true then
      if 0 ≤ x5 ∧ x5 < (x0.length : Int) then (laws_markIntS.l0 n K k (x0.set x5.toNat x1) (IntKind.wrap .i64 (x1 + (1 : Int))) (IntKind.wrap .i64 (x5 + (1 : Int)))) else none
    else
      K x0 x1
def laws_markIntS.F (n : Nat) (x0 : List (Int)) (x1 : Int) : Option (Int × (List (Int))) :=
  laws_markIntS.l0 n (fun y1 y2 =>
    some (y2, y1)) n x0 x1 (0 : Int)

/-- loop.example/g01158/laws.markMaze -/
def laws_markMaze.F (n : Nat) (x0_0 : Int) (x0_1 : List (Int × Int × Int)) (x0_2 : List (Int)) (x1 : Int) : Option (Int × Int × (List (Int × Int × Int)) × (List (Int))) :=
  (laws_markIntA3S.F n x0_1 x1).bind fun r1 =>
  (laws_markIntS.F n x0_2 r1.1).bind fun r2 =>
  some (r2.1, x0_0, r1.2, r2.2)

/-- loop.example/g01158/laws.markIntSS -/
def laws_markIntSS.F (n : Nat) (x0 : List (List Int)) (x1 : Int) : Option (Int × (List (List Int))) :=
  if x0.length ≤ 1048576 then markT (laws_markIntS.F n) x0 x1 else none

/-- loop.example/g01158/laws.heldIntS -/
def laws_heldIntS.l0 (n : Nat) (K : Int → Option (Int)) : Nat → (List (Int)) → Int → Int → Option (Int)
  | 0, _, _, _ => none
  | k + 1, x0, x1, x5 =>
    if (decide (x5 < (x0.length : Int))) = true then
      if 0 ≤ x5 ∧ x5 < (x0.length : Int) then (if (!decide ((x0.getD x5.toNat (0 : Int)) = x1)) = true then
        some (-1 : Int)
      else
        laws_heldIntS.l0 n K k x0 (IntKind.wrap .i64 (x1 + (1 : Int))) (IntKind.wrap .i64 (x5 + (1 : Int)))) else none
    else
      K x1
def laws_heldIntS.F (n : Nat) (x0 : List (Int)) (x1 : Int) : Option (Int) :=
  laws_heldIntS.l0 n (fun y1 =>
    some y1) n x0 x1 (0 : Int)

/-- loop.example/g01158/laws.heldIntSS -/
def laws_heldIntSS.l0 (n : Nat) (K : Int → Option (Int)) : Nat → (List (List Int)) → Int → Int → Option (Int)
  | 0, _, _, _ => none
  | k + 1, x0, x1, x5 =>
    if (decide (x5 < (x0.length : Int))) = true then
      if 0 ≤ x5 ∧ x5 < (x0.length : Int) then (if x5.toNat < x0.length then ((laws_heldIntS.F n (x0.getD x5.toNat []) x1).bind fun r1 =>
      if (decide (r1 < (0 : Int))) = true then
        some (-1 : Int)
      else
        laws_heldIntSS.l0 n K k x0 r1 (IntKind.wrap .i64 (x5 + (1 : Int)))) else none) else none
    else
      K x1
def laws_heldIntSS.F (n : Nat) (x0 : List (List Int)) (x1 : Int) : Option (Int) :=
  laws_heldIntSS.l0 n (fun y2 =>
    some y2) n x0 x1 (0 : Int)

/-- loop.example/g01158/laws.FnExactRemainTable -/
def laws_FnExactRemainTable.F (n : Nat) (x0_0 : Int) (x0_1 : List (Int × Int × Int)) (x0_2 : List (Int)) : Option (Bool) :=
  (laws_szMaze.F n x0_0 x0_1 x0_2 (1048576 : Int)).bind fun r1 =>
  if (decide (r1 < (0 : Int))) = true then
    some true
  else
    (laws_toMaze.F n x0_0 x0_1 x0_2).bind fun r2 =>
    (spec_RemainTable.F n r2.1 r2.2.1 r2.2.2).bind fun r3 =>
    (laws_toMaze.F n x0_0 x0_1 x0_2).bind fun r4 =>
    (impl_RemainTable.F n r4.1 r4.2.1 r4.2.2).bind fun r5 =>
    let j10 : (Int) → (List (Int × Int × Int)) → (List (Int)) → (List (List Int)) → (Bool) → (Int) → (List (Int × Int × Int)) → (List (Int)) → (List (List Int)) → (Bool) → Option (Bool) := fun j10_x1_0 j10_x1_1 j10_x1_2 j10_x4 j10_x5 j10_x6_0 j10_x6_1 j10_x6_2 j10_x7 j10_x8 =>
      (laws_toMaze.F n j10_x1_0 j10_x1_1 j10_x1_2).bind fun r7 =>
      (laws_eqMaze.F n j10_x6_0 j10_x6_1 j10_x6_2 r7.1 r7.2.1 r7.2.2).bind fun r8 =>
      if (!r8) = true then
        some false
      else
        (laws_markMaze.F n j10_x6_0 j10_x6_1 j10_x6_2 (1 : Int)).bind fun r9 =>
        let j16 : (Int) → (List (Int × Int × Int)) → (List (Int)) → (List (List Int)) → (Bool) → (List (List Int)) → Option (Bool) := fun j16_x1_0 j16_x1_1 j16_x1_2 j16_x4 j16_x5 j16_x7 =>
          (laws_markIntSS.F n j16_x7 (1 : Int)).bind fun r11 =>
          (laws_heldIntSS.F n r11.2 (1 : Int)).bind fun r12 =>
          if (decide (r12 < (0 : Int))) = true then
            some false
          else
            if (!decide (r12 = r11.1)) = true then
              some false
            else
              (laws_toMaze.F n j16_x1_0 j16_x1_1 j16_x1_2).bind fun r13 =>
              (impl_RemainTable.F n r13.1 r13.2.1 r13.2.2).bind fun r14 =>
              (laws_eqIntSS.F n r14.1 j16_x4).bind fun r15 =>
              if (!r15) = true then
                some false
              else
                if (!(r14.2 == j16_x5)) = true then
                  some false
                else
                  (laws_heldIntSS.F n r11.2 (1 : Int)).bind fun r16 =>
                  if (decide (r16 < (0 : Int))) = true then
                    some false
                  else
                    if (!decide (r16 = r11.1)) = true then
                      some false
                    else
                      some true
        if (decide (r9.1 < (0 : Int))) = true then
          some false
        else
          (laws_eqIntSS.F n j10_x7 j10_x4).bind fun r10 =>
          if (!r10) = true then
            some false
          else
            if (!(j10_x8 == j10_x5)) = true then
              some false
            else
              j16 j10_x1_0 j10_x1_1 j10_x1_2 j10_x4 j10_x5 j10_x7
    (laws_eqIntSS.F n r5.1 r3.1).bind fun r6 =>
    if (!r6) = true then
      some false
    else
      if (!(r5.2 == r3.2)) = true then
        some false
      else
        j10 x0_0 x0_1 x0_2 r3.1 r3.2 r4.1 r4.2.1 r4.2.2 r5.1 r5.2

end
end Go.Pf
