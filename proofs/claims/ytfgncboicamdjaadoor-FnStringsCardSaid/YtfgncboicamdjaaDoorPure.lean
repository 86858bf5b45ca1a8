/- The pure functions of this seat's Go functions, as a program of mine (mach.py) printed them. -/
import Derived.Test.YtfgncboicamdjaaDoorGwA
import Derived.Test.YtfgncboicamdjaaDoorGwT
set_option linter.unusedVariables false
set_option autoImplicit false
namespace Go.Pf
open Go Go.Fx
noncomputable section

/-- loop.example/g01158/spec.l1Split -/
def spec_l1Split.l0 (n : Nat) (K : ByteArray → (List (ByteArray)) → Int → Option ((List (ByteArray)))) : Nat → ByteArray → Int → (List (ByteArray)) → Int → Int → Option ((List (ByteArray)))
  | 0, _, _, _, _, _ => none
  | k + 1, x0, x1, x5, x6, x7 =>
    if (decide (x7 < (x0.size : Int))) = true then
      if 0 ≤ x7 ∧ x7 < (x0.size : Int) then (if (decide ((bAt x0 x7.toNat) = x1)) = true then
        if 0 ≤ x6 ∧ x6 ≤ x7 ∧ x7 ≤ (x0.size : Int) then (if x5.length + ([x0.extract x6.toNat x7.toNat] : List (ByteArray)).length ≤ 4398046511104 then (spec_l1Split.l0 n K k x0 x1 (x5 ++ ([x0.extract x6.toNat x7.toNat] : List (ByteArray))) (IntKind.wrap .i64 (x7 + (1 : Int))) (IntKind.wrap .i64 (x7 + (1 : Int)))) else none) else none
      else
        spec_l1Split.l0 n K k x0 x1 x5 x6 (IntKind.wrap .i64 (x7 + (1 : Int)))) else none
    else
      K x0 x5 x6
def spec_l1Split.F (n : Nat) (x0 : ByteArray) (x1 : Int) : Option ((List (ByteArray))) :=
  spec_l1Split.l0 n (fun y1 y2 y3 =>
    if 0 ≤ y3 ∧ y3 ≤ (y1.size : Int) then (if y2.length + ([y1.extract y3.toNat y1.size] : List (ByteArray)).length ≤ 4398046511104 then (some (y2 ++ ([y1.extract y3.toNat y1.size] : List (ByteArray)))) else none) else none) n x0 x1 ([] : List (ByteArray)) (0 : Int) (0 : Int)

/-- loop.example/g01158/spec.l1In -/
def spec_l1In.F (n : Nat) (x0 : Int) (x1 : Int) (x2 : Int) : Option (Bool) :=
  if (decide (x0 ≥ x1)) = true then
    some (decide (x0 ≤ x2))
  else
    some false

/-- loop.example/g01158/spec.l1Num -/
def spec_l1Num.F : Nat → Int → Option (ByteArray)
  | 0, _ => none
  | n + 1, x0 =>
    if (decide (x0 < (0 : Int))) = true then
      (spec_l1Num.F n (IntKind.wrap .i64 (-x0))).bind fun r1 =>
      if (⟨#[45]⟩ : ByteArray).size + r1.size ≤ 4398046511104 then (some ((⟨#[45]⟩ : ByteArray) ++ r1)) else none
    else
      if (decide (x0 < (10 : Int))) = true then
        if 0 ≤ x0 ∧ x0 ≤ (IntKind.wrap .i64 (x0 + (1 : Int))) ∧ (IntKind.wrap .i64 (x0 + (1 : Int))) ≤ ((⟨#[48, 49, 50, 51, 52, 53, 54, 55, 56, 57]⟩ : ByteArray).size : Int) then (some ((⟨#[48, 49, 50, 51, 52, 53, 54, 55, 56, 57]⟩ : ByteArray).extract x0.toNat ((IntKind.wrap .i64 (x0 + (1 : Int))).toNat))) else none
      else
        (spec_l1Num.F n (IntKind.wrap .i64 (Int.tdiv x0 10))).bind fun r2 =>
        if 0 ≤ (Int.tmod x0 10) ∧ (Int.tmod x0 10) ≤ (IntKind.wrap .i64 ((Int.tmod x0 10) + (1 : Int))) ∧ (IntKind.wrap .i64 ((Int.tmod x0 10) + (1 : Int))) ≤ ((⟨#[48, 49, 50, 51, 52, 53, 54, 55, 56, 57]⟩ : ByteArray).size : Int) then (if r2.size + ((⟨#[48, 49, 50, 51, 52, 53, 54, 55, 56, 57]⟩ : ByteArray).extract ((Int.tmod x0 10).toNat) ((IntKind.wrap .i64 ((Int.tmod x0 10) + (1 : Int))).toNat)).size ≤ 4398046511104 then (some (r2 ++ ((⟨#[48, 49, 50, 51, 52, 53, 54, 55, 56, 57]⟩ : ByteArray).extract ((Int.tmod x0 10).toNat) ((IntKind.wrap .i64 ((Int.tmod x0 10) + (1 : Int))).toNat)))) else none) else none

/-- loop.example/g01158/spec.l1Read -/
def spec_l1Read.l0 (n : Nat) (K : ByteArray → ByteArray → Int → Option (Int × Bool)) : Nat → ByteArray → ByteArray → Int → Int → Option (Int × Bool)
  | 0, _, _, _, _ => none
  | k + 1, x0, x4, x5, x6 =>
    if (decide (x6 < (x4.size : Int))) = true then
      if 0 ≤ x6 ∧ x6 < (x4.size : Int) then (if (decide ((bAt x4 x6.toNat) < (48 : Int))) = true then
        some ((0 : Int), false)
      else
        if 0 ≤ x6 ∧ x6 < (x4.size : Int) then (if (decide ((bAt x4 x6.toNat) > (57 : Int))) = true then
          some ((0 : Int), false)
        else
          if 0 ≤ x6 ∧ x6 < (x4.size : Int) then (spec_l1Read.l0 n K k x0 x4 (IntKind.wrap .i64 ((IntKind.wrap .i64 ((10 : Int) * x5)) + (IntKind.wrap .i64 (IntKind.wrap .u8 ((bAt x4 x6.toNat) - (48 : Int)))))) (IntKind.wrap .i64 (x6 + (1 : Int)))) else none) else none) else none
    else
      K x0 x4 x5
def spec_l1Read.F (n : Nat) (x0 : ByteArray) : Option (Int × Bool) :=
  let j4 : (ByteArray) → (ByteArray) → Option (Int × Bool) := fun j4_x0 j4_x4 =>
    (spec_l1In.F n (j4_x4.size : Int) (1 : Int) (6 : Int)).bind fun r1 =>
    if (!r1) = true then
      some ((0 : Int), false)
    else
      spec_l1Read.l0 n (fun y2 y3 y4 =>
        if (decide ((y3.size : Int) < (y2.size : Int))) = true then
          (spec_l1Num.F n (IntKind.wrap .i64 (-y4))).bind fun r5 =>
          if (!(r5.toList == y2.toList)) = true then
            some ((0 : Int), false)
          else
            some (IntKind.wrap .i64 (-y4), true)
        else
          (spec_l1Num.F n y4).bind fun r6 =>
          if (!(r6.toList == y2.toList)) = true then
            some ((0 : Int), false)
          else
            some (y4, true)) n j4_x0 j4_x4 (0 : Int) (0 : Int)
  if (decide ((x0.size : Int) > (1 : Int))) = true then
    if 0 ≤ (0 : Int) ∧ (0 : Int) < (x0.size : Int) then (if (decide ((bAt x0 0) = (45 : Int))) = true then
      if 0 ≤ (1 : Int) ∧ (1 : Int) ≤ (x0.size : Int) then (j4 x0 (x0.extract 1 x0.size)) else none
    else
      j4 x0 x0) else none
  else
    j4 x0 x0

/-- loop.example/g01158/spec.l2Numbers -/
def spec_l2Numbers.l0 (n : Nat) (K : (List (Int)) → Option ((List (Int)) × Bool)) : Nat → Int → (List (Int)) → (List (ByteArray)) → Int → Option ((List (Int)) × Bool)
  | 0, _, _, _, _ => none
  | k + 1, x2, x8, x9, x10 =>
    if (decide (x10 < (x9.length : Int))) = true then
      if (decide (x10 ≤ x2)) = true then
        if 0 ≤ x10 ∧ x10 < (x9.length : Int) then ((spec_l1Read.F n (x9.getD x10.toNat ByteArray.empty)).bind fun r2 =>
        if (!r2.2) = true then
          some (([] : List (Int)), false)
        else
          if x8.length + ([r2.1] : List (Int)).length ≤ 4398046511104 then (spec_l2Numbers.l0 n K k x2 (x8 ++ ([r2.1] : List (Int))) x9 (IntKind.wrap .i64 (x10 + (1 : Int)))) else none) else none
      else
        K x8
    else
      K x8
def spec_l2Numbers.F (n : Nat) (x0 : ByteArray) (x1 : Int) (x2 : Int) : Option ((List (Int)) × Bool) :=
  (spec_l1Split.F n x0 x1).bind fun r1 =>
  spec_l2Numbers.l0 n (fun y3 =>
    some (y3, true)) n x2 ([] : List (Int)) r1 (0 : Int)

/-- loop.example/g01158/spec.l2Set -/
def spec_l2Set.F (n : Nat) (x0 : Int) : Option (Bool) :=
  (spec_l1In.F n x0 (0 : Int) (63 : Int)).bind fun r1 =>
  some r1

/-- loop.example/g01158/spec.l2Before -/
def spec_l2Before.F (n : Nat) (x0_0 : Int) (x0_1 : Int) (x0_2 : Int) (x1_0 : Int) (x1_1 : Int) (x1_2 : Int) : Option (Bool) :=
  if (!decide (x0_0 = x1_0)) = true then
    some (decide (x0_0 < x1_0))
  else
    if (!decide (x0_1 = x1_1)) = true then
      some (decide (x0_1 < x1_1))
    else
      if (!decide (x0_2 = x1_2)) = true then
        some (decide (x0_2 < x1_2))
      else
        some false

/-- loop.example/g01158/spec.l2Maze -/
def spec_l2Maze.l0 (n : Nat) (K : Int → (List (Int × Int × Int)) → (List (Int)) → Option (Bool)) : Nat → Int → (List (Int × Int × Int)) → (List (Int)) → Int → Option (Bool)
  | 0, _, _, _, _ => none
  | k + 1, x1_0, x1_1, x1_2, x3 =>
    if (decide (x3 < (x1_1.length : Int))) = true then
      if 0 ≤ x3 ∧ x3 < (x1_1.length : Int) then ((spec_l1In.F n ((x1_1.getD x3.toNat ((0 : Int), (0 : Int), (0 : Int))).1) (0 : Int) (IntKind.wrap .i64 (x1_0 - (1 : Int)))).bind fun r2 =>
      if (!r2) = true then
        some false
      else
        (spec_l1In.F n ((x1_1.getD x3.toNat ((0 : Int), (0 : Int), (0 : Int))).2.1) (IntKind.wrap .i64 (((x1_1.getD x3.toNat ((0 : Int), (0 : Int), (0 : Int))).1) + (1 : Int))) (IntKind.wrap .i64 (x1_0 - (1 : Int)))).bind fun r3 =>
        if (!r3) = true then
          some false
        else
          (spec_l2Set.F n ((x1_1.getD x3.toNat ((0 : Int), (0 : Int), (0 : Int))).2.2)).bind fun r4 =>
          if (!r4) = true then
            some false
          else
            if (decide (x3 > (0 : Int))) = true then
              if 0 ≤ (IntKind.wrap .i64 (x3 - (1 : Int))) ∧ (IntKind.wrap .i64 (x3 - (1 : Int))) < (x1_1.length : Int) then ((spec_l2Before.F n ((x1_1.getD ((IntKind.wrap .i64 (x3 - (1 : Int))).toNat) ((0 : Int), (0 : Int), (0 : Int))).1) ((x1_1.getD ((IntKind.wrap .i64 (x3 - (1 : Int))).toNat) ((0 : Int), (0 : Int), (0 : Int))).2.1) ((x1_1.getD ((IntKind.wrap .i64 (x3 - (1 : Int))).toNat) ((0 : Int), (0 : Int), (0 : Int))).2.2) ((x1_1.getD x3.toNat ((0 : Int), (0 : Int), (0 : Int))).1) ((x1_1.getD x3.toNat ((0 : Int), (0 : Int), (0 : Int))).2.1) ((x1_1.getD x3.toNat ((0 : Int), (0 : Int), (0 : Int))).2.2)).bind fun r5 =>
              if (!r5) = true then
                some false
              else
                spec_l2Maze.l0 n K k x1_0 x1_1 x1_2 (IntKind.wrap .i64 (x3 + (1 : Int)))) else none
            else
              spec_l2Maze.l0 n K k x1_0 x1_1 x1_2 (IntKind.wrap .i64 (x3 + (1 : Int)))) else none
    else
      K x1_0 x1_1 x1_2
def spec_l2Maze.l2 (n : Nat) (K : Unit → Option (Bool)) : Nat → Int → (List (Int × Int × Int)) → (List (Int)) → Int → Option (Bool)
  | 0, _, _, _, _ => none
  | k + 1, x1_0, x1_1, x1_2, x5 =>
    if (decide (x5 < x1_0)) = true then
      if 0 ≤ x5 ∧ x5 < (x1_2.length : Int) then ((spec_l2Set.F n (x1_2.getD x5.toNat (0 : Int))).bind fun r9 =>
      if (!r9) = true then
        some false
      else
        spec_l2Maze.l2 n K k x1_0 x1_1 x1_2 (IntKind.wrap .i64 (x5 + (1 : Int)))) else none
    else
      K ()
def spec_l2Maze.F (n : Nat) (x0_0 : Int) (x0_1 : List (Int × Int × Int)) (x0_2 : List (Int)) : Option (Bool) :=
  let j3 : (Int) → (List (Int × Int × Int)) → (List (Int)) → Option (Bool) := fun j3_x1_0 j3_x1_1 j3_x1_2 =>
    spec_l2Maze.l0 n (fun y6 y7 y8 =>
      spec_l2Maze.l2 n (fun _ =>
        some true) n y6 y7 y8 (0 : Int)) n j3_x1_0 j3_x1_1 j3_x1_2 (0 : Int)
  (spec_l1In.F n x0_0 (1 : Int) (12 : Int)).bind fun r1 =>
  if (!r1) = true then
    some false
  else
    if (decide ((x0_1.length : Int) > (30 : Int))) = true then
      some false
    else
      if (!decide ((x0_2.length : Int) = x0_0)) = true then
        some false
      else
        j3 x0_0 x0_1 x0_2

/-- loop.example/g01158/spec.l2Text -/
def spec_l2Text.l0 (n : Nat) (K : Int → (List (Int × Int × Int)) → (List (Int)) → ByteArray → Option (ByteArray)) : Nat → Int → (List (Int × Int × Int)) → (List (Int)) → ByteArray → Int → Option (ByteArray)
  | 0, _, _, _, _, _ => none
  | k + 1, x1_0, x1_1, x1_2, x3, x4 =>
    if (decide (x4 < x1_0)) = true then
      if (decide (x4 > (0 : Int))) = true then
        if x3.size + (⟨#[44]⟩ : ByteArray).size ≤ 4398046511104 then (if 0 ≤ x4 ∧ x4 < (x1_2.length : Int) then ((spec_l1Num.F n (x1_2.getD x4.toNat (0 : Int))).bind fun r2 =>
        if (x3 ++ (⟨#[44]⟩ : ByteArray)).size + r2.size ≤ 4398046511104 then (spec_l2Text.l0 n K k x1_0 x1_1 x1_2 ((x3 ++ (⟨#[44]⟩ : ByteArray)) ++ r2) (IntKind.wrap .i64 (x4 + (1 : Int)))) else none) else none) else none
      else
        if 0 ≤ x4 ∧ x4 < (x1_2.length : Int) then ((spec_l1Num.F n (x1_2.getD x4.toNat (0 : Int))).bind fun r3 =>
        if x3.size + r3.size ≤ 4398046511104 then (spec_l2Text.l0 n K k x1_0 x1_1 x1_2 (x3 ++ r3) (IntKind.wrap .i64 (x4 + (1 : Int)))) else none) else none
    else
      K x1_0 x1_1 x1_2 x3
def spec_l2Text.l2 (n : Nat) (K : ByteArray → Option (ByteArray)) : Nat → Int → (List (Int × Int × Int)) → (List (Int)) → ByteArray → Int → Option (ByteArray)
  | 0, _, _, _, _, _ => none
  | k + 1, x1_0, x1_1, x1_2, x3, x5 =>
    if (decide (x5 < (x1_1.length : Int))) = true then
      if 0 ≤ x5 ∧ x5 < (x1_1.length : Int) then (if x3.size + (⟨#[32]⟩ : ByteArray).size ≤ 4398046511104 then ((spec_l1Num.F n ((x1_1.getD x5.toNat ((0 : Int), (0 : Int), (0 : Int))).1)).bind fun r8 =>
      if (x3 ++ (⟨#[32]⟩ : ByteArray)).size + r8.size ≤ 4398046511104 then (if ((x3 ++ (⟨#[32]⟩ : ByteArray)) ++ r8).size + (⟨#[45]⟩ : ByteArray).size ≤ 4398046511104 then ((spec_l1Num.F n ((x1_1.getD x5.toNat ((0 : Int), (0 : Int), (0 : Int))).2.1)).bind fun r9 =>
      if (((x3 ++ (⟨#[32]⟩ : ByteArray)) ++ r8) ++ (⟨#[45]⟩ : ByteArray)).size + r9.size ≤ 4398046511104 then (if ((((x3 ++ (⟨#[32]⟩ : ByteArray)) ++ r8) ++ (⟨#[45]⟩ : ByteArray)) ++ r9).size + (⟨#[45]⟩ : ByteArray).size ≤ 4398046511104 then ((spec_l1Num.F n ((x1_1.getD x5.toNat ((0 : Int), (0 : Int), (0 : Int))).2.2)).bind fun r10 =>
      if (((((x3 ++ (⟨#[32]⟩ : ByteArray)) ++ r8) ++ (⟨#[45]⟩ : ByteArray)) ++ r9) ++ (⟨#[45]⟩ : ByteArray)).size + r10.size ≤ 4398046511104 then (spec_l2Text.l2 n K k x1_0 x1_1 x1_2 ((((((x3 ++ (⟨#[32]⟩ : ByteArray)) ++ r8) ++ (⟨#[45]⟩ : ByteArray)) ++ r9) ++ (⟨#[45]⟩ : ByteArray)) ++ r10) (IntKind.wrap .i64 (x5 + (1 : Int)))) else none) else none) else none) else none) else none) else none) else none
    else
      K x3
def spec_l2Text.F (n : Nat) (x0_0 : Int) (x0_1 : List (Int × Int × Int)) (x0_2 : List (Int)) : Option (ByteArray) :=
  (spec_l1Num.F n x0_0).bind fun r1 =>
  if r1.size + (⟨#[32]⟩ : ByteArray).size ≤ 4398046511104 then (spec_l2Text.l0 n (fun y4 y5 y6 y7 =>
    spec_l2Text.l2 n (fun y11 =>
      some y11) n y4 y5 y6 y7 (0 : Int)) n x0_0 x0_1 x0_2 (r1 ++ (⟨#[32]⟩ : ByteArray)) (0 : Int)) else none

/-- loop.example/g01158/spec.ParseMaze -/
def spec_ParseMaze.l0 (n : Nat) (K : ByteArray → Int → (List (Int × Int × Int)) → (List (Int)) → Bool → Bool → Int → (List (Int × Int × Int)) → (List (Int)) → Option (Int × (List (Int × Int × Int)) × (List (Int)) × Bool)) : Nat → ByteArray → Int → (List (Int × Int × Int)) → (List (Int)) → (List (ByteArray)) → Bool → Bool → Int → (List (Int × Int × Int)) → (List (Int)) → Int → Option (Int × (List (Int × Int × Int)) × (List (Int)) × Bool)
  | 0, _, _, _, _, _, _, _, _, _, _, _ => none
  | k + 1, x0, x2_0, x2_1, x2_2, x4, x6, x8, x9_0, x9_1, x9_2, x10 =>
    if (decide (x10 < (x4.length : Int))) = true then
      if x6 = true then
        if x8 = true then
          if 0 ≤ x10 ∧ x10 < (x4.length : Int) then ((spec_l2Numbers.F n (x4.getD x10.toNat ByteArray.empty) (45 : Int) (3 : Int)).bind fun r5 =>
          if (!r5.2) = true then
            some ((0 : Int), ([] : List (Int × Int × Int)), ([] : List (Int)), false)
          else
            if (!decide ((r5.1.length : Int) = (3 : Int))) = true then
              some ((0 : Int), ([] : List (Int × Int × Int)), ([] : List (Int)), false)
            else
              if 0 ≤ (0 : Int) ∧ (0 : Int) < (r5.1.length : Int) then (if 0 ≤ (1 : Int) ∧ (1 : Int) < (r5.1.length : Int) then (if 0 ≤ (2 : Int) ∧ (2 : Int) < (r5.1.length : Int) then (if x9_1.length + ([(r5.1.getD 0 (0 : Int), r5.1.getD 1 (0 : Int), r5.1.getD 2 (0 : Int))] : List (Int × Int × Int)).length ≤ 4398046511104 then (spec_ParseMaze.l0 n K k x0 x2_0 x2_1 x2_2 x4 x6 x8 x9_0 (x9_1 ++ ([(r5.1.getD 0 (0 : Int), r5.1.getD 1 (0 : Int), r5.1.getD 2 (0 : Int))] : List (Int × Int × Int))) x9_2 (IntKind.wrap .i64 (x10 + (1 : Int)))) else none) else none) else none) else none) else none
        else
          K x0 x2_0 x2_1 x2_2 x6 x8 x9_0 x9_1 x9_2
      else
        K x0 x2_0 x2_1 x2_2 x6 x8 x9_0 x9_1 x9_2
    else
      K x0 x2_0 x2_1 x2_2 x6 x8 x9_0 x9_1 x9_2
def spec_ParseMaze.c14 (n : Nat) (x0 : ByteArray) (x2_0 : Int) (x2_1 : List (Int × Int × Int)) (x2_2 : List (Int)) (x6 : Bool) (x8 : Bool) (x9_0 : Int) (x9_1 : List (Int × Int × Int)) (x9_2 : List (Int)) : Option (Int × (List (Int × Int × Int)) × (List (Int)) × Bool) :=
  if (!x6) = true then
    some ((0 : Int), ([] : List (Int × Int × Int)), ([] : List (Int)), false)
  else
    if (!x8) = true then
      some ((0 : Int), ([] : List (Int × Int × Int)), ([] : List (Int)), false)
    else
      (spec_l2Maze.F n x9_0 x9_1 x9_2).bind fun r15 =>
      if (!r15) = true then
        some ((0 : Int), ([] : List (Int × Int × Int)), ([] : List (Int)), false)
      else
        (spec_l2Text.F n x9_0 x9_1 x9_2).bind fun r16 =>
        if (!(r16.toList == x0.toList)) = true then
          some ((0 : Int), ([] : List (Int × Int × Int)), ([] : List (Int)), false)
        else
          some (x9_0, x9_1, x9_2, true)
def spec_ParseMaze.c6 (n : Nat) (x0 : ByteArray) (x2_0 : Int) (x2_1 : List (Int × Int × Int)) (x2_2 : List (Int)) (x4 : List (ByteArray)) (x5 : Int) (x6 : Bool) (x7 : List (Int)) (x8 : Bool) : Option (Int × (List (Int × Int × Int)) × (List (Int)) × Bool) :=
  spec_ParseMaze.l0 n (fun y6 y7 y8 y9 y10 y11 y12 y13 y14 =>
    spec_ParseMaze.c14 n y6 y7 y8 y9 y10 y11 y12 y13 y14) n x0 x2_0 x2_1 x2_2 x4 x6 x8 x5 ([] : List (Int × Int × Int)) x7 (2 : Int)
def spec_ParseMaze.F (n : Nat) (x0 : ByteArray) : Option (Int × (List (Int × Int × Int)) × (List (Int)) × Bool) :=
  (spec_l1Split.F n x0 (32 : Int)).bind fun r1 =>
  (spec_l1In.F n (r1.length : Int) (2 : Int) (32 : Int)).bind fun r2 =>
  if (!r2) = true then
    some ((0 : Int), ([] : List (Int × Int × Int)), ([] : List (Int)), false)
  else
    if 0 ≤ (0 : Int) ∧ (0 : Int) < (r1.length : Int) then ((spec_l1Read.F n (r1.getD 0 ByteArray.empty)).bind fun r3 =>
    if 0 ≤ (1 : Int) ∧ (1 : Int) < (r1.length : Int) then ((spec_l2Numbers.F n (r1.getD 1 ByteArray.empty) (44 : Int) (12 : Int)).bind fun r4 =>
    spec_ParseMaze.c6 n x0 (0 : Int) ([] : List (Int × Int × Int)) ([] : List (Int)) r1 r3.1 r3.2 r4.1 r4.2) else none) else none

/-- loop.example/g01158/impl.numbers -/
def impl_numbers.l0 (n : Nat) (K : (List (Int)) → Option ((List (Int)) × Bool)) : Nat → (List (Int)) → (List (ByteArray)) → Int → Int → Option ((List (Int)) × Bool)
  | 0, _, _, _, _ => none
  | k + 1, x6, x14, x15, x16 =>
    if (decide (x16 < x15)) = true then
      if 0 ≤ x16 ∧ x16 < (x14.length : Int) then ((strParse.F n (x14.getD x16.toNat ByteArray.empty)).bind fun r2 =>
      if (!r2.2) = true then
        some (([] : List (Int)), false)
      else
        if x6.length + ([r2.1] : List (Int)).length ≤ 4398046511104 then (impl_numbers.l0 n K k (x6 ++ ([r2.1] : List (Int))) x14 x15 (IntKind.wrap .i64 (x16 + (1 : Int)))) else none) else none
    else
      K x6
def impl_numbers.F (n : Nat) (x0 : ByteArray) (x1 : ByteArray) : Option ((List (Int)) × Bool) :=
  (strSplit.F n x0 x1).bind fun r1 =>
  impl_numbers.l0 n (fun y3 =>
    some (y3, true)) n ([] : List (Int)) r1 (r1.length : Int) (0 : Int)

/-- loop.example/g01158/impl.within -/
def impl_within.F (n : Nat) (x0 : Int) (x1 : Int) (x2 : Int) : Option (Bool) :=
  if (decide (x1 ≤ x0)) = true then
    some (decide (x0 ≤ x2))
  else
    some false

/-- loop.example/g01158/impl.isSet -/
def impl_isSet.F (n : Nat) (x0 : Int) : Option (Bool) :=
  (impl_within.F n x0 (0 : Int) (63 : Int)).bind fun r1 =>
  some r1

/-- cmp.isNaN[int] -/
def cmp_isNaN_int.F (n : Nat) (x0 : Int) : Option (Bool) :=
  some (!decide (x0 = x0))

/-- cmp.Compare[int] -/
def cmp_Compare_int.F (n : Nat) (x0 : Int) (x1 : Int) : Option (Int) :=
  (cmp_isNaN_int.F n x0).bind fun r1 =>
  (cmp_isNaN_int.F n x1).bind fun r2 =>
  if r1 = true then
    if r2 = true then
      some (0 : Int)
    else
      some (-1 : Int)
  else
    if r2 = true then
      some (1 : Int)
    else
      if (decide (x0 < x1)) = true then
        some (-1 : Int)
      else
        if (decide (x0 > x1)) = true then
          some (1 : Int)
        else
          some (0 : Int)

/-- cmp.Or[int] -/
def cmp_Or_int.l0 (n : Nat) (K : Int → Option (Int)) : Nat → Int → (List (Int)) → Int → Int → Option (Int)
  | 0, _, _, _, _ => none
  | k + 1, x3, x6, x7, x8 =>
    if (decide (x8 < x7)) = true then
      if 0 ≤ x8 ∧ x8 < (x6.length : Int) then (if (!decide ((x6.getD x8.toNat (0 : Int)) = x3)) = true then
        some (x6.getD x8.toNat (0 : Int))
      else
        cmp_Or_int.l0 n K k x3 x6 x7 (IntKind.wrap .i64 (x8 + (1 : Int)))) else none
    else
      K x3
def cmp_Or_int.F (n : Nat) (x0 : List (Int)) : Option (Int) :=
  cmp_Or_int.l0 n (fun y1 =>
    some y1) n (0 : Int) x0 (x0.length : Int) (0 : Int)

/-- loop.example/g01158/impl.compareDoors -/
def impl_compareDoors.F (n : Nat) (x0_0 : Int) (x0_1 : Int) (x0_2 : Int) (x1_0 : Int) (x1_1 : Int) (x1_2 : Int) : Option (Int) :=
  (cmp_Compare_int.F n x0_0 x1_0).bind fun r1 =>
  (cmp_Compare_int.F n x0_1 x1_1).bind fun r2 =>
  (cmp_Compare_int.F n x0_2 x1_2).bind fun r3 =>
  (cmp_Or_int.F n ([r1, r2, r3] : List (Int))).bind fun r4 =>
  some r4

/-- loop.example/g01158/impl.IsMaze$1 -/
def impl_IsMaze_1.F (n : Nat) (x0 : Int) : Option (Bool) :=
  (impl_isSet.F n x0).bind fun r1 =>
  some (!r1)

/-- slices.IndexFunc[[]int,int] -/
def slices_IndexFunc_int_int_cIsMaze_1.l0 (n : Nat) (K : Unit → Option (Int)) : Nat → (List (Int)) → Int → Int → Option (Int)
  | 0, _, _, _ => none
  | k + 1, x0, x7, x8 =>
    if (decide (x8 < x7)) = true then
      if 0 ≤ x8 ∧ x8 < (x0.length : Int) then ((impl_IsMaze_1.F n (x0.getD x8.toNat (0 : Int))).bind fun r1 =>
      if r1 = true then
        some x8
      else
        slices_IndexFunc_int_int_cIsMaze_1.l0 n K k x0 x7 (IntKind.wrap .i64 (x8 + (1 : Int)))) else none
    else
      K ()
def slices_IndexFunc_int_int_cIsMaze_1.F (n : Nat) (x0 : List (Int)) : Option (Int) :=
  slices_IndexFunc_int_int_cIsMaze_1.l0 n (fun _ =>
    some (-1 : Int)) n x0 (x0.length : Int) (0 : Int)

/-- slices.ContainsFunc[[]int,int] -/
def slices_ContainsFunc_int_int_cIsMaze_1.F (n : Nat) (x0 : List (Int)) : Option (Bool) :=
  (slices_IndexFunc_int_int_cIsMaze_1.F n x0).bind fun r1 =>
  some (decide (r1 ≥ (0 : Int)))

/-- loop.example/g01158/impl.IsMaze -/
def impl_IsMaze.l0 (n : Nat) (K : Int → (List (Int × Int × Int)) → (List (Int)) → Option (Bool)) : Nat → Int → (List (Int × Int × Int)) → (List (Int)) → Int → Int → Option (Bool)
  | 0, _, _, _, _, _ => none
  | k + 1, x1_0, x1_1, x1_2, x25, x26 =>
    if (decide (x26 < x25)) = true then
      if 0 ≤ x26 ∧ x26 < (x1_1.length : Int) then (if (decide (((x1_1.getD x26.toNat ((0 : Int), (0 : Int), (0 : Int))).1) < (0 : Int))) = true then
        some false
      else
        if (decide (((x1_1.getD x26.toNat ((0 : Int), (0 : Int), (0 : Int))).1) ≥ ((x1_1.getD x26.toNat ((0 : Int), (0 : Int), (0 : Int))).2.1))) = true then
          some false
        else
          if (decide (((x1_1.getD x26.toNat ((0 : Int), (0 : Int), (0 : Int))).2.1) ≥ x1_0)) = true then
            some false
          else
            (impl_isSet.F n ((x1_1.getD x26.toNat ((0 : Int), (0 : Int), (0 : Int))).2.2)).bind fun r2 =>
            if (!r2) = true then
              some false
            else
              if (decide (x26 > (0 : Int))) = true then
                if 0 ≤ (IntKind.wrap .i64 (x26 - (1 : Int))) ∧ (IntKind.wrap .i64 (x26 - (1 : Int))) < (x1_1.length : Int) then ((impl_compareDoors.F n ((x1_1.getD ((IntKind.wrap .i64 (x26 - (1 : Int))).toNat) ((0 : Int), (0 : Int), (0 : Int))).1) ((x1_1.getD ((IntKind.wrap .i64 (x26 - (1 : Int))).toNat) ((0 : Int), (0 : Int), (0 : Int))).2.1) ((x1_1.getD ((IntKind.wrap .i64 (x26 - (1 : Int))).toNat) ((0 : Int), (0 : Int), (0 : Int))).2.2) ((x1_1.getD x26.toNat ((0 : Int), (0 : Int), (0 : Int))).1) ((x1_1.getD x26.toNat ((0 : Int), (0 : Int), (0 : Int))).2.1) ((x1_1.getD x26.toNat ((0 : Int), (0 : Int), (0 : Int))).2.2)).bind fun r3 =>
                if (decide (r3 ≥ (0 : Int))) = true then
                  some false
                else
                  impl_IsMaze.l0 n K k x1_0 x1_1 x1_2 x25 (IntKind.wrap .i64 (x26 + (1 : Int)))) else none
              else
                impl_IsMaze.l0 n K k x1_0 x1_1 x1_2 x25 (IntKind.wrap .i64 (x26 + (1 : Int)))) else none
    else
      K x1_0 x1_1 x1_2
def impl_IsMaze.F (n : Nat) (x0_0 : Int) (x0_1 : List (Int × Int × Int)) (x0_2 : List (Int)) : Option (Bool) :=
  let j3 : (Int) → (List (Int × Int × Int)) → (List (Int)) → Option (Bool) := fun j3_x1_0 j3_x1_1 j3_x1_2 =>
    impl_IsMaze.l0 n (fun y4 y5 y6 =>
      (slices_ContainsFunc_int_int_cIsMaze_1.F n y6).bind fun r7 =>
      some (!r7)) n j3_x1_0 j3_x1_1 j3_x1_2 (j3_x1_1.length : Int) (0 : Int)
  (impl_within.F n x0_0 (1 : Int) (12 : Int)).bind fun r1 =>
  if (!r1) = true then
    some false
  else
    if (decide ((x0_1.length : Int) > (30 : Int))) = true then
      some false
    else
      if (!decide ((x0_2.length : Int) = x0_0)) = true then
        some false
      else
        j3 x0_0 x0_1 x0_2

/-- loop.example/g01158/impl.ParseMaze -/
def impl_ParseMaze.l0 (n : Nat) (K : Int → (List (Int × Int × Int)) → (List (Int)) → Bool → Bool → Int → (List (Int × Int × Int)) → (List (Int)) → Option (Int × (List (Int × Int × Int)) × (List (Int)) × Bool)) : Nat → Int → (List (Int × Int × Int)) → (List (Int)) → Bool → Bool → Int → (List (Int × Int × Int)) → (List (Int)) → (List (ByteArray)) → Int → Int → Option (Int × (List (Int × Int × Int)) × (List (Int)) × Bool)
  | 0, _, _, _, _, _, _, _, _, _, _, _ => none
  | k + 1, x2_0, x2_1, x2_2, x6, x8, x9_0, x9_1, x9_2, x43, x44, x45 =>
    if (decide (x45 < x44)) = true then
      if 0 ≤ x45 ∧ x45 < (x43.length : Int) then ((impl_numbers.F n (x43.getD x45.toNat ByteArray.empty) (⟨#[45]⟩ : ByteArray)).bind fun r4 =>
      if (!r4.2) = true then
        some ((0 : Int), ([] : List (Int × Int × Int)), ([] : List (Int)), false)
      else
        if (!decide ((r4.1.length : Int) = (3 : Int))) = true then
          some ((0 : Int), ([] : List (Int × Int × Int)), ([] : List (Int)), false)
        else
          if 1 ≤ 3 ∧ 3 ≤ r4.1.length then (if 0 + 3 ≤ r4.1.length then (if x9_1.length + ([(r4.1.getD 0 (0 : Int), r4.1.getD 1 (0 : Int), r4.1.getD 2 (0 : Int))] : List (Int × Int × Int)).length ≤ 4398046511104 then (impl_ParseMaze.l0 n K k x2_0 x2_1 x2_2 x6 x8 x9_0 (x9_1 ++ ([(r4.1.getD 0 (0 : Int), r4.1.getD 1 (0 : Int), r4.1.getD 2 (0 : Int))] : List (Int × Int × Int))) x9_2 x43 x44 (IntKind.wrap .i64 (x45 + (1 : Int)))) else none) else none) else none) else none
    else
      K x2_0 x2_1 x2_2 x6 x8 x9_0 x9_1 x9_2
def impl_ParseMaze.F (n : Nat) (x0 : ByteArray) : Option (Int × (List (Int × Int × Int)) × (List (Int)) × Bool) :=
  (strSplit.F n x0 (⟨#[32]⟩ : ByteArray)).bind fun r1 =>
  let j4 : (Int) → (List (Int × Int × Int)) → (List (Int)) → (List (ByteArray)) → Option (Int × (List (Int × Int × Int)) × (List (Int)) × Bool) := fun j4_x2_0 j4_x2_1 j4_x2_2 j4_x4 =>
    if 0 ≤ (0 : Int) ∧ (0 : Int) < (j4_x4.length : Int) then ((strParse.F n (j4_x4.getD 0 ByteArray.empty)).bind fun r2 =>
    if 0 ≤ (1 : Int) ∧ (1 : Int) < (j4_x4.length : Int) then ((impl_numbers.F n (j4_x4.getD 1 ByteArray.empty) (⟨#[44]⟩ : ByteArray)).bind fun r3 =>
    if 0 ≤ (2 : Int) ∧ (2 : Int) ≤ (j4_x4.length : Int) then (impl_ParseMaze.l0 n (fun y5 y6 y7 y8 y9 y10 y11 y12 =>
      if (!y8) = true then
        some ((0 : Int), ([] : List (Int × Int × Int)), ([] : List (Int)), false)
      else
        if (!y9) = true then
          some ((0 : Int), ([] : List (Int × Int × Int)), ([] : List (Int)), false)
        else
          (impl_IsMaze.F n y10 y11 y12).bind fun r13 =>
          if (!r13) = true then
            some ((0 : Int), ([] : List (Int × Int × Int)), ([] : List (Int)), false)
          else
            some (y10, y11, y12, true)) n j4_x2_0 j4_x2_1 j4_x2_2 r2.2 r3.2 r2.1 ([] : List (Int × Int × Int)) r3.1 (j4_x4.drop 2) ((j4_x4.drop 2).length : Int) (0 : Int)) else none) else none) else none
  if (decide ((x0.size : Int) > (4000 : Int))) = true then
    some ((0 : Int), ([] : List (Int × Int × Int)), ([] : List (Int)), false)
  else
    if (decide ((r1.length : Int) < (2 : Int))) = true then
      some ((0 : Int), ([] : List (Int × Int × Int)), ([] : List (Int)), false)
    else
      j4 (0 : Int) ([] : List (Int × Int × Int)) ([] : List (Int)) r1

/-- loop.example/g01158/laws.eqIntA3 -/
def laws_eqIntA3.F (n : Nat) (x0_0 : Int) (x0_1 : Int) (x0_2 : Int) (x1_0 : Int) (x1_1 : Int) (x1_2 : Int) : Option (Bool) :=
  if (!decide (x0_0 = x1_0)) = true then
    some false
  else
    if (!decide (x0_1 = x1_1)) = true then
      some false
    else
      if (!decide (x0_2 = x1_2)) = true then
        some false
      else
        some true

/-- loop.example/g01158/laws.eqIntA3S -/
def laws_eqIntA3S.l0 (n : Nat) (K : Unit → Option (Bool)) : Nat → (List (Int × Int × Int)) → (List (Int × Int × Int)) → Int → Option (Bool)
  | 0, _, _, _ => none
  | k + 1, x0, x1, x5 =>
    if (decide (x5 < (x0.length : Int))) = true then
      if 0 ≤ x5 ∧ x5 < (x0.length : Int) then (if 0 ≤ x5 ∧ x5 < (x1.length : Int) then ((laws_eqIntA3.F n ((x0.getD x5.toNat ((0 : Int), (0 : Int), (0 : Int))).1) ((x0.getD x5.toNat ((0 : Int), (0 : Int), (0 : Int))).2.1) ((x0.getD x5.toNat ((0 : Int), (0 : Int), (0 : Int))).2.2) ((x1.getD x5.toNat ((0 : Int), (0 : Int), (0 : Int))).1) ((x1.getD x5.toNat ((0 : Int), (0 : Int), (0 : Int))).2.1) ((x1.getD x5.toNat ((0 : Int), (0 : Int), (0 : Int))).2.2)).bind fun r1 =>
      if (!r1) = true then
        some false
      else
        laws_eqIntA3S.l0 n K k x0 x1 (IntKind.wrap .i64 (x5 + (1 : Int)))) else none) else none
    else
      K ()
def laws_eqIntA3S.F (n : Nat) (x0 : List (Int × Int × Int)) (x1 : List (Int × Int × Int)) : Option (Bool) :=
  if (!decide ((x0.length : Int) = (x1.length : Int))) = true then
    some false
  else
    laws_eqIntA3S.l0 n (fun _ =>
      some true) n x0 x1 (0 : Int)

/-- loop.example/g01158/laws.eqIntS -/
def laws_eqIntS.l0 (n : Nat) (K : Unit → Option (Bool)) : Nat → (List (Int)) → (List (Int)) → Int → Option (Bool)
  | 0, _, _, _ => none
  | k + 1, x0, x1, x5 =>
    if (decide (x5 < (x0.length : Int))) = true then
      if 0 ≤ x5 ∧ x5 < (x0.length : Int) then (if 0 ≤ x5 ∧ x5 < (x1.length : Int) then (if (!decide ((x0.getD x5.toNat (0 : Int)) = (x1.getD x5.toNat (0 : Int)))) = true then
        some false
      else
        laws_eqIntS.l0 n K k x0 x1 (IntKind.wrap .i64 (x5 + (1 : Int)))) else none) else none
    else
      K ()
def laws_eqIntS.F (n : Nat) (x0 : List (Int)) (x1 : List (Int)) : Option (Bool) :=
  if (!decide ((x0.length : Int) = (x1.length : Int))) = true then
    some false
  else
    laws_eqIntS.l0 n (fun _ =>
      some true) n x0 x1 (0 : Int)

/-- loop.example/g01158/laws.eqMaze -/
def laws_eqMaze.F (n : Nat) (x0_0 : Int) (x0_1 : List (Int × Int × Int)) (x0_2 : List (Int)) (x1_0 : Int) (x1_1 : List (Int × Int × Int)) (x1_2 : List (Int)) : Option (Bool) :=
  if (!decide (x0_0 = x1_0)) = true then
    some false
  else
    (laws_eqIntA3S.F n x0_1 x1_1).bind fun r1 =>
    if (!r1) = true then
      some false
    else
      (laws_eqIntS.F n x0_2 x1_2).bind fun r2 =>
      if (!r2) = true then
        some false
      else
        some true

/-- loop.example/g01158/laws.markIntA3S -/
def laws_markIntA3S.l0 (n : Nat) (K : (List (Int × Int × Int)) → Int → Option (Int × (List (Int × Int × Int)))) : Nat → (List (Int × Int × Int)) → Int → Int → Option (Int × (List (Int × Int × Int)))
  | 0, _, _, _ => none
  | k + 1, x0, x1, x5 =>
    if (decide (x5 < (x0.length : Int))) = true then
      if 0 ≤ x5 ∧ x5 < (x0.length : Int) then (if 0 ≤ x5 ∧ x5 < ((x0.set x5.toNat (x1, (x0.getD x5.toNat ((0 : Int), (0 : Int), (0 : Int))).2.1, (x0.getD x5.toNat ((0 : Int), (0 : Int), (0 : Int))).2.2)).length : Int) then (if 0 ≤ x5 ∧ x5 < (((x0.set x5.toNat (x1, (x0.getD x5.toNat ((0 : Int), (0 : Int), (0 : Int))).2.1, (x0.getD x5.toNat ((0 : Int), (0 : Int), (0 : Int))).2.2)).set x5.toNat (((x0.set x5.toNat (x1, (x0.getD x5.toNat ((0 : Int), (0 : Int), (0 : Int))).2.1, (x0.getD x5.toNat ((0 : Int), (0 : Int), (0 : Int))).2.2)).getD x5.toNat ((0 : Int), (0 : Int), (0 : Int))).1, IntKind.wrap .i64 (x1 + (1 : Int)), ((x0.set x5.toNat (x1, (x0.getD x5.toNat ((0 : Int), (0 : Int), (0 : Int))).2.1, (x0.getD x5.toNat ((0 : Int), (0 : Int), (0 : Int))).2.2)).getD x5.toNat ((0 : Int), (0 : Int), (0 : Int))).2.2)).length : Int) then (laws_markIntA3S.l0 n K k (((x0.set x5.toNat (x1, (x0.getD x5.toNat ((0 : Int), (0 : Int), (0 : Int))).2.1, (x0.getD x5.toNat ((0 : Int), (0 : Int), (0 : Int))).2.2)).set x5.toNat (((x0.set x5.toNat (x1, (x0.getD x5.toNat ((0 : Int), (0 : Int), (0 : Int))).2.1, (x0.getD x5.toNat ((0 : Int), (0 : Int), (0 : Int))).2.2)).getD x5.toNat ((0 : Int), (0 : Int), (0 : Int))).1, IntKind.wrap .i64 (x1 + (1 : Int)), ((x0.set x5.toNat (x1, (x0.getD x5.toNat ((0 : Int), (0 : Int), (0 : Int))).2.1, (x0.getD x5.toNat ((0 : Int), (0 : Int), (0 : Int))).2.2)).getD x5.toNat ((0 : Int), (0 : Int), (0 : Int))).2.2)).set x5.toNat ((((x0.set x5.toNat (x1, (x0.getD x5.toNat ((0 : Int), (0 : Int), (0 : Int))).2.1, (x0.getD x5.toNat ((0 : Int), (0 : Int), (0 : Int))).2.2)).set x5.toNat (((x0.set x5.toNat (x1, (x0.getD x5.toNat ((0 : Int), (0 : Int), (0 : Int))).2.1, (x0.getD x5.toNat ((0 : Int), (0 : Int), (0 : Int))).2.2)).getD x5.toNat ((0 : Int), (0 : Int), (0 : Int))).1, IntKind.wrap .i64 (x1 + (1 : Int)), ((x0.set x5.toNat (x1, (x0.getD x5.toNat ((0 : Int), (0 : Int), (0 : Int))).2.1, (x0.getD x5.toNat ((0 : Int), (0 : Int), (0 : Int))).2.2)).getD x5.toNat ((0 : Int), (0 : Int), (0 : Int))).2.2)).getD x5.toNat ((0 : Int), (0 : Int), (0 : Int))).1, (((x0.set x5.toNat (x1, (x0.getD x5.toNat ((0 : Int), (0 : Int), (0 : Int))).2.1, (x0.getD x5.toNat ((0 : Int), (0 : Int), (0 : Int))).2.2)).set x5.toNat (((x0.set x5.toNat (x1, (x0.getD x5.toNat ((0 : Int), (0 : Int), (0 : Int))).2.1, (x0.getD x5.toNat ((0 : Int), (0 : Int), (0 : Int))).2.2)).getD x5.toNat ((0 : Int), (0 : Int), (0 : Int))).1, IntKind.wrap .i64 (x1 + (1 : Int)), ((x0.set x5.toNat (x1, (x0.getD x5.toNat ((0 : Int), (0 : Int), (0 : Int))).2.1, (x0.getD x5.toNat ((0 : Int), (0 : Int), (0 : Int))).2.2)).getD x5.toNat ((0 : Int), (0 : Int), (0 : Int))).2.2)).getD x5.toNat ((0 : Int), (0 : Int), (0 : Int))).2.1, IntKind.wrap .i64 ((IntKind.wrap .i64 (x1 + (1 : Int))) + (1 : Int)))) (IntKind.wrap .i64 ((IntKind.wrap .i64 ((IntKind.wrap .i64 (x1 + (1 : Int))) + (1 : Int))) + (1 : Int))) (IntKind.wrap .i64 (x5 + (1 : Int)))) else none) else none) else none
    else
      K x0 x1
def laws_markIntA3S.F (n : Nat) (x0 : List (Int × Int × Int)) (x1 : Int) : Option (Int × (List (Int × Int × Int))) :=
  laws_markIntA3S.l0 n (fun y1 y2 =>
    some (y2, y1)) n x0 x1 (0 : Int)

/-- loop.example/g01158/laws.markIntS -/
def laws_markIntS.l0 (n : Nat) (K : (List (Int)) → Int → Option (Int × (List (Int)))) : Nat → (List (Int)) → Int → Int → Option (Int × (List (Int)))
  | 0, _, _, _ => none
  | k + 1, x0, x1, x5 =>
    if (decide (x5 < (x0.length : Int))) = true then
      if 0 ≤ x5 ∧ x5 < (x0.length : Int) then (laws_markIntS.l0 n K k (x0.set x5.toNat x1) (IntKind.wrap .i64 (x1 + (1 : Int))) (IntKind.wrap .i64 (x5 + (1 : Int)))) else none
    else
      K x0 x1
def laws_markIntS.F (n : Nat) (x0 : List (Int)) (x1 : Int) : Option (Int × (List (Int))) :=
  laws_markIntS.l0 n (fun y1 y2 =>
    some (y2, y1)) n x0 x1 (0 : Int)

/-- loop.example/g01158/laws.markMaze -/
def laws_markMaze.F (n : Nat) (x0_0 : Int) (x0_1 : List (Int × Int × Int)) (x0_2 : List (Int)) (x1 : Int) : Option (Int × Int × (List (Int × Int × Int)) × (List (Int))) :=
  (laws_markIntA3S.F n x0_1 x1).bind fun r1 =>
  (laws_markIntS.F n x0_2 r1.1).bind fun r2 =>
  some (r2.1, x0_0, r1.2, r2.2)

/-- loop.example/g01158/laws.heldIntA3S -/
def laws_heldIntA3S.l0 (n : Nat) (K : Int → Option (Int)) : Nat → (List (Int × Int × Int)) → Int → Int → Option (Int)
  | 0, _, _, _ => none
  | k + 1, x0, x1, x5 =>
    if (decide (x5 < (x0.length : Int))) = true then
      if 0 ≤ x5 ∧ x5 < (x0.length : Int) then (if (!decide (((x0.getD x5.toNat ((0 : Int), (0 : Int), (0 : Int))).1) = x1)) = true then
        some (-1 : Int)
      else
        if 0 ≤ x5 ∧ x5 < (x0.length : Int) then (if (!decide (((x0.getD x5.toNat ((0 : Int), (0 : Int), (0 : Int))).2.1) = (IntKind.wrap .i64 (x1 + (1 : Int))))) = true then
          some (-1 : Int)
        else
          if 0 ≤ x5 ∧ x5 < (x0.length : Int) then (if (!decide (((x0.getD x5.toNat ((0 : Int), (0 : Int), (0 : Int))).2.2) = (IntKind.wrap .i64 ((IntKind.wrap .i64 (x1 + (1 : Int))) + (1 : Int))))) = true then
            some (-1 : Int)
          else
            laws_heldIntA3S.l0 n K k x0 (IntKind.wrap .i64 ((IntKind.wrap .i64 ((IntKind.wrap .i64 (x1 + (1 : Int))) + (1 : Int))) + (1 : Int))) (IntKind.wrap .i64 (x5 + (1 : Int)))) else none) else none) else none
    else
      K x1
def laws_heldIntA3S.F (n : Nat) (x0 : List (Int × Int × Int)) (x1 : Int) : Option (Int) :=
  laws_heldIntA3S.l0 n (fun y1 =>
    some y1) n x0 x1 (0 : Int)

/-- loop.example/g01158/laws.heldIntS -/
def laws_heldIntS.l0 (n : Nat) (K : Int → Option (Int)) : Nat → (List (Int)) → Int → Int → Option (Int)
  | 0, _, _, _ => none
  | k + 1, x0, x1, x5 =>
    if (decide (x5 < (x0.length : Int))) = true then
      if 0 ≤ x5 ∧ x5 < (x0.length : Int) then (if (!decide ((x0.getD x5.toNat (0 : Int)) = x1)) = true then
        some (-1 : Int)
      else
        laws_heldIntS.l0 n K k x0 (IntKind.wrap .i64 (x1 + (1 : Int))) (IntKind.wrap .i64 (x5 + (1 : Int)))) else none
    else
      K x1
def laws_heldIntS.F (n : Nat) (x0 : List (Int)) (x1 : Int) : Option (Int) :=
  laws_heldIntS.l0 n (fun y1 =>
    some y1) n x0 x1 (0 : Int)

/-- loop.example/g01158/laws.heldMaze -/
def laws_heldMaze.F (n : Nat) (x0_0 : Int) (x0_1 : List (Int × Int × Int)) (x0_2 : List (Int)) (x1 : Int) : Option (Int) :=
  (laws_heldIntA3S.F n x0_1 x1).bind fun r1 =>
  if (decide (r1 < (0 : Int))) = true then
    some (-1 : Int)
  else
    (laws_heldIntS.F n x0_2 r1).bind fun r2 =>
    if (decide (r2 < (0 : Int))) = true then
      some (-1 : Int)
    else
      some r2

/-- loop.example/g01158/laws.FnExactParseMaze -/
def laws_FnExactParseMaze.F (n : Nat) (x0 : ByteArray) : Option (Bool) :=
  if (decide ((x0.size : Int) > (1048576 : Int))) = true then
    some true
  else
    (spec_ParseMaze.F n x0).bind fun r1 =>
    (impl_ParseMaze.F n x0).bind fun r2 =>
    let j7 : (ByteArray) → (Int) → (List (Int × Int × Int)) → (List (Int)) → (Bool) → (Int) → (List (Int × Int × Int)) → (List (Int)) → Option (Bool) := fun j7_x0 j7_x3_0 j7_x3_1 j7_x3_2 j7_x4 j7_x5_0 j7_x5_1 j7_x5_2 =>
      (laws_markMaze.F n j7_x5_0 j7_x5_1 j7_x5_2 (1 : Int)).bind fun r4 =>
      (laws_heldMaze.F n j7_x5_0 r4.2.2.1 r4.2.2.2 (1 : Int)).bind fun r5 =>
      if (decide (r5 < (0 : Int))) = true then
        some false
      else
        if (!decide (r5 = r4.1)) = true then
          some false
        else
          (impl_ParseMaze.F n j7_x0).bind fun r6 =>
          (laws_eqMaze.F n r6.1 r6.2.1 r6.2.2.1 j7_x3_0 j7_x3_1 j7_x3_2).bind fun r7 =>
          if (!r7) = true then
            some false
          else
            if (!(r6.2.2.2 == j7_x4)) = true then
              some false
            else
              (laws_heldMaze.F n j7_x5_0 r4.2.2.1 r4.2.2.2 (1 : Int)).bind fun r8 =>
              if (decide (r8 < (0 : Int))) = true then
                some false
              else
                if (!decide (r8 = r4.1)) = true then
                  some false
                else
                  some true
    (laws_eqMaze.F n r2.1 r2.2.1 r2.2.2.1 r1.1 r1.2.1 r1.2.2.1).bind fun r3 =>
    if (!r3) = true then
      some false
    else
      if (!(r2.2.2.2 == r1.2.2.2)) = true then
        some false
      else
        j7 x0 r1.1 r1.2.1 r1.2.2.1 r1.2.2.2 r2.1 r2.2.1 r2.2.2.1

/-- loop.example/g01158/laws.vBig -/
def laws_vBig.F (n : Nat) (x0 : List (Int)) : Option (Bool) :=
  some (decide ((x0.length : Int) > (65536 : Int)))

/-- (*loop.example/g01158/spec.l1Cur).next -/
def spec_l1Cur_next.F (n : Nat) (x0_0 : List (Int)) (x0_1 : Int) (x0_2 : Int) : Option ((List (Int)) × Int × Int × Int) :=
  let j4 : (List (Int)) → (Int) → (Int) → (Int) → Option ((List (Int)) × Int × Int × Int) := fun j4_x0_0 j4_x0_1 j4_x0_2 j4_x3 =>
    if (decide ((IntKind.wrap .i64 (j4_x0_1 + (1 : Int))) ≤ (j4_x0_0.length : Int))) = true then
      some (j4_x0_0, IntKind.wrap .i64 (j4_x0_1 + (1 : Int)), IntKind.wrap .u64 ((IntKind.wrap .u64 ((IntKind.wrap .u64 (j4_x0_2 * (6364136223846793005 : Int))) + (IntKind.wrap .u64 j4_x3))) + (462197 : Int)), j4_x3)
    else
      some (j4_x0_0, IntKind.wrap .i64 (j4_x0_1 + (1 : Int)), IntKind.wrap .u64 ((IntKind.wrap .u64 ((IntKind.wrap .u64 (j4_x0_2 * (6364136223846793005 : Int))) + (IntKind.wrap .u64 j4_x3))) + (462197 : Int)), IntKind.wrap .i64 (bitAnd .u64 (shR .u64 (IntKind.wrap .u64 ((IntKind.wrap .u64 ((IntKind.wrap .u64 (j4_x0_2 * (6364136223846793005 : Int))) + (IntKind.wrap .u64 j4_x3))) + (462197 : Int))) 40) 255))
  if (decide (x0_1 < (x0_0.length : Int))) = true then
    if 0 ≤ x0_1 ∧ x0_1 < (x0_0.length : Int) then (j4 x0_0 x0_1 x0_2 (IntKind.wrap .i64 (x0_0.getD x0_1.toNat (0 : Int)))) else none
  else
    j4 x0_0 x0_1 x0_2 (0 : Int)

/-- (*loop.example/g01158/spec.l1Cur).pick -/
def spec_l1Cur_pick.F (n : Nat) (x0_0 : List (Int)) (x0_1 : Int) (x0_2 : Int) (x1 : Int) : Option ((List (Int)) × Int × Int × Int) :=
  if (decide (x1 ≤ (1 : Int))) = true then
    some (x0_0, x0_1, x0_2, (0 : Int))
  else
    (spec_l1Cur_next.F n x0_0 x0_1 x0_2).bind fun r1 =>
    if (decide (x1 > (200 : Int))) = true then
      (spec_l1Cur_next.F n r1.1 r1.2.1 r1.2.2.1).bind fun r2 =>
      if x1 = 0 then none else (some (r2.1, r2.2.1, r2.2.2.1, Int.tmod (IntKind.wrap .i64 ((IntKind.wrap .i64 (r1.2.2.2 * (256 : Int))) + r2.2.2.2)) x1))
    else
      if x1 = 0 then none else (some (r1.1, r1.2.1, r1.2.2.1, Int.tmod r1.2.2.2 x1))

/-- (*loop.example/g01158/spec.l1Cur).among -/
def spec_l1Cur_among.F (n : Nat) (x0_0 : List (Int)) (x0_1 : Int) (x0_2 : Int) (x1 : List (Int)) : Option ((List (Int)) × Int × Int × Int) :=
  (spec_l1Cur_pick.F n x0_0 x0_1 x0_2 (x1.length : Int)).bind fun r1 =>
  if 0 ≤ r1.2.2.2 ∧ r1.2.2.2 < (x1.length : Int) then (some (r1.1, r1.2.1, r1.2.2.1, x1.getD r1.2.2.2.toNat (0 : Int))) else none

/-- loop.example/g01158/spec.DrawFormatInt -/
def spec_DrawFormatInt.F (n : Nat) (x0 : List (Int)) : Option (Int) :=
  (spec_l1Cur_pick.F n x0 (0 : Int) (0 : Int) (1000 : Int)).bind fun r1 =>
  (spec_l1Cur_among.F n r1.1 r1.2.1 r1.2.2.1 ([(0 : Int), (1 : Int), (-1 : Int), (10 : Int), (999999 : Int), (-999999 : Int), (1000000 : Int), (-1000000 : Int), IntKind.wrap .i64 (r1.2.2.2 - (500 : Int))] : List (Int))).bind fun r2 =>
  some r2.2.2.2

/-- loop.example/g01158/impl.FormatInt -/
def impl_FormatInt.F (n : Nat) (x0 : Int) : Option (ByteArray × Bool) :=
  if (decide (x0 < (-999999 : Int))) = true then
    some (ByteArray.empty, false)
  else
    if (decide (x0 > (999999 : Int))) = true then
      some (ByteArray.empty, false)
    else
      (strItoa.F n x0).bind fun r1 =>
      some (r1, true)

/-- loop.example/g01158/spec.FormatInt -/
def spec_FormatInt.F (n : Nat) (x0 : Int) : Option (ByteArray × Bool) :=
  (spec_l1In.F n x0 (-999999 : Int) (999999 : Int)).bind fun r1 =>
  if (!r1) = true then
    some (ByteArray.empty, false)
  else
    (spec_l1Num.F n x0).bind fun r2 =>
    some (r2, true)

/-- (*loop.example/g01158/spec.l1Cur).one -/
def spec_l1Cur_one.F (n : Nat) (x0_0 : List (Int)) (x0_1 : Int) (x0_2 : Int) (x1 : Int) : Option ((List (Int)) × Int × Int × Bool) :=
  (spec_l1Cur_pick.F n x0_0 x0_1 x0_2 x1).bind fun r1 =>
  some (r1.1, r1.2.1, r1.2.2.1, (decide (r1.2.2.2 = (0 : Int))))

/-- (*loop.example/g01158/spec.l1Cur).of -/
def spec_l1Cur_of.F (n : Nat) (x0_0 : List (Int)) (x0_1 : Int) (x0_2 : Int) (x1 : List (ByteArray)) : Option ((List (Int)) × Int × Int × ByteArray) :=
  (spec_l1Cur_pick.F n x0_0 x0_1 x0_2 (x1.length : Int)).bind fun r1 =>
  if 0 ≤ r1.2.2.2 ∧ r1.2.2.2 < (x1.length : Int) then (some (r1.1, r1.2.1, r1.2.2.1, (x1.getD r1.2.2.2.toNat ByteArray.empty))) else none

/-- loop.example/g01158/spec.DrawParseInt -/
def spec_DrawParseInt.F (n : Nat) (x0 : List (Int)) : Option (ByteArray) :=
  (spec_l1Cur_one.F n x0 (0 : Int) (0 : Int) (2 : Int)).bind fun r1 =>
  if r1.2.2.2 = true then
    (spec_l1Cur_of.F n r1.1 r1.2.1 r1.2.2.1 ([ByteArray.empty, (⟨#[45]⟩ : ByteArray), (⟨#[45, 48]⟩ : ByteArray), (⟨#[48, 48]⟩ : ByteArray), (⟨#[48, 49]⟩ : ByteArray), (⟨#[45, 45, 49]⟩ : ByteArray), (⟨#[49, 120]⟩ : ByteArray), (⟨#[57, 57, 57, 57, 57, 57]⟩ : ByteArray), (⟨#[49, 48, 48, 48, 48, 48, 48]⟩ : ByteArray), (⟨#[45, 57, 57, 57, 57, 57, 57]⟩ : ByteArray), (⟨#[49, 56, 52, 52, 54, 55, 52, 52, 48, 55, 51, 55, 48, 57, 53, 53, 49, 54, 49, 55]⟩ : ByteArray)] : List (ByteArray))).bind fun r2 =>
    some r2.2.2.2
  else
    (spec_l1Cur_pick.F n r1.1 r1.2.1 r1.2.2.1 (2000 : Int)).bind fun r3 =>
    (spec_l1Num.F n (IntKind.wrap .i64 (r3.2.2.2 - (1000 : Int)))).bind fun r4 =>
    some r4

/-- loop.example/g01158/spec.ParseInt -/
def spec_ParseInt.F (n : Nat) (x0 : ByteArray) : Option (Int × Bool) :=
  (spec_l1Read.F n x0).bind fun r1 =>
  some (r1.1, r1.2)

/-- (*loop.example/g01158/spec.l1Cur).any1 -/
def spec_l1Cur_any1.F (n : Nat) (x0_0 : List (Int)) (x0_1 : Int) (x0_2 : Int) : Option ((List (Int)) × Int × Int × ByteArray) :=
  (spec_l1Cur_of.F n x0_0 x0_1 x0_2 ([ByteArray.empty, (⟨#[97]⟩ : ByteArray), (⟨#[97, 44, 98]⟩ : ByteArray), (⟨#[115, 111, 109, 101, 32, 119, 111, 114, 100, 115]⟩ : ByteArray), (⟨#[120, 35, 121]⟩ : ByteArray), (⟨#[45, 49, 50]⟩ : ByteArray), (⟨#[0, 255]⟩ : ByteArray), (⟨#[44, 44]⟩ : ByteArray), (⟨#[48]⟩ : ByteArray)] : List (ByteArray))).bind fun r1 =>
  some (r1.1, r1.2.1, r1.2.2.1, r1.2.2.2)

/-- loop.example/g01158/spec.DrawAppendChecksum -/
def spec_DrawAppendChecksum.F (n : Nat) (x0 : List (Int)) : Option (ByteArray) :=
  (spec_l1Cur_one.F n x0 (0 : Int) (0 : Int) (20 : Int)).bind fun r1 =>
  if r1.2.2.2 = true then
    (spec_l1Cur_pick.F n r1.1 r1.2.1 r1.2.2.1 (10 : Int)).bind fun r2 =>
    if 0 ≤ (IntKind.wrap .i64 ((3990 : Int) + r2.2.2.2)) ∧ (IntKind.wrap .i64 ((3990 : Int) + r2.2.2.2)) ≤ (IntKind.wrap .i64 ((3990 : Int) + r2.2.2.2)) ∧ (IntKind.wrap .i64 ((3990 : Int) + r2.2.2.2)) ≤ 4398046511104 then (some (strOfInts (List.replicate ((IntKind.wrap .i64 ((3990 : Int) + r2.2.2.2)).toNat) (0 : Int)))) else none
  else
    (spec_l1Cur_any1.F n r1.1 r1.2.1 r1.2.2.1).bind fun r3 =>
    some r3.2.2.2

/-- loop.example/g01158/impl.checksum -/
def impl_checksum.l0 (n : Nat) (K : Int → Option (Int)) : Nat → ByteArray → Int → Int → Int → Option (Int)
  | 0, _, _, _, _ => none
  | k + 1, x0, x3, x6, x7 =>
    if (decide (x7 < x6)) = true then
      if 0 ≤ x7 ∧ x7 < (x0.size : Int) then (impl_checksum.l0 n K k x0 (Int.tmod (IntKind.wrap .i64 ((IntKind.wrap .i64 ((IntKind.wrap .i64 ((41 : Int) * x3)) + (IntKind.wrap .i64 (bAt x0 x7.toNat)))) + (1 : Int))) 999979) x6 (IntKind.wrap .i64 (x7 + (1 : Int)))) else none
    else
      K x3
def impl_checksum.F (n : Nat) (x0 : ByteArray) : Option (Int) :=
  impl_checksum.l0 n (fun y1 =>
    some y1) n x0 (7 : Int) (x0.size : Int) (0 : Int)

/-- loop.example/g01158/impl.AppendChecksum -/
def impl_AppendChecksum.F (n : Nat) (x0 : ByteArray) : Option (ByteArray × Bool) :=
  if (decide ((x0.size : Int) > (4000 : Int))) = true then
    some (ByteArray.empty, false)
  else
    (strContains.F n x0 (⟨#[35]⟩ : ByteArray)).bind fun r1 =>
    if r1 = true then
      some (ByteArray.empty, false)
    else
      if x0.size + (⟨#[35]⟩ : ByteArray).size ≤ 4398046511104 then ((impl_checksum.F n x0).bind fun r2 =>
      (strItoa.F n r2).bind fun r3 =>
      if (x0 ++ (⟨#[35]⟩ : ByteArray)).size + r3.size ≤ 4398046511104 then (if (decide ((((x0 ++ (⟨#[35]⟩ : ByteArray)) ++ r3).size : Int) > (4000 : Int))) = true then
        some (ByteArray.empty, false)
      else
        some (((x0 ++ (⟨#[35]⟩ : ByteArray)) ++ r3), true)) else none) else none

/-- loop.example/g01158/spec.l1Stands -/
def spec_l1Stands.l0 (n : Nat) (K : Unit → Option (Bool)) : Nat → ByteArray → Int → Int → Option (Bool)
  | 0, _, _, _ => none
  | k + 1, x0, x1, x5 =>
    if (decide (x5 < (x0.size : Int))) = true then
      if 0 ≤ x5 ∧ x5 < (x0.size : Int) then (if (decide ((bAt x0 x5.toNat) = x1)) = true then
        some true
      else
        spec_l1Stands.l0 n K k x0 x1 (IntKind.wrap .i64 (x5 + (1 : Int)))) else none
    else
      K ()
def spec_l1Stands.F (n : Nat) (x0 : ByteArray) (x1 : Int) : Option (Bool) :=
  spec_l1Stands.l0 n (fun _ =>
    some false) n x0 x1 (0 : Int)

/-- loop.example/g01158/spec.l1Sum -/
def spec_l1Sum.l0 (n : Nat) (K : Int → Option (Int)) : Nat → ByteArray → Int → Int → Option (Int)
  | 0, _, _, _ => none
  | k + 1, x0, x3, x4 =>
    if (decide (x4 < (x0.size : Int))) = true then
      if 0 ≤ x4 ∧ x4 < (x0.size : Int) then (spec_l1Sum.l0 n K k x0 (Int.tmod (IntKind.wrap .i64 ((IntKind.wrap .i64 ((IntKind.wrap .i64 ((41 : Int) * x3)) + (IntKind.wrap .i64 (bAt x0 x4.toNat)))) + (1 : Int))) 999979) (IntKind.wrap .i64 (x4 + (1 : Int)))) else none
    else
      K x3
def spec_l1Sum.F (n : Nat) (x0 : ByteArray) : Option (Int) :=
  spec_l1Sum.l0 n (fun y1 =>
    some y1) n x0 (7 : Int) (0 : Int)

/-- loop.example/g01158/spec.l1Seal -/
def spec_l1Seal.F (n : Nat) (x0 : ByteArray) : Option (ByteArray) :=
  if x0.size + (⟨#[35]⟩ : ByteArray).size ≤ 4398046511104 then ((spec_l1Sum.F n x0).bind fun r1 =>
  (spec_l1Num.F n r1).bind fun r2 =>
  if (x0 ++ (⟨#[35]⟩ : ByteArray)).size + r2.size ≤ 4398046511104 then (some ((x0 ++ (⟨#[35]⟩ : ByteArray)) ++ r2)) else none) else none

/-- loop.example/g01158/spec.AppendChecksum -/
def spec_AppendChecksum.F (n : Nat) (x0 : ByteArray) : Option (ByteArray × Bool) :=
  if (decide ((x0.size : Int) > (4000 : Int))) = true then
    some (ByteArray.empty, false)
  else
    (spec_l1Stands.F n x0 (35 : Int)).bind fun r1 =>
    if r1 = true then
      some (ByteArray.empty, false)
    else
      (spec_l1Seal.F n x0).bind fun r2 =>
      if (decide ((r2.size : Int) > (4000 : Int))) = true then
        some (ByteArray.empty, false)
      else
        (spec_l1Seal.F n x0).bind fun r3 =>
        some (r3, true)

/-- loop.example/g01158/impl.VerifyChecksum -/
def impl_VerifyChecksum.F (n : Nat) (x0 : ByteArray) : Option (ByteArray × Bool) :=
  (strCut.F n x0 (⟨#[35]⟩ : ByteArray)).bind fun r1 =>
  (impl_AppendChecksum.F n r1.1).bind fun r2 =>
  if (!r2.2) = true then
    some (ByteArray.empty, false)
  else
    if (!(r2.1.toList == x0.toList)) = true then
      some (ByteArray.empty, false)
    else
      some (r1.1, true)

/-- loop.example/g01158/laws.vAt -/
def laws_vAt.F (n : Nat) (x0 : List (Int)) (x1 : Int) : Option (Int) :=
  if (decide (x1 < (x0.length : Int))) = true then
    if 0 ≤ x1 ∧ x1 < (x0.length : Int) then (some (IntKind.wrap .i64 (x0.getD x1.toNat (0 : Int)))) else none
  else
    some (Int.tmod (IntKind.wrap .i64 ((IntKind.wrap .i64 (x1 * (7 : Int))) + (x0.length : Int))) 256)

/-- loop.example/g01158/laws.FnStrings -/
def laws_FnStrings.c17 (n : Nat) (x0 : List (Int)) (x13 : ByteArray) (x14 : ByteArray) (x15 : Bool) : Option (Bool) :=
  if (!x15) = true then
    some (x14.toList == ByteArray.empty.toList)
  else
    (impl_VerifyChecksum.F n x14).bind fun r12 =>
    (laws_vAt.F n x0 (9 : Int)).bind fun r13 =>
    if ((intsOfStr x14).length : Int) = 0 then none else (if 0 ≤ (Int.tmod r13 ((intsOfStr x14).length : Int)) ∧ (Int.tmod r13 ((intsOfStr x14).length : Int)) < ((intsOfStr x14).length : Int) then ((laws_vAt.F n x0 (10 : Int)).bind fun r14 =>
    if 0 ≤ (Int.tmod r13 ((intsOfStr x14).length : Int)) ∧ (Int.tmod r13 ((intsOfStr x14).length : Int)) < ((intsOfStr x14).length : Int) then ((impl_VerifyChecksum.F n (strOfInts ((intsOfStr x14).set ((Int.tmod r13 ((intsOfStr x14).length : Int)).toNat) (bitXor .u8 ((intsOfStr x14).getD ((Int.tmod r13 ((intsOfStr x14).length : Int)).toNat) 0) (IntKind.wrap .u8 (IntKind.wrap .i64 ((1 : Int) + (Int.tmod r14 255)))))))).bind fun r15 =>
    if r12.2 = true then
      if (r12.1.toList == x13.toList) = true then
        some (!r15.2)
      else
        some false
    else
      some false) else none) else none)
def laws_FnStrings.c14 (n : Nat) (x0 : List (Int)) (x3 : Int) (x4 : ByteArray) (x5 : Bool) (x13 : ByteArray) (x14 : ByteArray) (x15 : Bool) : Option (Bool) :=
  (strParse.F n x4).bind fun r11 =>
  if x5 = true then
    if (!r11.2) = true then
      some false
    else
      if (!decide (r11.1 = x3)) = true then
        some false
      else
        laws_FnStrings.c17 n x0 x13 x14 x15
  else
    laws_FnStrings.c17 n x0 x13 x14 x15
def laws_FnStrings.c8 (n : Nat) (x0 : List (Int)) (x3 : Int) (x4 : ByteArray) (x5 : Bool) (x6 : ByteArray) (x7 : Bool) (x8 : ByteArray) (x9 : Int) (x10 : Bool) : Option (Bool) :=
  (spec_ParseInt.F n x8).bind fun r7 =>
  (spec_DrawAppendChecksum.F n x0).bind fun r8 =>
  (impl_AppendChecksum.F n r8).bind fun r9 =>
  (spec_AppendChecksum.F n r8).bind fun r10 =>
  if (!(x4.toList == x6.toList)) = true then
    some false
  else
    if (!(x5 == x7)) = true then
      some false
    else
      if (!decide (x9 = r7.1)) = true then
        some false
      else
        if (!(x10 == r7.2)) = true then
          some false
        else
          if (!(r9.1.toList == r10.1.toList)) = true then
            some false
          else
            if (!(r9.2 == r10.2)) = true then
              some false
            else
              laws_FnStrings.c14 n x0 x3 x4 x5 r8 r9.1 r9.2
def laws_FnStrings.F (n : Nat) (x0 : List (Int)) : Option (Bool) :=
  (laws_vBig.F n x0).bind fun r1 =>
  if r1 = true then
    some true
  else
    (spec_DrawFormatInt.F n x0).bind fun r2 =>
    (impl_FormatInt.F n r2).bind fun r3 =>
    (spec_FormatInt.F n r2).bind fun r4 =>
    (spec_DrawParseInt.F n x0).bind fun r5 =>
    (strParse.F n r5).bind fun r6 =>
    laws_FnStrings.c8 n x0 r2 r3.1 r3.2 r4.1 r4.2 r5 r6.1 r6.2

end
end Go.Pf
