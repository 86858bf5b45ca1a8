/- The pure functions of this seat's Go functions, as a program of mine (mach.py) printed them. -/
import Derived.Test.YtfgncboicamdjaaGreatDoorGwA
import Derived.Test.YtfgncboicamdjaaGreatDoorGwT
set_option linter.unusedVariables false
set_option autoImplicit false
namespace Go.Pf
open Go Go.Fx
noncomputable section

/-- loop.example/g01158/laws.rBig -/
def laws_rBig.F (n : Nat) (x0 : List (Int)) : Option (Bool) :=
  some (decide ((x0.length : Int) > (65536 : Int)))

/-- (*loop.example/g01158/spec.l1Cur).next -/
def spec_l1Cur_next.F (n : Nat) (x0_0 : List (Int)) (x0_1 : Int) (x0_2 : Int) : Option ((List (Int)) × Int × Int × Int) :=
  let j4 : (List (Int)) → (Int) → (Int) → (Int) → Option ((List (Int)) × Int × Int × Int) := fun j4_x0_0 j4_x0_1 j4_x0_2 j4_x3 =>
    if (decide ((IntKind.wrap .i64 (j4_x0_1 + (1 : Int))) ≤ (j4_x0_0.length : Int))) = true then
      some (j4_x0_0, IntKind.wrap .i64 (j4_x0_1 + (1 : Int)), IntKind.wrap .u64 ((IntKind.wrap .u64 ((IntKind.wrap .u64 (j4_x0_2 * (6364136223846793005 : Int))) + (IntKind.wrap .u64 j4_x3))) + (462197 : Int)), j4_x3)
    else
      some (j4_x0_0, IntKind.wrap .i64 (j4_x0_1 + (1 : Int)), IntKind.wrap .u64 ((IntKind.wrap .u64 ((IntKind.wrap .u64 (j4_x0_2 * (6364136223846793005 : Int))) + (IntKind.wrap .u64 j4_x3))) + (462197 : Int)), IntKind.wrap .i64 (bitAnd .u64 (shR .u64 (IntKind.wrap .u64 ((IntKind.wrap .u64 ((IntKind.wrap .u64 (j4_x0_2 * (6364136223846793005 : Int))) + (IntKind.wrap .u64 j4_x3))) + (462197 : Int))) 40) 255))
  if (decide (x0_1 < (x0_0.length : Int))) = true then
    if 0 ≤ x0_1 ∧ x0_1 < (x0_0.length : Int) then (j4 x0_0 x0_1 x0_2 (IntKind.wrap .i64 (x0_0.getD x0_1.toNat (0 : Int)))) else none
  else
    j4 x0_0 x0_1 x0_2 (0 : Int)

/-- (*loop.example/g01158/spec.l1Cur).pick -/
def spec_l1Cur_pick.F (n : Nat) (x0_0 : List (Int)) (x0_1 : Int) (x0_2 : Int) (x1 : Int) : Option ((List (Int)) × Int × Int × Int) :=
  if (decide (x1 ≤ (1 : Int))) = true then
    some (x0_0, x0_1, x0_2, (0 : Int))
  else
    (spec_l1Cur_next.F n x0_0 x0_1 x0_2).bind fun r1 =>
    if (decide (x1 > (200 : Int))) = true then
      (spec_l1Cur_next.F n r1.1 r1.2.1 r1.2.2.1).bind fun r2 =>
      if x1 = 0 then none else (some (r2.1, r2.2.1, r2.2.2.1, Int.tmod (IntKind.wrap .i64 ((IntKind.wrap .i64 (r1.2.2.2 * (256 : Int))) + r2.2.2.2)) x1))
    else
      if x1 = 0 then none else (some (r1.1, r1.2.1, r1.2.2.1, Int.tmod r1.2.2.2 x1))

/-- (*loop.example/g01158/spec.l1Cur).among -/
def spec_l1Cur_among.F (n : Nat) (x0_0 : List (Int)) (x0_1 : Int) (x0_2 : Int) (x1 : List (Int)) : Option ((List (Int)) × Int × Int × Int) :=
  (spec_l1Cur_pick.F n x0_0 x0_1 x0_2 (x1.length : Int)).bind fun r1 =>
  if 0 ≤ r1.2.2.2 ∧ r1.2.2.2 < (x1.length : Int) then (some (r1.1, r1.2.1, r1.2.2.1, x1.getD r1.2.2.2.toNat (0 : Int))) else none

/-- (*loop.example/g01158/spec.l1Cur).one -/
def spec_l1Cur_one.F (n : Nat) (x0_0 : List (Int)) (x0_1 : Int) (x0_2 : Int) (x1 : Int) : Option ((List (Int)) × Int × Int × Bool) :=
  (spec_l1Cur_pick.F n x0_0 x0_1 x0_2 x1).bind fun r1 =>
  some (r1.1, r1.2.1, r1.2.2.1, (decide (r1.2.2.2 = (0 : Int))))

/-- (*loop.example/g01158/spec.l1Cur).few -/
def spec_l1Cur_few.l0 (n : Nat) (K : (List (Int)) → Int → Int → Int → Option ((List (Int)) × Int × Int × Int)) : Nat → (List (Int)) → Int → Int → Int → Int → Int → Option ((List (Int)) × Int × Int × Int)
  | 0, _, _, _, _, _, _ => none
  | k + 1, x0_0, x0_1, x0_2, x1, x5, x6 =>
    if (decide (x6 > (0 : Int))) = true then
      (spec_l1Cur_pick.F n x0_0 x0_1 x0_2 x1).bind fun r2 =>
      if r2.2.2.2 < 0 then none else (spec_l1Cur_few.l0 n K k r2.1 r2.2.1 r2.2.2.1 x1 (bitOr .i64 x5 (shL .i64 1 r2.2.2.2)) (IntKind.wrap .i64 (x6 - (1 : Int))))
    else
      K x0_0 x0_1 x0_2 x5
def spec_l1Cur_few.F (n : Nat) (x0_0 : List (Int)) (x0_1 : Int) (x0_2 : Int) (x1 : Int) : Option ((List (Int)) × Int × Int × Int) :=
  (spec_l1Cur_among.F n x0_0 x0_1 x0_2 ([(0 : Int), (1 : Int), (1 : Int), (1 : Int), (2 : Int)] : List (Int))).bind fun r1 =>
  spec_l1Cur_few.l0 n (fun y3 y4 y5 y6 =>
    some (y3, y4, y5, y6)) n r1.1 r1.2.1 r1.2.2.1 x1 (0 : Int) r1.2.2.2

/-- loop.example/g01158/spec.l1Least -/
def spec_l1Least.F (n : Nat) (x0 : Int) (x1 : Int) : Option (Int) :=
  if (decide (x0 < x1)) = true then
    some x0
  else
    some x1

/-- loop.example/g01158/spec.l1Most -/
def spec_l1Most.F (n : Nat) (x0 : Int) (x1 : Int) : Option (Int) :=
  if (decide (x0 > x1)) = true then
    some x0
  else
    some x1

/-- loop.example/g01158/spec.l2Before -/
def spec_l2Before.F (n : Nat) (x0_0 : Int) (x0_1 : Int) (x0_2 : Int) (x1_0 : Int) (x1_1 : Int) (x1_2 : Int) : Option (Bool) :=
  if (!decide (x0_0 = x1_0)) = true then
    some (decide (x0_0 < x1_0))
  else
    if (!decide (x0_1 = x1_1)) = true then
      some (decide (x0_1 < x1_1))
    else
      if (!decide (x0_2 = x1_2)) = true then
        some (decide (x0_2 < x1_2))
      else
        some false

/-- loop.example/g01158/spec.l2Put -/
def spec_l2Put.l0 (n : Nat) (K : (List (Int × Int × Int)) → Int → Int → Int → Int → Option ((List (Int × Int × Int)))) : Nat → (List (Int × Int × Int)) → Int → Int → Int → Int → Option ((List (Int × Int × Int)))
  | 0, _, _, _, _, _ => none
  | k + 1, x0, x9_0, x9_1, x9_2, x10 =>
    if (decide (x10 < (x0.length : Int))) = true then
      if 0 ≤ x10 ∧ x10 < (x0.length : Int) then ((spec_l2Before.F n ((x0.getD x10.toNat ((0 : Int), (0 : Int), (0 : Int))).1) ((x0.getD x10.toNat ((0 : Int), (0 : Int), (0 : Int))).2.1) ((x0.getD x10.toNat ((0 : Int), (0 : Int), (0 : Int))).2.2) x9_0 x9_1 x9_2).bind fun r3 =>
      if r3 = true then
        spec_l2Put.l0 n K k x0 x9_0 x9_1 x9_2 (IntKind.wrap .i64 (x10 + (1 : Int)))
      else
        K x0 x9_0 x9_1 x9_2 x10) else none
    else
      K x0 x9_0 x9_1 x9_2 x10
def spec_l2Put.F (n : Nat) (x0 : List (Int × Int × Int)) (x1 : Int) (x2 : Int) (x3 : Int) : Option ((List (Int × Int × Int))) :=
  (spec_l1Least.F n x1 x2).bind fun r1 =>
  (spec_l1Most.F n x1 x2).bind fun r2 =>
  spec_l2Put.l0 n (fun y4 y5 y6 y7 y8 =>
    if (decide (y8 < (y4.length : Int))) = true then
      if 0 ≤ y8 ∧ y8 < (y4.length : Int) then (if (decide (((y4.getD y8.toNat ((0 : Int), (0 : Int), (0 : Int))).1) = y5) && (decide (((y4.getD y8.toNat ((0 : Int), (0 : Int), (0 : Int))).2.1) = y6) && (decide (((y4.getD y8.toNat ((0 : Int), (0 : Int), (0 : Int))).2.2) = y7) && true))) = true then
        some y4
      else
        if 0 ≤ y8 ∧ y8 ≤ (y4.length : Int) then (if ([] : List (Int × Int × Int)).length + (y4.take y8.toNat).length ≤ 4398046511104 then (if (([] : List (Int × Int × Int)) ++ (y4.take y8.toNat)).length + ([(y5, y6, y7)] : List (Int × Int × Int)).length ≤ 4398046511104 then (if 0 ≤ y8 ∧ y8 ≤ (y4.length : Int) then (if ((([] : List (Int × Int × Int)) ++ (y4.take y8.toNat)) ++ ([(y5, y6, y7)] : List (Int × Int × Int))).length + (y4.drop y8.toNat).length ≤ 4398046511104 then (some (((([] : List (Int × Int × Int)) ++ (y4.take y8.toNat)) ++ ([(y5, y6, y7)] : List (Int × Int × Int))) ++ (y4.drop y8.toNat))) else none) else none) else none) else none) else none) else none
    else
      if 0 ≤ y8 ∧ y8 ≤ (y4.length : Int) then (if ([] : List (Int × Int × Int)).length + (y4.take y8.toNat).length ≤ 4398046511104 then (if (([] : List (Int × Int × Int)) ++ (y4.take y8.toNat)).length + ([(y5, y6, y7)] : List (Int × Int × Int)).length ≤ 4398046511104 then (if 0 ≤ y8 ∧ y8 ≤ (y4.length : Int) then (if ((([] : List (Int × Int × Int)) ++ (y4.take y8.toNat)) ++ ([(y5, y6, y7)] : List (Int × Int × Int))).length + (y4.drop y8.toNat).length ≤ 4398046511104 then (some (((([] : List (Int × Int × Int)) ++ (y4.take y8.toNat)) ++ ([(y5, y6, y7)] : List (Int × Int × Int))) ++ (y4.drop y8.toNat))) else none) else none) else none) else none) else none) n x0 r1 r2 x3 (0 : Int)

/-- (*loop.example/g01158/spec.l1Cur).someMaze -/
def spec_l1Cur_someMaze.l2 (n : Nat) (K : (List (Int)) → Int → Int → Int → (List (Int × Int × Int)) → (List (Int)) → Int → (List (Int × Int × Int)) → (List (Int)) → Option ((List (Int)) × Int × Int × Int × (List (Int × Int × Int)) × (List (Int)))) : Nat → (List (Int)) → Int → Int → Int → Int → (List (Int × Int × Int)) → (List (Int)) → Int → (List (Int × Int × Int)) → (List (Int)) → Int → Int → Option ((List (Int)) × Int × Int × Int × (List (Int × Int × Int)) × (List (Int)))
  | 0, _, _, _, _, _, _, _, _, _, _, _, _ => none
  | k + 1, x0_0, x0_1, x0_2, x1, x4_0, x4_1, x4_2, x5_0, x5_1, x5_2, x6, x11 =>
    if (decide (x11 > (0 : Int))) = true then
      if (decide (x1 > (1 : Int))) = true then
        if (decide (x1 < (13 : Int))) = true then
          (spec_l1Cur_pick.F n x0_0 x0_1 x0_2 x1).bind fun r28 =>
          (spec_l1Cur_pick.F n r28.1 r28.2.1 r28.2.2.1 x1).bind fun r29 =>
          if (!decide (r28.2.2.2 = r29.2.2.2)) = true then
            (spec_l1Cur_few.F n r29.1 r29.2.1 r29.2.2.1 x6).bind fun r30 =>
            (spec_l2Put.F n x5_1 r28.2.2.2 r29.2.2.2 r30.2.2.2).bind fun r31 =>
            spec_l1Cur_someMaze.l2 n K k r30.1 r30.2.1 r30.2.2.1 x1 x4_0 x4_1 x4_2 x5_0 r31 x5_2 x6 (IntKind.wrap .i64 (x11 - (1 : Int)))
          else
            spec_l1Cur_someMaze.l2 n K k r29.1 r29.2.1 r29.2.2.1 x1 x4_0 x4_1 x4_2 x5_0 x5_1 x5_2 x6 (IntKind.wrap .i64 (x11 - (1 : Int)))
        else
          K x0_0 x0_1 x0_2 x4_0 x4_1 x4_2 x5_0 x5_1 x5_2
      else
        K x0_0 x0_1 x0_2 x4_0 x4_1 x4_2 x5_0 x5_1 x5_2
    else
      K x0_0 x0_1 x0_2 x4_0 x4_1 x4_2 x5_0 x5_1 x5_2
def spec_l1Cur_someMaze.l0 (n : Nat) (K : (List (Int)) → Int → Int → Int → Int → (List (Int × Int × Int)) → (List (Int)) → Int → (List (Int × Int × Int)) → (List (Int)) → Int → Option ((List (Int)) × Int × Int × Int × (List (Int × Int × Int)) × (List (Int)))) : Nat → (List (Int)) → Int → Int → Int → Int → (List (Int × Int × Int)) → (List (Int)) → Int → (List (Int × Int × Int)) → (List (Int)) → Int → Int → Int → Option ((List (Int)) × Int × Int × Int × (List (Int × Int × Int)) × (List (Int)))
  | 0, _, _, _, _, _, _, _, _, _, _, _, _, _ => none
  | k + 1, x0_0, x0_1, x0_2, x1, x4_0, x4_1, x4_2, x5_0, x5_1, x5_2, x6, x7, x8 =>
    let j6 : (List (Int)) → (Int) → (Int) → (Int) → (Int) → (List (Int × Int × Int)) → (List (Int)) → (Int) → (List (Int × Int × Int)) → (List (Int)) → (Int) → (Int) → (Int) → Option ((List (Int)) × Int × Int × Int × (List (Int × Int × Int)) × (List (Int))) := fun j6_x0_0 j6_x0_1 j6_x0_2 j6_x1 j6_x4_0 j6_x4_1 j6_x4_2 j6_x5_0 j6_x5_1 j6_x5_2 j6_x6 j6_x7 j6_x8 =>
      (spec_l1Cur_one.F n j6_x0_0 j6_x0_1 j6_x0_2 (2 : Int)).bind fun r2 =>
      if r2.2.2.2 = true then
        (spec_l1Cur_pick.F n r2.1 r2.2.1 r2.2.2.1 j6_x6).bind fun r3 =>
        if r3.2.2.2 < 0 then none else (if j6_x5_2.length + ([shL .i64 1 r3.2.2.2] : List (Int)).length ≤ 4398046511104 then (if (decide (j6_x8 > (0 : Int))) = true then
          (spec_l1Cur_few.F n r3.1 r3.2.1 r3.2.2.1 j6_x6).bind fun r4 =>
          (spec_l1Cur_one.F n r4.1 r4.2.1 r4.2.2.1 (3 : Int)).bind fun r5 =>
          if (!r5.2.2.2) = true then
            (spec_l1Cur_pick.F n r5.1 r5.2.1 r5.2.2.1 j6_x8).bind fun r6 =>
            (spec_l2Put.F n j6_x5_1 r6.2.2.2 j6_x8 (bitAnd .i64 r4.2.2.2 j6_x7)).bind fun r7 =>
            spec_l1Cur_someMaze.l0 n K k r6.1 r6.2.1 r6.2.2.1 j6_x1 j6_x4_0 j6_x4_1 j6_x4_2 j6_x5_0 r7 (j6_x5_2 ++ ([shL .i64 1 r3.2.2.2] : List (Int))) j6_x6 (bitOr .i64 j6_x7 (shL .i64 1 r3.2.2.2)) (IntKind.wrap .i64 (j6_x8 + (1 : Int)))
          else
            (spec_l1Cur_pick.F n r5.1 r5.2.1 r5.2.2.1 j6_x8).bind fun r8 =>
            (spec_l2Put.F n j6_x5_1 r8.2.2.2 j6_x8 r4.2.2.2).bind fun r9 =>
            spec_l1Cur_someMaze.l0 n K k r8.1 r8.2.1 r8.2.2.1 j6_x1 j6_x4_0 j6_x4_1 j6_x4_2 j6_x5_0 r9 (j6_x5_2 ++ ([shL .i64 1 r3.2.2.2] : List (Int))) j6_x6 (bitOr .i64 j6_x7 (shL .i64 1 r3.2.2.2)) (IntKind.wrap .i64 (j6_x8 + (1 : Int)))
        else
          spec_l1Cur_someMaze.l0 n K k r3.1 r3.2.1 r3.2.2.1 j6_x1 j6_x4_0 j6_x4_1 j6_x4_2 j6_x5_0 j6_x5_1 (j6_x5_2 ++ ([shL .i64 1 r3.2.2.2] : List (Int))) j6_x6 (bitOr .i64 j6_x7 (shL .i64 1 r3.2.2.2)) (IntKind.wrap .i64 (j6_x8 + (1 : Int)))) else none)
      else
        if j6_x5_2.length + ([(0 : Int)] : List (Int)).length ≤ 4398046511104 then (if (decide (j6_x8 > (0 : Int))) = true then
          (spec_l1Cur_few.F n r2.1 r2.2.1 r2.2.2.1 j6_x6).bind fun r10 =>
          (spec_l1Cur_one.F n r10.1 r10.2.1 r10.2.2.1 (3 : Int)).bind fun r11 =>
          if (!r11.2.2.2) = true then
            (spec_l1Cur_pick.F n r11.1 r11.2.1 r11.2.2.1 j6_x8).bind fun r12 =>
            (spec_l2Put.F n j6_x5_1 r12.2.2.2 j6_x8 (bitAnd .i64 r10.2.2.2 j6_x7)).bind fun r13 =>
            spec_l1Cur_someMaze.l0 n K k r12.1 r12.2.1 r12.2.2.1 j6_x1 j6_x4_0 j6_x4_1 j6_x4_2 j6_x5_0 r13 (j6_x5_2 ++ ([(0 : Int)] : List (Int))) j6_x6 (bitOr .i64 j6_x7 0) (IntKind.wrap .i64 (j6_x8 + (1 : Int)))
          else
            (spec_l1Cur_pick.F n r11.1 r11.2.1 r11.2.2.1 j6_x8).bind fun r14 =>
            (spec_l2Put.F n j6_x5_1 r14.2.2.2 j6_x8 r10.2.2.2).bind fun r15 =>
            spec_l1Cur_someMaze.l0 n K k r14.1 r14.2.1 r14.2.2.1 j6_x1 j6_x4_0 j6_x4_1 j6_x4_2 j6_x5_0 r15 (j6_x5_2 ++ ([(0 : Int)] : List (Int))) j6_x6 (bitOr .i64 j6_x7 0) (IntKind.wrap .i64 (j6_x8 + (1 : Int)))
        else
          spec_l1Cur_someMaze.l0 n K k r2.1 r2.2.1 r2.2.2.1 j6_x1 j6_x4_0 j6_x4_1 j6_x4_2 j6_x5_0 j6_x5_1 (j6_x5_2 ++ ([(0 : Int)] : List (Int))) j6_x6 (bitOr .i64 j6_x7 0) (IntKind.wrap .i64 (j6_x8 + (1 : Int)))) else none
    if (decide (x8 < x1)) = true then
      if (decide (x8 < (13 : Int))) = true then
        j6 x0_0 x0_1 x0_2 x1 x4_0 x4_1 x4_2 x5_0 x5_1 x5_2 x6 x7 x8
      else
        K x0_0 x0_1 x0_2 x1 x4_0 x4_1 x4_2 x5_0 x5_1 x5_2 x6
    else
      K x0_0 x0_1 x0_2 x1 x4_0 x4_1 x4_2 x5_0 x5_1 x5_2 x6
def spec_l1Cur_someMaze.c22 (n : Nat) (x0_0 : List (Int)) (x0_1 : Int) (x0_2 : Int) (x4_0 : Int) (x4_1 : List (Int × Int × Int)) (x4_2 : List (Int)) (x5_0 : Int) (x5_1 : List (Int × Int × Int)) (x5_2 : List (Int)) : Option ((List (Int)) × Int × Int × Int × (List (Int × Int × Int)) × (List (Int))) :=
  (spec_l1Cur_pick.F n x0_0 x0_1 x0_2 (60 : Int)).bind fun r41 =>
  if (decide (r41.2.2.2 = (0 : Int))) = true then
    (spec_l1Cur_among.F n r41.1 r41.2.1 r41.2.2.1 ([(0 : Int), (13 : Int), IntKind.wrap .i64 (x5_0 + (1 : Int))] : List (Int))).bind fun r42 =>
    some (r42.1, r42.2.1, r42.2.2.1, r42.2.2.2, x5_1, x5_2)
  else
    if (decide (r41.2.2.2 = (1 : Int))) = true then
      if (decide ((x5_1.length : Int) > (0 : Int))) = true then
        (spec_l1Cur_pick.F n r41.1 r41.2.1 r41.2.2.1 (x5_1.length : Int)).bind fun r43 =>
        if 0 ≤ r43.2.2.2 ∧ r43.2.2.2 < (x5_1.length : Int) then (if 0 ≤ r43.2.2.2 ∧ r43.2.2.2 < (x5_1.length : Int) then (if 0 ≤ r43.2.2.2 ∧ r43.2.2.2 < (x5_1.length : Int) then (some (r43.1, r43.2.1, r43.2.2.1, x5_0, x5_1.set r43.2.2.2.toNat ((x5_1.getD r43.2.2.2.toNat ((0 : Int), (0 : Int), (0 : Int))).2.1, (x5_1.getD r43.2.2.2.toNat ((0 : Int), (0 : Int), (0 : Int))).1, (0 : Int)), x5_2)) else none) else none) else none
      else
        some (r41.1, r41.2.1, r41.2.2.1, x5_0, x5_1, x5_2)
    else
      if (decide (r41.2.2.2 = (2 : Int))) = true then
        if (decide ((x5_2.length : Int) > (0 : Int))) = true then
          (spec_l1Cur_pick.F n r41.1 r41.2.1 r41.2.2.1 (x5_2.length : Int)).bind fun r44 =>
          (spec_l1Cur_among.F n r44.1 r44.2.1 r44.2.2.1 ([(64 : Int), (-1 : Int), (63 : Int)] : List (Int))).bind fun r45 =>
          if 0 ≤ r44.2.2.2 ∧ r44.2.2.2 < (x5_2.length : Int) then (some (r45.1, r45.2.1, r45.2.2.1, x5_0, x5_1, x5_2.set r44.2.2.2.toNat r45.2.2.2)) else none
        else
          some (r41.1, r41.2.1, r41.2.2.1, x5_0, x5_1, x5_2)
      else
        if (decide (r41.2.2.2 = (3 : Int))) = true then
          if (decide ((x5_1.length : Int) > (0 : Int))) = true then
            if 0 ≤ (0 : Int) ∧ (0 : Int) < (x5_1.length : Int) then (if x5_1.length + ([(x5_1.getD 0 ((0 : Int), (0 : Int), (0 : Int)))] : List (Int × Int × Int)).length ≤ 4398046511104 then (some (r41.1, r41.2.1, r41.2.2.1, x5_0, x5_1 ++ ([(x5_1.getD 0 ((0 : Int), (0 : Int), (0 : Int)))] : List (Int × Int × Int)), x5_2)) else none) else none
          else
            some (r41.1, r41.2.1, r41.2.2.1, x5_0, x5_1, x5_2)
        else
          if (decide (r41.2.2.2 = (4 : Int))) = true then
            some (r41.1, r41.2.1, r41.2.2.1, (0 : Int), ([] : List (Int × Int × Int)), ([] : List (Int)))
          else
            some (r41.1, r41.2.1, r41.2.2.1, x5_0, x5_1, x5_2)
def spec_l1Cur_someMaze.c16 (n : Nat) (x0_0 : List (Int)) (x0_1 : Int) (x0_2 : Int) (x1 : Int) (x4_0 : Int) (x4_1 : List (Int × Int × Int)) (x4_2 : List (Int)) (x5_0 : Int) (x5_1 : List (Int × Int × Int)) (x5_2 : List (Int)) (x6 : Int) : Option ((List (Int)) × Int × Int × Int × (List (Int × Int × Int)) × (List (Int))) :=
  (spec_l1Cur_pick.F n x0_0 x0_1 x0_2 (6 : Int)).bind fun r27 =>
  spec_l1Cur_someMaze.l2 n (fun y32 y33 y34 y35 y36 y37 y38 y39 y40 =>
    spec_l1Cur_someMaze.c22 n y32 y33 y34 y35 y36 y37 y38 y39 y40) n r27.1 r27.2.1 r27.2.2.1 x1 x4_0 x4_1 x4_2 x5_0 x5_1 x5_2 x6 r27.2.2.2
def spec_l1Cur_someMaze.F (n : Nat) (x0_0 : List (Int)) (x0_1 : Int) (x0_2 : Int) (x1 : Int) : Option ((List (Int)) × Int × Int × Int × (List (Int × Int × Int)) × (List (Int))) :=
  (spec_l1Cur_pick.F n x0_0 x0_1 x0_2 (6 : Int)).bind fun r1 =>
  spec_l1Cur_someMaze.l0 n (fun y16 y17 y18 y19 y20 y21 y22 y23 y24 y25 y26 =>
    spec_l1Cur_someMaze.c16 n y16 y17 y18 y19 y20 y21 y22 y23 y24 y25 y26) n r1.1 r1.2.1 r1.2.2.1 x1 (0 : Int) ([] : List (Int × Int × Int)) ([] : List (Int)) x1 ([] : List (Int × Int × Int)) ([] : List (Int)) (IntKind.wrap .i64 ((1 : Int) + r1.2.2.2)) (0 : Int) (0 : Int)

/-- (*loop.example/g01158/spec.l1Cur).maze -/
def spec_l1Cur_maze.F (n : Nat) (x0_0 : List (Int)) (x0_1 : Int) (x0_2 : Int) : Option ((List (Int)) × Int × Int × Int × (List (Int × Int × Int)) × (List (Int))) :=
  (spec_l1Cur_among.F n x0_0 x0_1 x0_2 ([(5 : Int), (6 : Int), (4 : Int), (7 : Int), (3 : Int), (8 : Int), (2 : Int), (10 : Int), (1 : Int), (12 : Int)] : List (Int))).bind fun r1 =>
  (spec_l1Cur_someMaze.F n r1.1 r1.2.1 r1.2.2.1 r1.2.2.2).bind fun r2 =>
  some (r2.1, r2.2.1, r2.2.2.1, r2.2.2.2.1, r2.2.2.2.2.1, r2.2.2.2.2.2)

/-- (*loop.example/g01158/spec.l1Cur).nodeOf -/
def spec_l1Cur_nodeOf.F (n : Nat) (x0_0 : List (Int)) (x0_1 : Int) (x0_2 : Int) (x1_0 : Int) (x1_1 : List (Int × Int × Int)) (x1_2 : List (Int)) : Option ((List (Int)) × Int × Int × Int) :=
  (spec_l1Cur_one.F n x0_0 x0_1 x0_2 (30 : Int)).bind fun r1 =>
  if r1.2.2.2 = true then
    (spec_l1Cur_among.F n r1.1 r1.2.1 r1.2.2.1 ([(-1 : Int), (0 : Int), x1_0, (4611686018427387904 : Int)] : List (Int))).bind fun r2 =>
    some (r2.1, r2.2.1, r2.2.2.1, r2.2.2.2)
  else
    (spec_l1Least.F n x1_0 (12 : Int)).bind fun r3 =>
    (spec_l1Most.F n r3 (1 : Int)).bind fun r4 =>
    (spec_l1Cur_pick.F n r1.1 r1.2.1 r1.2.2.1 r4).bind fun r5 =>
    some (r5.1, r5.2.1, r5.2.2.1, r5.2.2.2)

/-- loop.example/g01158/spec.l1In -/
def spec_l1In.F (n : Nat) (x0 : Int) (x1 : Int) (x2 : Int) : Option (Bool) :=
  if (decide (x0 ≥ x1)) = true then
    some (decide (x0 ≤ x2))
  else
    some false

/-- loop.example/g01158/spec.l2Set -/
def spec_l2Set.F (n : Nat) (x0 : Int) : Option (Bool) :=
  (spec_l1In.F n x0 (0 : Int) (63 : Int)).bind fun r1 =>
  some r1

/-- loop.example/g01158/spec.l2Maze -/
def spec_l2Maze.l0 (n : Nat) (K : Int → (List (Int × Int × Int)) → (List (Int)) → Option (Bool)) : Nat → Int → (List (Int × Int × Int)) → (List (Int)) → Int → Option (Bool)
  | 0, _, _, _, _ => none
  | k + 1, x1_0, x1_1, x1_2, x3 =>
    if (decide (x3 < (x1_1.length : Int))) = true then
      if 0 ≤ x3 ∧ x3 < (x1_1.length : Int) then ((spec_l1In.F n ((x1_1.getD x3.toNat ((0 : Int), (0 : Int), (0 : Int))).1) (0 : Int) (IntKind.wrap .i64 (x1_0 - (1 : Int)))).bind fun r2 =>
      if (!r2) = true then
        some false
      else
        (spec_l1In.F n ((x1_1.getD x3.toNat ((0 : Int), (0 : Int), (0 : Int))).2.1) (IntKind.wrap .i64 (((x1_1.getD x3.toNat ((0 : Int), (0 : Int), (0 : Int))).1) + (1 : Int))) (IntKind.wrap .i64 (x1_0 - (1 : Int)))).bind fun r3 =>
        if (!r3) = true then
          some false
        else
          (spec_l2Set.F n ((x1_1.getD x3.toNat ((0 : Int), (0 : Int), (0 : Int))).2.2)).bind fun r4 =>
          if (!r4) = true then
            some false
          else
            if (decide (x3 > (0 : Int))) = true then
              if 0 ≤ (IntKind.wrap .i64 (x3 - (1 : Int))) ∧ (IntKind.wrap .i64 (x3 - (1 : Int))) < (x1_1.length : Int) then ((spec_l2Before.F n ((x1_1.getD ((IntKind.wrap .i64 (x3 - (1 : Int))).toNat) ((0 : Int), (0 : Int), (0 : Int))).1) ((x1_1.getD ((IntKind.wrap .i64 (x3 - (1 : Int))).toNat) ((0 : Int), (0 : Int), (0 : Int))).2.1) ((x1_1.getD ((IntKind.wrap .i64 (x3 - (1 : Int))).toNat) ((0 : Int), (0 : Int), (0 : Int))).2.2) ((x1_1.getD x3.toNat ((0 : Int), (0 : Int), (0 : Int))).1) ((x1_1.getD x3.toNat ((0 : Int), (0 : Int), (0 : Int))).2.1) ((x1_1.getD x3.toNat ((0 : Int), (0 : Int), (0 : Int))).2.2)).bind fun r5 =>
              if (!r5) = true then
                some false
              else
                spec_l2Maze.l0 n K k x1_0 x1_1 x1_2 (IntKind.wrap .i64 (x3 + (1 : Int)))) else none
            else
              spec_l2Maze.l0 n K k x1_0 x1_1 x1_2 (IntKind.wrap .i64 (x3 + (1 : Int)))) else none
    else
      K x1_0 x1_1 x1_2
def spec_l2Maze.l2 (n : Nat) (K : Unit → Option (Bool)) : Nat → Int → (List (Int × Int × Int)) → (List (Int)) → Int → Option (Bool)
  | 0, _, _, _, _ => none
  | k + 1, x1_0, x1_1, x1_2, x5 =>
    if (decide (x5 < x1_0)) = true then
      if 0 ≤ x5 ∧ x5 < (x1_2.length : Int) then ((spec_l2Set.F n (x1_2.getD x5.toNat (0 : Int))).bind fun r9 =>
      if (!r9) = true then
        some false
      else
        spec_l2Maze.l2 n K k x1_0 x1_1 x1_2 (IntKind.wrap .i64 (x5 + (1 : Int)))) else none
    else
      K ()
def spec_l2Maze.F (n : Nat) (x0_0 : Int) (x0_1 : List (Int × Int × Int)) (x0_2 : List (Int)) : Option (Bool) :=
  let j3 : (Int) → (List (Int × Int × Int)) → (List (Int)) → Option (Bool) := fun j3_x1_0 j3_x1_1 j3_x1_2 =>
    spec_l2Maze.l0 n (fun y6 y7 y8 =>
      spec_l2Maze.l2 n (fun _ =>
        some true) n y6 y7 y8 (0 : Int)) n j3_x1_0 j3_x1_1 j3_x1_2 (0 : Int)
  (spec_l1In.F n x0_0 (1 : Int) (12 : Int)).bind fun r1 =>
  if (!r1) = true then
    some false
  else
    if (decide ((x0_1.length : Int) > (30 : Int))) = true then
      some false
    else
      if (!decide ((x0_2.length : Int) = x0_0)) = true then
        some false
      else
        j3 x0_0 x0_1 x0_2

/-- (*loop.example/g01158/spec.l1Cur).colours -/
def spec_l1Cur_colours.l0 (n : Nat) (K : (List (Int)) → Int → Int → Int → Option ((List (Int)) × Int × Int × Int)) : Nat → (List (Int)) → Int → Int → Int → Int → Option ((List (Int)) × Int × Int × Int)
  | 0, _, _, _, _, _ => none
  | k + 1, x0_0, x0_1, x0_2, x3, x4 =>
    if (decide (x4 > (0 : Int))) = true then
      (spec_l1Cur_pick.F n x0_0 x0_1 x0_2 (6 : Int)).bind fun r4 =>
      if r4.2.2.2 < 0 then none else (spec_l1Cur_colours.l0 n K k r4.1 r4.2.1 r4.2.2.1 (bitOr .i64 x3 (shL .i64 1 r4.2.2.2)) (IntKind.wrap .i64 (x4 - (1 : Int))))
    else
      K x0_0 x0_1 x0_2 x3
def spec_l1Cur_colours.F (n : Nat) (x0_0 : List (Int)) (x0_1 : Int) (x0_2 : Int) : Option ((List (Int)) × Int × Int × Int) :=
  (spec_l1Cur_one.F n x0_0 x0_1 x0_2 (30 : Int)).bind fun r1 =>
  if r1.2.2.2 = true then
    (spec_l1Cur_among.F n r1.1 r1.2.1 r1.2.2.1 ([(63 : Int), (64 : Int), (-1 : Int), (4611686018427387904 : Int)] : List (Int))).bind fun r2 =>
    some (r2.1, r2.2.1, r2.2.2.1, r2.2.2.2)
  else
    (spec_l1Cur_pick.F n r1.1 r1.2.1 r1.2.2.1 (4 : Int)).bind fun r3 =>
    spec_l1Cur_colours.l0 n (fun y5 y6 y7 y8 =>
      some (y5, y6, y7, y8)) n r3.1 r3.2.1 r3.2.2.1 (0 : Int) r3.2.2.2

/-- loop.example/g01158/spec.DrawIsOpenTo -/
def spec_DrawIsOpenTo.F (n : Nat) (x0 : List (Int)) : Option (Int × (List (Int × Int × Int)) × (List (Int)) × Int × Int × Int) :=
  (spec_l1Cur_maze.F n x0 (0 : Int) (0 : Int)).bind fun r1 =>
  (spec_l1Cur_nodeOf.F n r1.1 r1.2.1 r1.2.2.1 r1.2.2.2.1 r1.2.2.2.2.1 r1.2.2.2.2.2).bind fun r2 =>
  (spec_l1Cur_nodeOf.F n r2.1 r2.2.1 r2.2.2.1 r1.2.2.2.1 r1.2.2.2.2.1 r1.2.2.2.2.2).bind fun r3 =>
  (spec_l2Maze.F n r1.2.2.2.1 r1.2.2.2.2.1 r1.2.2.2.2.2).bind fun r4 =>
  if r4 = true then
    if (decide ((r1.2.2.2.2.1.length : Int) > (0 : Int))) = true then
      (spec_l1Cur_one.F n r3.1 r3.2.1 r3.2.2.1 (3 : Int)).bind fun r5 =>
      if (!r5.2.2.2) = true then
        (spec_l1Cur_pick.F n r5.1 r5.2.1 r5.2.2.1 (r1.2.2.2.2.1.length : Int)).bind fun r6 =>
        if 0 ≤ r6.2.2.2 ∧ r6.2.2.2 < (r1.2.2.2.2.1.length : Int) then ((spec_l1Cur_colours.F n r6.1 r6.2.1 r6.2.2.1).bind fun r7 =>
        some (r1.2.2.2.1, r1.2.2.2.2.1, r1.2.2.2.2.2, (r1.2.2.2.2.1.getD r6.2.2.2.toNat ((0 : Int), (0 : Int), (0 : Int))).2.1, (r1.2.2.2.2.1.getD r6.2.2.2.toNat ((0 : Int), (0 : Int), (0 : Int))).1, r7.2.2.2)) else none
      else
        (spec_l1Cur_colours.F n r5.1 r5.2.1 r5.2.2.1).bind fun r8 =>
        some (r1.2.2.2.1, r1.2.2.2.2.1, r1.2.2.2.2.2, r2.2.2.2, r3.2.2.2, r8.2.2.2)
    else
      (spec_l1Cur_colours.F n r3.1 r3.2.1 r3.2.2.1).bind fun r9 =>
      some (r1.2.2.2.1, r1.2.2.2.2.1, r1.2.2.2.2.2, r2.2.2.2, r3.2.2.2, r9.2.2.2)
  else
    (spec_l1Cur_colours.F n r3.1 r3.2.1 r3.2.2.1).bind fun r10 =>
    some (r1.2.2.2.1, r1.2.2.2.2.1, r1.2.2.2.2.2, r2.2.2.2, r3.2.2.2, r10.2.2.2)

/-- loop.example/g01158/impl.within -/
def impl_within.F (n : Nat) (x0 : Int) (x1 : Int) (x2 : Int) : Option (Bool) :=
  if (decide (x1 ≤ x0)) = true then
    some (decide (x0 ≤ x2))
  else
    some false

/-- loop.example/g01158/impl.isSet -/
def impl_isSet.F (n : Nat) (x0 : Int) : Option (Bool) :=
  (impl_within.F n x0 (0 : Int) (63 : Int)).bind fun r1 =>
  some r1

/-- cmp.isNaN[int] -/
def cmp_isNaN_int.F (n : Nat) (x0 : Int) : Option (Bool) :=
  some (!decide (x0 = x0))

/-- cmp.Compare[int] -/
def cmp_Compare_int.F (n : Nat) (x0 : Int) (x1 : Int) : Option (Int) :=
  (cmp_isNaN_int.F n x0).bind fun r1 =>
  (cmp_isNaN_int.F n x1).bind fun r2 =>
  if r1 = true then
    if r2 = true then
      some (0 : Int)
    else
      some (-1 : Int)
  else
    if r2 = true then
      some (1 : Int)
    else
      if (decide (x0 < x1)) = true then
        some (-1 : Int)
      else
        if (decide (x0 > x1)) = true then
          some (1 : Int)
        else
          some (0 : Int)

/-- cmp.Or[int] -/
def cmp_Or_int.l0 (n : Nat) (K : Int → Option (Int)) : Nat → Int → (List (Int)) → Int → Int → Option (Int)
  | 0, _, _, _, _ => none
  | k + 1, x3, x6, x7, x8 =>
    if (decide (x8 < x7)) = true then
      if 0 ≤ x8 ∧ x8 < (x6.length : Int) then (if (!decide ((x6.getD x8.toNat (0 : Int)) = x3)) = true then
        some (x6.getD x8.toNat (0 : Int))
      else
        cmp_Or_int.l0 n K k x3 x6 x7 (IntKind.wrap .i64 (x8 + (1 : Int)))) else none
    else
      K x3
def cmp_Or_int.F (n : Nat) (x0 : List (Int)) : Option (Int) :=
  cmp_Or_int.l0 n (fun y1 =>
    some y1) n (0 : Int) x0 (x0.length : Int) (0 : Int)

/-- loop.example/g01158/impl.compareDoors -/
def impl_compareDoors.F (n : Nat) (x0_0 : Int) (x0_1 : Int) (x0_2 : Int) (x1_0 : Int) (x1_1 : Int) (x1_2 : Int) : Option (Int) :=
  (cmp_Compare_int.F n x0_0 x1_0).bind fun r1 =>
  (cmp_Compare_int.F n x0_1 x1_1).bind fun r2 =>
  (cmp_Compare_int.F n x0_2 x1_2).bind fun r3 =>
  (cmp_Or_int.F n ([r1, r2, r3] : List (Int))).bind fun r4 =>
  some r4

/-- loop.example/g01158/impl.IsMaze$1 -/
def impl_IsMaze_1.F (n : Nat) (x0 : Int) : Option (Bool) :=
  (impl_isSet.F n x0).bind fun r1 =>
  some (!r1)

/-- slices.IndexFunc[[]int,int] -/
def slices_IndexFunc_int_int_cIsMaze_1.l0 (n : Nat) (K : Unit → Option (Int)) : Nat → (List (Int)) → Int → Int → Option (Int)
  | 0, _, _, _ => none
  | k + 1, x0, x7, x8 =>
    if (decide (x8 < x7)) = true then
      if 0 ≤ x8 ∧ x8 < (x0.length : Int) then ((impl_IsMaze_1.F n (x0.getD x8.toNat (0 : Int))).bind fun r1 =>
      if r1 = true then
        some x8
      else
        slices_IndexFunc_int_int_cIsMaze_1.l0 n K k x0 x7 (IntKind.wrap .i64 (x8 + (1 : Int)))) else none
    else
      K ()
def slices_IndexFunc_int_int_cIsMaze_1.F (n : Nat) (x0 : List (Int)) : Option (Int) :=
  slices_IndexFunc_int_int_cIsMaze_1.l0 n (fun _ =>
    some (-1 : Int)) n x0 (x0.length : Int) (0 : Int)

/-- slices.ContainsFunc[[]int,int] -/
def slices_ContainsFunc_int_int_cIsMaze_1.F (n : Nat) (x0 : List (Int)) : Option (Bool) :=
  (slices_IndexFunc_int_int_cIsMaze_1.F n x0).bind fun r1 =>
  some (decide (r1 ≥ (0 : Int)))

/-- loop.example/g01158/impl.IsMaze -/
def impl_IsMaze.l0 (n : Nat) (K : Int → (List (Int × Int × Int)) → (List (Int)) → Option (Bool)) : Nat → Int → (List (Int × Int × Int)) → (List (Int)) → Int → Int → Option (Bool)
  | 0, _, _, _, _, _ => none
  | k + 1, x1_0, x1_1, x1_2, x25, x26 =>
    if (decide (x26 < x25)) = true then
      if 0 ≤ x26 ∧ x26 < (x1_1.length : Int) then (if (decide (((x1_1.getD x26.toNat ((0 : Int), (0 : Int), (0 : Int))).1) < (0 : Int))) = true then
        some false
      else
        if (decide (((x1_1.getD x26.toNat ((0 : Int), (0 : Int), (0 : Int))).1) ≥ ((x1_1.getD x26.toNat ((0 : Int), (0 : Int), (0 : Int))).2.1))) = true then
          some false
        else
          if (decide (((x1_1.getD x26.toNat ((0 : Int), (0 : Int), (0 : Int))).2.1) ≥ x1_0)) = true then
            some false
          else
            (impl_isSet.F n ((x1_1.getD x26.toNat ((0 : Int), (0 : Int), (0 : Int))).2.2)).bind fun r2 =>
            if (!r2) = true then
              some false
            else
              if (decide (x26 > (0 : Int))) = true then
                if 0 ≤ (IntKind.wrap .i64 (x26 - (1 : Int))) ∧ (IntKind.wrap .i64 (x26 - (1 : Int))) < (x1_1.length : Int) then ((impl_compareDoors.F n ((x1_1.getD ((IntKind.wrap .i64 (x26 - (1 : Int))).toNat) ((0 : Int), (0 : Int), (0 : Int))).1) ((x1_1.getD ((IntKind.wrap .i64 (x26 - (1 : Int))).toNat) ((0 : Int), (0 : Int), (0 : Int))).2.1) ((x1_1.getD ((IntKind.wrap .i64 (x26 - (1 : Int))).toNat) ((0 : Int), (0 : Int), (0 : Int))).2.2) ((x1_1.getD x26.toNat ((0 : Int), (0 : Int), (0 : Int))).1) ((x1_1.getD x26.toNat ((0 : Int), (0 : Int), (0 : Int))).2.1) ((x1_1.getD x26.toNat ((0 : Int), (0 : Int), (0 : Int))).2.2)).bind fun r3 =>
                if (decide (r3 ≥ (0 : Int))) = true then
                  some false
                else
                  impl_IsMaze.l0 n K k x1_0 x1_1 x1_2 x25 (IntKind.wrap .i64 (x26 + (1 : Int)))) else none
              else
                impl_IsMaze.l0 n K k x1_0 x1_1 x1_2 x25 (IntKind.wrap .i64 (x26 + (1 : Int)))) else none
    else
      K x1_0 x1_1 x1_2
def impl_IsMaze.F (n : Nat) (x0_0 : Int) (x0_1 : List (Int × Int × Int)) (x0_2 : List (Int)) : Option (Bool) :=
  let j3 : (Int) → (List (Int × Int × Int)) → (List (Int)) → Option (Bool) := fun j3_x1_0 j3_x1_1 j3_x1_2 =>
    impl_IsMaze.l0 n (fun y4 y5 y6 =>
      (slices_ContainsFunc_int_int_cIsMaze_1.F n y6).bind fun r7 =>
      some (!r7)) n j3_x1_0 j3_x1_1 j3_x1_2 (j3_x1_1.length : Int) (0 : Int)
  (impl_within.F n x0_0 (1 : Int) (12 : Int)).bind fun r1 =>
  if (!r1) = true then
    some false
  else
    if (decide ((x0_1.length : Int) > (30 : Int))) = true then
      some false
    else
      if (!decide ((x0_2.length : Int) = x0_0)) = true then
        some false
      else
        j3 x0_0 x0_1 x0_2

/-- loop.example/g01158/impl.isNode$1 -/
def impl_isNode_1_c0.F (n : Nat) (x0 : Int) (x1_0 : Int) (x1_1 : List (Int × Int × Int)) (x1_2 : List (Int)) : Option (Bool) :=
  (impl_within.F n x0 (0 : Int) (IntKind.wrap .i64 (x1_0 - (1 : Int)))).bind fun r1 =>
  some (!r1)

/-- slices.IndexFunc[[]int,int] -/
def slices_IndexFunc_int_int_cisNode_1.l0 (n : Nat) (K : Unit → Option (Int)) : Nat → (List (Int)) → Int → (List (Int × Int × Int)) → (List (Int)) → Int → Int → Option (Int)
  | 0, _, _, _, _, _, _ => none
  | k + 1, x0, x1_0, x1_1, x1_2, x7, x8 =>
    if (decide (x8 < x7)) = true then
      if 0 ≤ x8 ∧ x8 < (x0.length : Int) then ((impl_isNode_1_c0.F n (x0.getD x8.toNat (0 : Int)) x1_0 x1_1 x1_2).bind fun r1 =>
      if r1 = true then
        some x8
      else
        slices_IndexFunc_int_int_cisNode_1.l0 n K k x0 x1_0 x1_1 x1_2 x7 (IntKind.wrap .i64 (x8 + (1 : Int)))) else none
    else
      K ()
def slices_IndexFunc_int_int_cisNode_1.F (n : Nat) (x0 : List (Int)) (x1_0 : Int) (x1_1 : List (Int × Int × Int)) (x1_2 : List (Int)) : Option (Int) :=
  slices_IndexFunc_int_int_cisNode_1.l0 n (fun _ =>
    some (-1 : Int)) n x0 x1_0 x1_1 x1_2 (x0.length : Int) (0 : Int)

/-- slices.ContainsFunc[[]int,int] -/
def slices_ContainsFunc_int_int_cisNode_1.F (n : Nat) (x0 : List (Int)) (x1_0 : Int) (x1_1 : List (Int × Int × Int)) (x1_2 : List (Int)) : Option (Bool) :=
  (slices_IndexFunc_int_int_cisNode_1.F n x0 x1_0 x1_1 x1_2).bind fun r1 =>
  some (decide (r1 ≥ (0 : Int)))

/-- loop.example/g01158/impl.isNode -/
def impl_isNode.F (n : Nat) (x0_0 : Int) (x0_1 : List (Int × Int × Int)) (x0_2 : List (Int)) (x1 : List (Int)) : Option (Bool) :=
  (impl_IsMaze.F n x0_0 x0_1 x0_2).bind fun r1 =>
  if r1 = true then
    (slices_ContainsFunc_int_int_cisNode_1.F n x1 x0_0 x0_1 x0_2).bind fun r2 =>
    some (!r2)
  else
    some false

/-- loop.example/g01158/impl.has -/
def impl_has.F (n : Nat) (x0 : Int) (x1 : Int) : Option (Bool) :=
  some (decide ((bitClr .i64 x1 x0) = (0 : Int)))

/-- loop.example/g01158/impl.steps -/
def impl_steps.l0 (n : Nat) (K : Int → Option (Int)) : Nat → Int → Int → Int → (List (Int × Int × Int)) → Int → Int → Option (Int)
  | 0, _, _, _, _, _, _ => none
  | k + 1, x1, x2, x7, x11, x12, x13 =>
    if (decide (x13 < x12)) = true then
      if 0 ≤ x13 ∧ x13 < (x11.length : Int) then ((impl_has.F n x2 ((x11.getD x13.toNat ((0 : Int), (0 : Int), (0 : Int))).2.2)).bind fun r1 =>
      if (!r1) = true then
        impl_steps.l0 n K k x1 x2 x7 x11 x12 (IntKind.wrap .i64 (x13 + (1 : Int)))
      else
        if (decide (((x11.getD x13.toNat ((0 : Int), (0 : Int), (0 : Int))).1) = x1)) = true then
          if ((x11.getD x13.toNat ((0 : Int), (0 : Int), (0 : Int))).2.1) < 0 then none else (if (decide (((x11.getD x13.toNat ((0 : Int), (0 : Int), (0 : Int))).2.1) = x1)) = true then
            if ((x11.getD x13.toNat ((0 : Int), (0 : Int), (0 : Int))).1) < 0 then none else (impl_steps.l0 n K k x1 x2 (bitOr .i64 (bitOr .i64 x7 (shL .i64 1 ((x11.getD x13.toNat ((0 : Int), (0 : Int), (0 : Int))).2.1))) (shL .i64 1 ((x11.getD x13.toNat ((0 : Int), (0 : Int), (0 : Int))).1))) x11 x12 (IntKind.wrap .i64 (x13 + (1 : Int))))
          else
            impl_steps.l0 n K k x1 x2 (bitOr .i64 x7 (shL .i64 1 ((x11.getD x13.toNat ((0 : Int), (0 : Int), (0 : Int))).2.1))) x11 x12 (IntKind.wrap .i64 (x13 + (1 : Int))))
        else
          if (decide (((x11.getD x13.toNat ((0 : Int), (0 : Int), (0 : Int))).2.1) = x1)) = true then
            if ((x11.getD x13.toNat ((0 : Int), (0 : Int), (0 : Int))).1) < 0 then none else (impl_steps.l0 n K k x1 x2 (bitOr .i64 x7 (shL .i64 1 ((x11.getD x13.toNat ((0 : Int), (0 : Int), (0 : Int))).1))) x11 x12 (IntKind.wrap .i64 (x13 + (1 : Int))))
          else
            impl_steps.l0 n K k x1 x2 x7 x11 x12 (IntKind.wrap .i64 (x13 + (1 : Int)))) else none
    else
      K x7
def impl_steps.F (n : Nat) (x0_0 : Int) (x0_1 : List (Int × Int × Int)) (x0_2 : List (Int)) (x1 : Int) (x2 : Int) : Option (Int) :=
  impl_steps.l0 n (fun y2 =>
    some y2) n x1 x2 (0 : Int) x0_1 (x0_1.length : Int) (0 : Int)

/-- loop.example/g01158/impl.IsOpenTo -/
def impl_IsOpenTo.F (n : Nat) (x0_0 : Int) (x0_1 : List (Int × Int × Int)) (x0_2 : List (Int)) (x1 : Int) (x2 : Int) (x3 : Int) : Option (Bool × Bool) :=
  (impl_isNode.F n x0_0 x0_1 x0_2 ([x1, x2] : List (Int))).bind fun r1 =>
  if (!r1) = true then
    some (false, false)
  else
    (impl_isSet.F n x3).bind fun r2 =>
    if (!r2) = true then
      some (false, false)
    else
      (impl_steps.F n x0_0 x0_1 x0_2 x1 x3).bind fun r3 =>
      if x2 < 0 then none else (some ((decide ((bitAnd .i64 (shR .i64 r3 x2) 1) = (1 : Int))), true))

/-- loop.example/g01158/spec.l2Node -/
def spec_l2Node.F (n : Nat) (x0_0 : Int) (x0_1 : List (Int × Int × Int)) (x0_2 : List (Int)) (x1 : Int) : Option (Bool) :=
  (spec_l2Maze.F n x0_0 x0_1 x0_2).bind fun r1 =>
  if r1 = true then
    (spec_l1In.F n x1 (0 : Int) (IntKind.wrap .i64 (x0_0 - (1 : Int)))).bind fun r2 =>
    some r2
  else
    some false

/-- loop.example/g01158/spec.l2Joins -/
def spec_l2Joins.F (n : Nat) (x0_0 : Int) (x0_1 : Int) (x0_2 : Int) (x1 : Int) (x2 : Int) : Option (Bool) :=
  if (decide (x0_0 = x1)) = true then
    if (decide (x0_1 = x2)) = true then
      some true
    else
      if (decide (x0_0 = x2)) = true then
        some (decide (x0_1 = x1))
      else
        some false
  else
    if (decide (x0_0 = x2)) = true then
      some (decide (x0_1 = x1))
    else
      some false

/-- loop.example/g01158/spec.l2Has -/
def spec_l2Has.F (n : Nat) (x0 : Int) (x1 : Int) : Option (Bool) :=
  some (decide ((bitAnd .i64 x0 x1) = x1))

/-- loop.example/g01158/spec.l2Open -/
def spec_l2Open.l0 (n : Nat) (K : Unit → Option (Bool)) : Nat → Int → Int → Int → Int → (List (Int × Int × Int)) → (List (Int)) → Int → Option (Bool)
  | 0, _, _, _, _, _, _, _ => none
  | k + 1, x1, x2, x3, x4_0, x4_1, x4_2, x9 =>
    if (decide (x9 < (x4_1.length : Int))) = true then
      if 0 ≤ x9 ∧ x9 < (x4_1.length : Int) then ((spec_l2Joins.F n ((x4_1.getD x9.toNat ((0 : Int), (0 : Int), (0 : Int))).1) ((x4_1.getD x9.toNat ((0 : Int), (0 : Int), (0 : Int))).2.1) ((x4_1.getD x9.toNat ((0 : Int), (0 : Int), (0 : Int))).2.2) x1 x2).bind fun r1 =>
      if r1 = true then
        if 0 ≤ x9 ∧ x9 < (x4_1.length : Int) then ((spec_l2Has.F n x3 ((x4_1.getD x9.toNat ((0 : Int), (0 : Int), (0 : Int))).2.2)).bind fun r2 =>
        if r2 = true then
          some true
        else
          spec_l2Open.l0 n K k x1 x2 x3 x4_0 x4_1 x4_2 (IntKind.wrap .i64 (x9 + (1 : Int)))) else none
      else
        spec_l2Open.l0 n K k x1 x2 x3 x4_0 x4_1 x4_2 (IntKind.wrap .i64 (x9 + (1 : Int)))) else none
    else
      K ()
def spec_l2Open.F (n : Nat) (x0_0 : Int) (x0_1 : List (Int × Int × Int)) (x0_2 : List (Int)) (x1 : Int) (x2 : Int) (x3 : Int) : Option (Bool) :=
  spec_l2Open.l0 n (fun _ =>
    some false) n x1 x2 x3 x0_0 x0_1 x0_2 (0 : Int)

/-- loop.example/g01158/spec.IsOpenTo -/
def spec_IsOpenTo.F (n : Nat) (x0_0 : Int) (x0_1 : List (Int × Int × Int)) (x0_2 : List (Int)) (x1 : Int) (x2 : Int) (x3 : Int) : Option (Bool × Bool) :=
  (spec_l2Node.F n x0_0 x0_1 x0_2 x1).bind fun r1 =>
  if (!r1) = true then
    some (false, false)
  else
    (spec_l2Node.F n x0_0 x0_1 x0_2 x2).bind fun r2 =>
    if (!r2) = true then
      some (false, false)
    else
      (spec_l2Set.F n x3).bind fun r3 =>
      if (!r3) = true then
        some (false, false)
      else
        (spec_l2Open.F n x0_0 x0_1 x0_2 x1 x2 x3).bind fun r4 =>
        some (r4, true)

/-- slices.Clone[[]int,int] -/
def slices_Clone_int_int.F (n : Nat) (x0 : List (Int)) : Option ((List (Int))) :=
  if ([] : List (Int)).length + x0.length ≤ 4398046511104 then (some (([] : List (Int)) ++ x0)) else none

/-- loop.example/g01158/impl.LeastNeeds$1$1 -/
def impl_LeastNeeds_1_1_c0.F (n : Nat) (x0 : Int) (x1 : Int) : Option (Bool) :=
  if (!decide (x0 = x1)) = true then
    (impl_has.F n x1 x0).bind fun r1 =>
    some r1
  else
    some false

/-- slices.IndexFunc[[]int,int] -/
def slices_IndexFunc_int_int_cLeastNeeds_1_1.l0 (n : Nat) (K : Unit → Option (Int)) : Nat → (List (Int)) → Int → Int → Int → Option (Int)
  | 0, _, _, _, _ => none
  | k + 1, x0, x1, x7, x8 =>
    if (decide (x8 < x7)) = true then
      if 0 ≤ x8 ∧ x8 < (x0.length : Int) then ((impl_LeastNeeds_1_1_c0.F n (x0.getD x8.toNat (0 : Int)) x1).bind fun r1 =>
      if r1 = true then
        some x8
      else
        slices_IndexFunc_int_int_cLeastNeeds_1_1.l0 n K k x0 x1 x7 (IntKind.wrap .i64 (x8 + (1 : Int)))) else none
    else
      K ()
def slices_IndexFunc_int_int_cLeastNeeds_1_1.F (n : Nat) (x0 : List (Int)) (x1 : Int) : Option (Int) :=
  slices_IndexFunc_int_int_cLeastNeeds_1_1.l0 n (fun _ =>
    some (-1 : Int)) n x0 x1 (x0.length : Int) (0 : Int)

/-- slices.ContainsFunc[[]int,int] -/
def slices_ContainsFunc_int_int_cLeastNeeds_1_1.F (n : Nat) (x0 : List (Int)) (x1 : Int) : Option (Bool) :=
  (slices_IndexFunc_int_int_cLeastNeeds_1_1.F n x0 x1).bind fun r1 =>
  some (decide (r1 ≥ (0 : Int)))

/-- loop.example/g01158/impl.LeastNeeds$1 -/
def impl_LeastNeeds_1_c0.F (n : Nat) (x0 : Int) (x1 : List (Int)) : Option (Bool) :=
  (slices_ContainsFunc_int_int_cLeastNeeds_1_1.F n x1 x0).bind fun r1 =>
  some r1

/-- slices.IndexFunc[[]int,int] -/
def slices_IndexFunc_int_int_cLeastNeeds_1.l0 (n : Nat) (K : Unit → Option (Int)) : Nat → (List (Int)) → (List (Int)) → Int → Int → Option (Int)
  | 0, _, _, _, _ => none
  | k + 1, x0, x1, x7, x8 =>
    if (decide (x8 < x7)) = true then
      if 0 ≤ x8 ∧ x8 < (x0.length : Int) then ((impl_LeastNeeds_1_c0.F n (x0.getD x8.toNat (0 : Int)) x1).bind fun r1 =>
      if r1 = true then
        some x8
      else
        slices_IndexFunc_int_int_cLeastNeeds_1.l0 n K k x0 x1 x7 (IntKind.wrap .i64 (x8 + (1 : Int)))) else none
    else
      K ()
def slices_IndexFunc_int_int_cLeastNeeds_1.F (n : Nat) (x0 : List (Int)) (x1 : List (Int)) : Option (Int) :=
  slices_IndexFunc_int_int_cLeastNeeds_1.l0 n (fun _ =>
    some (-1 : Int)) n x0 x1 (x0.length : Int) (0 : Int)

/-- slices.DeleteFunc[[]int,int] -/
def slices_DeleteFunc_int_int_cLeastNeeds_1.l0 (n : Nat) (K : (List (Int)) → Int → Option ((List (Int)))) : Nat → (List (Int)) → (List (Int)) → Int → Int → Option ((List (Int)))
  | 0, _, _, _, _ => none
  | k + 1, x0, x1, x5, x6 =>
    if (decide (x6 < (x0.length : Int))) = true then
      if 0 ≤ x6 ∧ x6 < (x0.length : Int) then ((impl_LeastNeeds_1_c0.F n (x0.getD x6.toNat (0 : Int)) x1).bind fun r2 =>
      if (!r2) = true then
        if 0 ≤ x5 ∧ x5 < (x0.length : Int) then (slices_DeleteFunc_int_int_cLeastNeeds_1.l0 n K k (x0.set x5.toNat (x0.getD x6.toNat (0 : Int))) x1 (IntKind.wrap .i64 (x5 + (1 : Int))) (IntKind.wrap .i64 (x6 + (1 : Int)))) else none
      else
        slices_DeleteFunc_int_int_cLeastNeeds_1.l0 n K k x0 x1 x5 (IntKind.wrap .i64 (x6 + (1 : Int)))) else none
    else
      K x0 x5
def slices_DeleteFunc_int_int_cLeastNeeds_1.F (n : Nat) (x0 : List (Int)) (x1 : List (Int)) : Option ((List (Int))) :=
  (slices_IndexFunc_int_int_cLeastNeeds_1.F n x0 x1).bind fun r1 =>
  if (decide (r1 = (-1 : Int))) = true then
    some x0
  else
    slices_DeleteFunc_int_int_cLeastNeeds_1.l0 n (fun y3 y4 =>
      if 0 ≤ y4 ∧ y4 ≤ (y3.length : Int) then (if 0 ≤ y4 ∧ y4 ≤ ((y3.take y4.toNat ++ List.replicate (y3.length - y4.toNat) (0 : Int)).length : Int) then (some ((y3.take y4.toNat ++ List.replicate (y3.length - y4.toNat) (0 : Int)).take y4.toNat)) else none) else none) n x0 x1 r1 (IntKind.wrap .i64 (r1 + (1 : Int)))

/-- loop.example/g01158/impl.LeastNeeds -/
def impl_LeastNeeds.l0 (n : Nat) (K : (List (Int)) → Option ((List (Int)) × Bool)) : Nat → Int → Int → (List (Int)) → (List (Int × Int × Int)) → Int → Int → Option ((List (Int)) × Bool)
  | 0, _, _, _, _, _, _ => none
  | k + 1, x1, x2, x8, x19, x20, x21 =>
    if (decide (x21 < x20)) = true then
      if 0 ≤ x21 ∧ x21 < (x19.length : Int) then (if (decide (((x19.getD x21.toNat ((0 : Int), (0 : Int), (0 : Int))).1) = (if x2 < x1 then x2 else x1))) = true then
        if (decide (((x19.getD x21.toNat ((0 : Int), (0 : Int), (0 : Int))).2.1) = (if x2 > x1 then x2 else x1))) = true then
          if x8.length + ([(x19.getD x21.toNat ((0 : Int), (0 : Int), (0 : Int))).2.2] : List (Int)).length ≤ 4398046511104 then (impl_LeastNeeds.l0 n K k x1 x2 (x8 ++ ([(x19.getD x21.toNat ((0 : Int), (0 : Int), (0 : Int))).2.2] : List (Int))) x19 x20 (IntKind.wrap .i64 (x21 + (1 : Int)))) else none
        else
          impl_LeastNeeds.l0 n K k x1 x2 x8 x19 x20 (IntKind.wrap .i64 (x21 + (1 : Int)))
      else
        impl_LeastNeeds.l0 n K k x1 x2 x8 x19 x20 (IntKind.wrap .i64 (x21 + (1 : Int)))) else none
    else
      K x8
def impl_LeastNeeds.F (n : Nat) (x0_0 : Int) (x0_1 : List (Int × Int × Int)) (x0_2 : List (Int)) (x1 : Int) (x2 : Int) : Option ((List (Int)) × Bool) :=
  (impl_isNode.F n x0_0 x0_1 x0_2 ([x1, x2] : List (Int))).bind fun r1 =>
  if (!r1) = true then
    some (([] : List (Int)), false)
  else
    impl_LeastNeeds.l0 n (fun y2 =>
      (slices_Clone_int_int.F n y2).bind fun r3 =>
      (slices_DeleteFunc_int_int_cLeastNeeds_1.F n r3 y2).bind fun r4 =>
      some (r4, true)) n x1 x2 ([] : List (Int)) x0_1 (x0_1.length : Int) (0 : Int)

/-- loop.example/g01158/spec.LeastNeeds -/
def spec_LeastNeeds.l2 (n : Nat) (K : Int → Int → Int → (List (Int × Int × Int)) → (List (Int)) → (List (Int)) → Int → Bool → Option ((List (Int)) × Bool)) : Nat → Int → Int → Int → (List (Int × Int × Int)) → (List (Int)) → (List (Int)) → Int → Bool → Int → Option ((List (Int)) × Bool)
  | 0, _, _, _, _, _, _, _, _, _ => none
  | k + 1, x1, x2, x3_0, x3_1, x3_2, x8, x9, x10, x11 =>
    if (decide (x11 < (x3_1.length : Int))) = true then
      if x10 = true then
        if (!decide (x11 = x9)) = true then
          if 0 ≤ x11 ∧ x11 < (x3_1.length : Int) then ((spec_l2Joins.F n ((x3_1.getD x11.toNat ((0 : Int), (0 : Int), (0 : Int))).1) ((x3_1.getD x11.toNat ((0 : Int), (0 : Int), (0 : Int))).2.1) ((x3_1.getD x11.toNat ((0 : Int), (0 : Int), (0 : Int))).2.2) x1 x2).bind fun r4 =>
          if r4 = true then
            if 0 ≤ x9 ∧ x9 < (x3_1.length : Int) then (if 0 ≤ x11 ∧ x11 < (x3_1.length : Int) then ((spec_l2Has.F n ((x3_1.getD x9.toNat ((0 : Int), (0 : Int), (0 : Int))).2.2) ((x3_1.getD x11.toNat ((0 : Int), (0 : Int), (0 : Int))).2.2)).bind fun r5 =>
            if r5 = true then
              spec_LeastNeeds.l2 n K k x1 x2 x3_0 x3_1 x3_2 x8 x9 false (IntKind.wrap .i64 (x11 + (1 : Int)))
            else
              spec_LeastNeeds.l2 n K k x1 x2 x3_0 x3_1 x3_2 x8 x9 x10 (IntKind.wrap .i64 (x11 + (1 : Int)))) else none) else none
          else
            spec_LeastNeeds.l2 n K k x1 x2 x3_0 x3_1 x3_2 x8 x9 x10 (IntKind.wrap .i64 (x11 + (1 : Int)))) else none
        else
          spec_LeastNeeds.l2 n K k x1 x2 x3_0 x3_1 x3_2 x8 x9 x10 (IntKind.wrap .i64 (x11 + (1 : Int)))
      else
        K x1 x2 x3_0 x3_1 x3_2 x8 x9 x10
    else
      K x1 x2 x3_0 x3_1 x3_2 x8 x9 x10
def spec_LeastNeeds.l0 (n : Nat) (K : (List (Int)) → Option ((List (Int)) × Bool)) : Nat → Int → Int → Int → (List (Int × Int × Int)) → (List (Int)) → (List (Int)) → Int → Option ((List (Int)) × Bool)
  | 0, _, _, _, _, _, _, _ => none
  | k + 1, x1, x2, x3_0, x3_1, x3_2, x8, x9 =>
    if (decide (x9 < (x3_1.length : Int))) = true then
      if 0 ≤ x9 ∧ x9 < (x3_1.length : Int) then ((spec_l2Joins.F n ((x3_1.getD x9.toNat ((0 : Int), (0 : Int), (0 : Int))).1) ((x3_1.getD x9.toNat ((0 : Int), (0 : Int), (0 : Int))).2.1) ((x3_1.getD x9.toNat ((0 : Int), (0 : Int), (0 : Int))).2.2) x1 x2).bind fun r3 =>
      spec_LeastNeeds.l2 n (fun y6 y7 y8 y9 y10 y11 y12 y13 =>
        if y13 = true then
          if 0 ≤ y12 ∧ y12 < (y9.length : Int) then (if y11.length + ([(y9.getD y12.toNat ((0 : Int), (0 : Int), (0 : Int))).2.2] : List (Int)).length ≤ 4398046511104 then (spec_LeastNeeds.l0 n K k y6 y7 y8 y9 y10 (y11 ++ ([(y9.getD y12.toNat ((0 : Int), (0 : Int), (0 : Int))).2.2] : List (Int))) (IntKind.wrap .i64 (y12 + (1 : Int)))) else none) else none
        else
          spec_LeastNeeds.l0 n K k y6 y7 y8 y9 y10 y11 (IntKind.wrap .i64 (y12 + (1 : Int)))) n x1 x2 x3_0 x3_1 x3_2 x8 x9 r3 (0 : Int)) else none
    else
      K x8
def spec_LeastNeeds.F (n : Nat) (x0_0 : Int) (x0_1 : List (Int × Int × Int)) (x0_2 : List (Int)) (x1 : Int) (x2 : Int) : Option ((List (Int)) × Bool) :=
  let j4 : (Int) → (Int) → (Int) → (List (Int × Int × Int)) → (List (Int)) → (List (Int)) → Option ((List (Int)) × Bool) := fun j4_x1 j4_x2 j4_x3_0 j4_x3_1 j4_x3_2 j4_x8 =>
    spec_LeastNeeds.l0 n (fun y14 =>
      some (y14, true)) n j4_x1 j4_x2 j4_x3_0 j4_x3_1 j4_x3_2 j4_x8 (0 : Int)
  (spec_l2Node.F n x0_0 x0_1 x0_2 x1).bind fun r1 =>
  if (!r1) = true then
    some (([] : List (Int)), false)
  else
    (spec_l2Node.F n x0_0 x0_1 x0_2 x2).bind fun r2 =>
    if (!r2) = true then
      some (([] : List (Int)), false)
    else
      j4 x1 x2 x0_0 x0_1 x0_2 ([] : List (Int))

/-- loop.example/g01158/laws.rInts -/
def laws_rInts.l0 (n : Nat) (K : Unit → Option (Bool)) : Nat → (List (Int)) → (List (Int)) → Int → Option (Bool)
  | 0, _, _, _ => none
  | k + 1, x0, x1, x5 =>
    if (decide (x5 < (x0.length : Int))) = true then
      if 0 ≤ x5 ∧ x5 < (x0.length : Int) then (if 0 ≤ x5 ∧ x5 < (x1.length : Int) then (if (!decide ((x0.getD x5.toNat (0 : Int)) = (x1.getD x5.toNat (0 : Int)))) = true then
        some false
      else
        laws_rInts.l0 n K k x0 x1 (IntKind.wrap .i64 (x5 + (1 : Int)))) else none) else none
    else
      K ()
def laws_rInts.F (n : Nat) (x0 : List (Int)) (x1 : List (Int)) : Option (Bool) :=
  if (!decide ((x0.length : Int) = (x1.length : Int))) = true then
    some false
  else
    laws_rInts.l0 n (fun _ =>
      some true) n x0 x1 (0 : Int)

/-- loop.example/g01158/spec.DrawLeastNeeds -/
def spec_DrawLeastNeeds.l0 (n : Nat) (K : Int → (List (Int × Int × Int)) → (List (Int)) → Int → (List (Int × Int × Int)) → (List (Int)) → Int → Int → Option (Int × (List (Int × Int × Int)) × (List (Int)) × Int × Int)) : Nat → Int → (List (Int × Int × Int)) → (List (Int)) → (List (Int)) → Int → Int → Int → (List (Int × Int × Int)) → (List (Int)) → Int → Int → Int → Option (Int × (List (Int × Int × Int)) × (List (Int)) × Int × Int)
  | 0, _, _, _, _, _, _, _, _, _, _, _, _ => none
  | k + 1, x2_0, x2_1, x2_2, x5_0, x5_1, x5_2, x6_0, x6_1, x6_2, x7, x8, x10 =>
    if (decide (x10 > (0 : Int))) = true then
      (spec_l1Cur_few.F n x5_0 x5_1 x5_2 (6 : Int)).bind fun r8 =>
      (spec_l2Put.F n x6_1 x7 x8 r8.2.2.2).bind fun r9 =>
      spec_DrawLeastNeeds.l0 n K k x2_0 x2_1 x2_2 r8.1 r8.2.1 r8.2.2.1 x6_0 r9 x6_2 x7 x8 (IntKind.wrap .i64 (x10 - (1 : Int)))
    else
      K x2_0 x2_1 x2_2 x6_0 x6_1 x6_2 x7 x8
def spec_DrawLeastNeeds.F (n : Nat) (x0 : List (Int)) : Option (Int × (List (Int × Int × Int)) × (List (Int)) × Int × Int) :=
  (spec_l1Cur_maze.F n x0 (0 : Int) (0 : Int)).bind fun r1 =>
  (spec_l1Cur_nodeOf.F n r1.1 r1.2.1 r1.2.2.1 r1.2.2.2.1 r1.2.2.2.2.1 r1.2.2.2.2.2).bind fun r2 =>
  (spec_l1Cur_nodeOf.F n r2.1 r2.2.1 r2.2.2.1 r1.2.2.2.1 r1.2.2.2.2.1 r1.2.2.2.2.2).bind fun r3 =>
  (spec_l2Maze.F n r1.2.2.2.1 r1.2.2.2.2.1 r1.2.2.2.2.2).bind fun r4 =>
  if r4 = true then
    if (decide ((r1.2.2.2.2.1.length : Int) > (0 : Int))) = true then
      (spec_l1Cur_one.F n r3.1 r3.2.1 r3.2.2.1 (4 : Int)).bind fun r5 =>
      if (!r5.2.2.2) = true then
        (spec_l1Cur_pick.F n r5.1 r5.2.1 r5.2.2.1 (r1.2.2.2.2.1.length : Int)).bind fun r6 =>
        if 0 ≤ r6.2.2.2 ∧ r6.2.2.2 < (r1.2.2.2.2.1.length : Int) then ((spec_l1Cur_pick.F n r6.1 r6.2.1 r6.2.2.1 (3 : Int)).bind fun r7 =>
        spec_DrawLeastNeeds.l0 n (fun y10 y11 y12 y13 y14 y15 y16 y17 =>
          some (y13, y14, y15, y16, y17)) n (0 : Int) ([] : List (Int × Int × Int)) ([] : List (Int)) r7.1 r7.2.1 r7.2.2.1 r1.2.2.2.1 r1.2.2.2.2.1 r1.2.2.2.2.2 ((r1.2.2.2.2.1.getD r6.2.2.2.toNat ((0 : Int), (0 : Int), (0 : Int))).1) ((r1.2.2.2.2.1.getD r6.2.2.2.toNat ((0 : Int), (0 : Int), (0 : Int))).2.1) r7.2.2.2) else none
      else
        some (r1.2.2.2.1, r1.2.2.2.2.1, r1.2.2.2.2.2, r2.2.2.2, r3.2.2.2)
    else
      some (r1.2.2.2.1, r1.2.2.2.2.1, r1.2.2.2.2.2, r2.2.2.2, r3.2.2.2)
  else
    some (r1.2.2.2.1, r1.2.2.2.2.1, r1.2.2.2.2.2, r2.2.2.2, r3.2.2.2)

/-- loop.example/g01158/spec.DrawReachWith -/
def spec_DrawReachWith.F (n : Nat) (x0 : List (Int)) : Option (Int × (List (Int × Int × Int)) × (List (Int)) × Int × Int) :=
  (spec_l1Cur_maze.F n x0 (0 : Int) (0 : Int)).bind fun r1 =>
  (spec_l1Cur_nodeOf.F n r1.1 r1.2.1 r1.2.2.1 r1.2.2.2.1 r1.2.2.2.2.1 r1.2.2.2.2.2).bind fun r2 =>
  (spec_l1Cur_colours.F n r2.1 r2.2.1 r2.2.2.1).bind fun r3 =>
  some (r1.2.2.2.1, r1.2.2.2.2.1, r1.2.2.2.2.2, r2.2.2.2, r3.2.2.2)

/-- loop.example/g01158/impl.members -/
def impl_members.l0 (n : Nat) (K : (List (Int)) → Option ((List (Int)))) : Nat → Int → (List (Int)) → Int → Option ((List (Int)))
  | 0, _, _, _ => none
  | k + 1, x0, x3, x4 =>
    if x4 < 0 then none else (if (decide ((shR .i64 x0 x4) > (0 : Int))) = true then
      if x4 < 0 then none else (if (decide ((bitAnd .i64 (shR .i64 x0 x4) 1) = (1 : Int))) = true then
        if x3.length + ([x4] : List (Int)).length ≤ 4398046511104 then (impl_members.l0 n K k x0 (x3 ++ ([x4] : List (Int))) (IntKind.wrap .i64 (x4 + (1 : Int)))) else none
      else
        impl_members.l0 n K k x0 x3 (IntKind.wrap .i64 (x4 + (1 : Int))))
    else
      K x3)
def impl_members.F (n : Nat) (x0 : Int) : Option ((List (Int))) :=
  impl_members.l0 n (fun y1 =>
    some y1) n x0 ([] : List (Int)) (0 : Int)

/-- loop.example/g01158/impl.reach -/
def impl_reach.l0 (n : Nat) (K : Int → Option (Int)) : Nat → Int → Int → (List (Int × Int × Int)) → (List (Int)) → Int → (List (Int)) → Option (Int)
  | 0, _, _, _, _, _, _ => none
  | k + 1, x2, x3_0, x3_1, x3_2, x7, x8 =>
    if (decide ((x8.length : Int) > (0 : Int))) = true then
      if 0 ≤ (0 : Int) ∧ (0 : Int) < (x8.length : Int) then ((impl_steps.F n x3_0 x3_1 x3_2 (x8.getD 0 (0 : Int)) x2).bind fun r1 =>
      if 0 ≤ (1 : Int) ∧ (1 : Int) ≤ (x8.length : Int) then ((impl_members.F n (bitClr .i64 r1 x7)).bind fun r2 =>
      if (x8.drop 1).length + r2.length ≤ 4398046511104 then (impl_reach.l0 n K k x2 x3_0 x3_1 x3_2 (bitOr .i64 x7 (bitClr .i64 r1 x7)) ((x8.drop 1) ++ r2)) else none) else none) else none
    else
      K x7
def impl_reach.F (n : Nat) (x0_0 : Int) (x0_1 : List (Int × Int × Int)) (x0_2 : List (Int)) (x1 : Int) (x2 : Int) : Option (Int) :=
  if x1 < 0 then none else (impl_reach.l0 n (fun y3 =>
    some y3) n x2 x0_0 x0_1 x0_2 (shL .i64 1 x1) ([x1] : List (Int)))

/-- loop.example/g01158/impl.ReachWith -/
def impl_ReachWith.F (n : Nat) (x0_0 : Int) (x0_1 : List (Int × Int × Int)) (x0_2 : List (Int)) (x1 : Int) (x2 : Int) : Option ((List (Int)) × Bool) :=
  (impl_isNode.F n x0_0 x0_1 x0_2 ([x1] : List (Int))).bind fun r1 =>
  if (!r1) = true then
    some (([] : List (Int)), false)
  else
    (impl_isSet.F n x2).bind fun r2 =>
    if (!r2) = true then
      some (([] : List (Int)), false)
    else
      (impl_reach.F n x0_0 x0_1 x0_2 x1 x2).bind fun r3 =>
      (impl_members.F n r3).bind fun r4 =>
      some (r4, true)

/-- loop.example/g01158/spec.l1Has -/
def spec_l1Has.l0 (n : Nat) (K : Unit → Option (Bool)) : Nat → (List (Int)) → Int → Int → Option (Bool)
  | 0, _, _, _ => none
  | k + 1, x0, x1, x5 =>
    if (decide (x5 < (x0.length : Int))) = true then
      if 0 ≤ x5 ∧ x5 < (x0.length : Int) then (if (decide ((x0.getD x5.toNat (0 : Int)) = x1)) = true then
        some true
      else
        spec_l1Has.l0 n K k x0 x1 (IntKind.wrap .i64 (x5 + (1 : Int)))) else none
    else
      K ()
def spec_l1Has.F (n : Nat) (x0 : List (Int)) (x1 : Int) : Option (Bool) :=
  spec_l1Has.l0 n (fun _ =>
    some false) n x0 x1 (0 : Int)

/-- loop.example/g01158/spec.l1Put -/
def spec_l1Put.l0 (n : Nat) (K : (List (Int)) → Int → Int → Option ((List (Int)))) : Nat → (List (Int)) → Int → Int → Option ((List (Int)))
  | 0, _, _, _ => none
  | k + 1, x0, x1, x5 =>
    if (decide (x5 < (x0.length : Int))) = true then
      if 0 ≤ x5 ∧ x5 < (x0.length : Int) then (if (decide ((x0.getD x5.toNat (0 : Int)) < x1)) = true then
        spec_l1Put.l0 n K k x0 x1 (IntKind.wrap .i64 (x5 + (1 : Int)))
      else
        K x0 x1 x5) else none
    else
      K x0 x1 x5
def spec_l1Put.F (n : Nat) (x0 : List (Int)) (x1 : Int) : Option ((List (Int))) :=
  spec_l1Put.l0 n (fun y1 y2 y3 =>
    if (decide (y3 < (y1.length : Int))) = true then
      if 0 ≤ y3 ∧ y3 < (y1.length : Int) then (if (decide ((y1.getD y3.toNat (0 : Int)) = y2)) = true then
        some y1
      else
        if 0 ≤ y3 ∧ y3 ≤ (y1.length : Int) then (if ([] : List (Int)).length + (y1.take y3.toNat).length ≤ 4398046511104 then (if (([] : List (Int)) ++ (y1.take y3.toNat)).length + ([y2] : List (Int)).length ≤ 4398046511104 then (if 0 ≤ y3 ∧ y3 ≤ (y1.length : Int) then (if ((([] : List (Int)) ++ (y1.take y3.toNat)) ++ ([y2] : List (Int))).length + (y1.drop y3.toNat).length ≤ 4398046511104 then (some (((([] : List (Int)) ++ (y1.take y3.toNat)) ++ ([y2] : List (Int))) ++ (y1.drop y3.toNat))) else none) else none) else none) else none) else none) else none
    else
      if 0 ≤ y3 ∧ y3 ≤ (y1.length : Int) then (if ([] : List (Int)).length + (y1.take y3.toNat).length ≤ 4398046511104 then (if (([] : List (Int)) ++ (y1.take y3.toNat)).length + ([y2] : List (Int)).length ≤ 4398046511104 then (if 0 ≤ y3 ∧ y3 ≤ (y1.length : Int) then (if ((([] : List (Int)) ++ (y1.take y3.toNat)) ++ ([y2] : List (Int))).length + (y1.drop y3.toNat).length ≤ 4398046511104 then (some (((([] : List (Int)) ++ (y1.take y3.toNat)) ++ ([y2] : List (Int))) ++ (y1.drop y3.toNat))) else none) else none) else none) else none) else none) n x0 x1 (0 : Int)

/-- loop.example/g01158/spec.l2Reach -/
def spec_l2Reach.l2 (n : Nat) (K : Int → Int → (List (Int × Int × Int)) → (List (Int)) → (List (Int)) → (List (Int)) → Int → Option ((List (Int)))) : Nat → Int → Int → (List (Int × Int × Int)) → (List (Int)) → (List (Int)) → (List (Int)) → Int → Int → Option ((List (Int)))
  | 0, _, _, _, _, _, _, _, _ => none
  | k + 1, x2, x3_0, x3_1, x3_2, x7, x8, x9, x10 =>
    if (decide (x10 < (x3_1.length : Int))) = true then
      if 0 ≤ x10 ∧ x10 < (x3_1.length : Int) then ((spec_l2Has.F n x2 ((x3_1.getD x10.toNat ((0 : Int), (0 : Int), (0 : Int))).2.2)).bind fun r1 =>
      if (!r1) = true then
        spec_l2Reach.l2 n K k x2 x3_0 x3_1 x3_2 x7 x8 x9 (IntKind.wrap .i64 (x10 + (1 : Int)))
      else
        if 0 ≤ x9 ∧ x9 < (x8.length : Int) then (if (!decide (((x3_1.getD x10.toNat ((0 : Int), (0 : Int), (0 : Int))).1) = (x8.getD x9.toNat (0 : Int)))) = true then
          if 0 ≤ x9 ∧ x9 < (x8.length : Int) then (if (!decide (((x3_1.getD x10.toNat ((0 : Int), (0 : Int), (0 : Int))).2.1) = (x8.getD x9.toNat (0 : Int)))) = true then
            spec_l2Reach.l2 n K k x2 x3_0 x3_1 x3_2 x7 x8 x9 (IntKind.wrap .i64 (x10 + (1 : Int)))
          else
            if 0 ≤ x9 ∧ x9 < (x8.length : Int) then ((spec_l1Has.F n x7 (IntKind.wrap .i64 ((IntKind.wrap .i64 (((x3_1.getD x10.toNat ((0 : Int), (0 : Int), (0 : Int))).1) + ((x3_1.getD x10.toNat ((0 : Int), (0 : Int), (0 : Int))).2.1))) - (x8.getD x9.toNat (0 : Int))))).bind fun r2 =>
            if (!r2) = true then
              (spec_l1Put.F n x7 (IntKind.wrap .i64 ((IntKind.wrap .i64 (((x3_1.getD x10.toNat ((0 : Int), (0 : Int), (0 : Int))).1) + ((x3_1.getD x10.toNat ((0 : Int), (0 : Int), (0 : Int))).2.1))) - (x8.getD x9.toNat (0 : Int))))).bind fun r3 =>
              if x8.length + ([IntKind.wrap .i64 ((IntKind.wrap .i64 (((x3_1.getD x10.toNat ((0 : Int), (0 : Int), (0 : Int))).1) + ((x3_1.getD x10.toNat ((0 : Int), (0 : Int), (0 : Int))).2.1))) - (x8.getD x9.toNat (0 : Int)))] : List (Int)).length ≤ 4398046511104 then (spec_l2Reach.l2 n K k x2 x3_0 x3_1 x3_2 r3 (x8 ++ ([IntKind.wrap .i64 ((IntKind.wrap .i64 (((x3_1.getD x10.toNat ((0 : Int), (0 : Int), (0 : Int))).1) + ((x3_1.getD x10.toNat ((0 : Int), (0 : Int), (0 : Int))).2.1))) - (x8.getD x9.toNat (0 : Int)))] : List (Int))) x9 (IntKind.wrap .i64 (x10 + (1 : Int)))) else none
            else
              spec_l2Reach.l2 n K k x2 x3_0 x3_1 x3_2 x7 x8 x9 (IntKind.wrap .i64 (x10 + (1 : Int)))) else none) else none
        else
          if 0 ≤ x9 ∧ x9 < (x8.length : Int) then ((spec_l1Has.F n x7 (IntKind.wrap .i64 ((IntKind.wrap .i64 (((x3_1.getD x10.toNat ((0 : Int), (0 : Int), (0 : Int))).1) + ((x3_1.getD x10.toNat ((0 : Int), (0 : Int), (0 : Int))).2.1))) - (x8.getD x9.toNat (0 : Int))))).bind fun r4 =>
          if (!r4) = true then
            (spec_l1Put.F n x7 (IntKind.wrap .i64 ((IntKind.wrap .i64 (((x3_1.getD x10.toNat ((0 : Int), (0 : Int), (0 : Int))).1) + ((x3_1.getD x10.toNat ((0 : Int), (0 : Int), (0 : Int))).2.1))) - (x8.getD x9.toNat (0 : Int))))).bind fun r5 =>
            if x8.length + ([IntKind.wrap .i64 ((IntKind.wrap .i64 (((x3_1.getD x10.toNat ((0 : Int), (0 : Int), (0 : Int))).1) + ((x3_1.getD x10.toNat ((0 : Int), (0 : Int), (0 : Int))).2.1))) - (x8.getD x9.toNat (0 : Int)))] : List (Int)).length ≤ 4398046511104 then (spec_l2Reach.l2 n K k x2 x3_0 x3_1 x3_2 r5 (x8 ++ ([IntKind.wrap .i64 ((IntKind.wrap .i64 (((x3_1.getD x10.toNat ((0 : Int), (0 : Int), (0 : Int))).1) + ((x3_1.getD x10.toNat ((0 : Int), (0 : Int), (0 : Int))).2.1))) - (x8.getD x9.toNat (0 : Int)))] : List (Int))) x9 (IntKind.wrap .i64 (x10 + (1 : Int)))) else none
          else
            spec_l2Reach.l2 n K k x2 x3_0 x3_1 x3_2 x7 x8 x9 (IntKind.wrap .i64 (x10 + (1 : Int)))) else none) else none) else none
    else
      K x2 x3_0 x3_1 x3_2 x7 x8 x9
def spec_l2Reach.l0 (n : Nat) (K : (List (Int)) → Option ((List (Int)))) : Nat → Int → Int → (List (Int × Int × Int)) → (List (Int)) → (List (Int)) → (List (Int)) → Int → Option ((List (Int)))
  | 0, _, _, _, _, _, _, _ => none
  | k + 1, x2, x3_0, x3_1, x3_2, x7, x8, x9 =>
    if (decide (x9 < (x8.length : Int))) = true then
      spec_l2Reach.l2 n (fun y6 y7 y8 y9 y10 y11 y12 =>
        spec_l2Reach.l0 n K k y6 y7 y8 y9 y10 y11 (IntKind.wrap .i64 (y12 + (1 : Int)))) n x2 x3_0 x3_1 x3_2 x7 x8 x9 (0 : Int)
    else
      K x7
def spec_l2Reach.F (n : Nat) (x0_0 : Int) (x0_1 : List (Int × Int × Int)) (x0_2 : List (Int)) (x1 : Int) (x2 : Int) : Option ((List (Int))) :=
  spec_l2Reach.l0 n (fun y13 =>
    some y13) n x2 x0_0 x0_1 x0_2 ([x1] : List (Int)) ([x1] : List (Int)) (0 : Int)

/-- loop.example/g01158/spec.ReachWith -/
def spec_ReachWith.F (n : Nat) (x0_0 : Int) (x0_1 : List (Int × Int × Int)) (x0_2 : List (Int)) (x1 : Int) (x2 : Int) : Option ((List (Int)) × Bool) :=
  (spec_l2Node.F n x0_0 x0_1 x0_2 x1).bind fun r1 =>
  if (!r1) = true then
    some (([] : List (Int)), false)
  else
    (spec_l2Set.F n x2).bind fun r2 =>
    if (!r2) = true then
      some (([] : List (Int)), false)
    else
      (spec_l2Reach.F n x0_0 x0_1 x0_2 x1 x2).bind fun r3 =>
      some (r3, true)

/-- loop.example/g01158/spec.DrawDoorsAt -/
def spec_DrawDoorsAt.F (n : Nat) (x0 : List (Int)) : Option (Int × (List (Int × Int × Int)) × (List (Int)) × Int) :=
  (spec_l1Cur_maze.F n x0 (0 : Int) (0 : Int)).bind fun r1 =>
  (spec_l1Cur_nodeOf.F n r1.1 r1.2.1 r1.2.2.1 r1.2.2.2.1 r1.2.2.2.2.1 r1.2.2.2.2.2).bind fun r2 =>
  some (r1.2.2.2.1, r1.2.2.2.2.1, r1.2.2.2.2.2, r2.2.2.2)

/-- loop.example/g01158/impl.DoorsAt -/
def impl_DoorsAt.l0 (n : Nat) (K : (List (Int)) → Option ((List (Int)) × Bool)) : Nat → Int → (List (Int)) → (List (Int × Int × Int)) → Int → Int → Option ((List (Int)) × Bool)
  | 0, _, _, _, _, _ => none
  | k + 1, x1, x6, x16, x17, x18 =>
    if (decide (x18 < x17)) = true then
      if 0 ≤ x18 ∧ x18 < (x16.length : Int) then (if (decide (((x16.getD x18.toNat ((0 : Int), (0 : Int), (0 : Int))).1) = x1)) = true then
        if x6.length + ([x18] : List (Int)).length ≤ 4398046511104 then (impl_DoorsAt.l0 n K k x1 (x6 ++ ([x18] : List (Int))) x16 x17 (IntKind.wrap .i64 (x18 + (1 : Int)))) else none
      else
        if (decide (((x16.getD x18.toNat ((0 : Int), (0 : Int), (0 : Int))).2.1) = x1)) = true then
          if x6.length + ([x18] : List (Int)).length ≤ 4398046511104 then (impl_DoorsAt.l0 n K k x1 (x6 ++ ([x18] : List (Int))) x16 x17 (IntKind.wrap .i64 (x18 + (1 : Int)))) else none
        else
          impl_DoorsAt.l0 n K k x1 x6 x16 x17 (IntKind.wrap .i64 (x18 + (1 : Int)))) else none
    else
      K x6
def impl_DoorsAt.F (n : Nat) (x0_0 : Int) (x0_1 : List (Int × Int × Int)) (x0_2 : List (Int)) (x1 : Int) : Option ((List (Int)) × Bool) :=
  (impl_isNode.F n x0_0 x0_1 x0_2 ([x1] : List (Int))).bind fun r1 =>
  if (!r1) = true then
    some (([] : List (Int)), false)
  else
    impl_DoorsAt.l0 n (fun y2 =>
      some (y2, true)) n x1 ([] : List (Int)) x0_1 (x0_1.length : Int) (0 : Int)

/-- loop.example/g01158/spec.DoorsAt -/
def spec_DoorsAt.l0 (n : Nat) (K : (List (Int)) → Option ((List (Int)) × Bool)) : Nat → Int → Int → (List (Int × Int × Int)) → (List (Int)) → (List (Int)) → Int → Option ((List (Int)) × Bool)
  | 0, _, _, _, _, _, _ => none
  | k + 1, x1, x2_0, x2_1, x2_2, x6, x7 =>
    if (decide (x7 < (x2_1.length : Int))) = true then
      if 0 ≤ x7 ∧ x7 < (x2_1.length : Int) then (if (decide (((x2_1.getD x7.toNat ((0 : Int), (0 : Int), (0 : Int))).1) = x1)) = true then
        if x6.length + ([x7] : List (Int)).length ≤ 4398046511104 then (spec_DoorsAt.l0 n K k x1 x2_0 x2_1 x2_2 (x6 ++ ([x7] : List (Int))) (IntKind.wrap .i64 (x7 + (1 : Int)))) else none
      else
        if 0 ≤ x7 ∧ x7 < (x2_1.length : Int) then (if (decide (((x2_1.getD x7.toNat ((0 : Int), (0 : Int), (0 : Int))).2.1) = x1)) = true then
          if x6.length + ([x7] : List (Int)).length ≤ 4398046511104 then (spec_DoorsAt.l0 n K k x1 x2_0 x2_1 x2_2 (x6 ++ ([x7] : List (Int))) (IntKind.wrap .i64 (x7 + (1 : Int)))) else none
        else
          spec_DoorsAt.l0 n K k x1 x2_0 x2_1 x2_2 x6 (IntKind.wrap .i64 (x7 + (1 : Int)))) else none) else none
    else
      K x6
def spec_DoorsAt.F (n : Nat) (x0_0 : Int) (x0_1 : List (Int × Int × Int)) (x0_2 : List (Int)) (x1 : Int) : Option ((List (Int)) × Bool) :=
  (spec_l2Node.F n x0_0 x0_1 x0_2 x1).bind fun r1 =>
  if (!r1) = true then
    some (([] : List (Int)), false)
  else
    spec_DoorsAt.l0 n (fun y2 =>
      some (y2, true)) n x1 x0_0 x0_1 x0_2 ([] : List (Int)) (0 : Int)

/-- loop.example/g01158/spec.IsMaze -/
def spec_IsMaze.F (n : Nat) (x0_0 : Int) (x0_1 : List (Int × Int × Int)) (x0_2 : List (Int)) : Option (Bool) :=
  (spec_l2Maze.F n x0_0 x0_1 x0_2).bind fun r1 =>
  some r1

/-- loop.example/g01158/spec.DrawSetOf -/
def spec_DrawSetOf.l0 (n : Nat) (K : (List (Int)) → Int → Int → (List (Int)) → Option ((List (Int)))) : Nat → (List (Int)) → Int → Int → (List (Int)) → Int → Option ((List (Int)))
  | 0, _, _, _, _, _ => none
  | k + 1, x3_0, x3_1, x3_2, x4, x5 =>
    if (decide (x5 > (0 : Int))) = true then
      (spec_l1Cur_pick.F n x3_0 x3_1 x3_2 (6 : Int)).bind fun r2 =>
      if x4.length + ([r2.2.2.2] : List (Int)).length ≤ 4398046511104 then (spec_DrawSetOf.l0 n K k r2.1 r2.2.1 r2.2.2.1 (x4 ++ ([r2.2.2.2] : List (Int))) (IntKind.wrap .i64 (x5 - (1 : Int)))) else none
    else
      K x3_0 x3_1 x3_2 x4
def spec_DrawSetOf.F (n : Nat) (x0 : List (Int)) : Option ((List (Int))) :=
  (spec_l1Cur_pick.F n x0 (0 : Int) (0 : Int) (5 : Int)).bind fun r1 =>
  spec_DrawSetOf.l0 n (fun y3 y4 y5 y6 =>
    (spec_l1Cur_one.F n y3 y4 y5 (20 : Int)).bind fun r7 =>
    if r7.2.2.2 = true then
      (spec_l1Cur_among.F n r7.1 r7.2.1 r7.2.2.1 ([(6 : Int), (-1 : Int), (5 : Int)] : List (Int))).bind fun r8 =>
      if y6.length + ([r8.2.2.2] : List (Int)).length ≤ 4398046511104 then (some (y6 ++ ([r8.2.2.2] : List (Int)))) else none
    else
      some y6) n r1.1 r1.2.1 r1.2.2.1 ([] : List (Int)) r1.2.2.2

/-- loop.example/g01158/impl.SetOf -/
def impl_SetOf.l0 (n : Nat) (K : Int → Option (Int × Bool)) : Nat → Int → (List (Int)) → Int → Int → Option (Int × Bool)
  | 0, _, _, _, _ => none
  | k + 1, x4, x7, x8, x9 =>
    if (decide (x9 < x8)) = true then
      if 0 ≤ x9 ∧ x9 < (x7.length : Int) then ((impl_within.F n (x7.getD x9.toNat (0 : Int)) (0 : Int) (5 : Int)).bind fun r1 =>
      if (!r1) = true then
        some ((0 : Int), false)
      else
        if (x7.getD x9.toNat (0 : Int)) < 0 then none else (impl_SetOf.l0 n K k (bitOr .i64 x4 (shL .i64 1 (x7.getD x9.toNat (0 : Int)))) x7 x8 (IntKind.wrap .i64 (x9 + (1 : Int))))) else none
    else
      K x4
def impl_SetOf.F (n : Nat) (x0 : List (Int)) : Option (Int × Bool) :=
  impl_SetOf.l0 n (fun y2 =>
    some (y2, true)) n (0 : Int) x0 (x0.length : Int) (0 : Int)

/-- loop.example/g01158/spec.SetOf -/
def spec_SetOf.l0 (n : Nat) (K : Int → Option (Int × Bool)) : Nat → (List (Int)) → Int → Int → Option (Int × Bool)
  | 0, _, _, _ => none
  | k + 1, x0, x4, x5 =>
    if (decide (x5 < (x0.length : Int))) = true then
      if 0 ≤ x5 ∧ x5 < (x0.length : Int) then ((spec_l1In.F n (x0.getD x5.toNat (0 : Int)) (0 : Int) (5 : Int)).bind fun r1 =>
      if (!r1) = true then
        some ((0 : Int), false)
      else
        if 0 ≤ x5 ∧ x5 < (x0.length : Int) then (if (x0.getD x5.toNat (0 : Int)) < 0 then none else (spec_SetOf.l0 n K k x0 (bitOr .i64 x4 (shL .i64 1 (x0.getD x5.toNat (0 : Int)))) (IntKind.wrap .i64 (x5 + (1 : Int))))) else none) else none
    else
      K x4
def spec_SetOf.F (n : Nat) (x0 : List (Int)) : Option (Int × Bool) :=
  spec_SetOf.l0 n (fun y2 =>
    some (y2, true)) n x0 (0 : Int) (0 : Int)

/-- loop.example/g01158/spec.DrawColoursOf -/
def spec_DrawColoursOf.F (n : Nat) (x0 : List (Int)) : Option (Int) :=
  (spec_l1Cur_colours.F n x0 (0 : Int) (0 : Int)).bind fun r1 =>
  some r1.2.2.2

/-- loop.example/g01158/impl.ColoursOf -/
def impl_ColoursOf.F (n : Nat) (x0 : Int) : Option ((List (Int)) × Bool) :=
  (impl_isSet.F n x0).bind fun r1 =>
  if (!r1) = true then
    some (([] : List (Int)), false)
  else
    (impl_members.F n x0).bind fun r2 =>
    some (r2, true)

/-- loop.example/g01158/spec.l2Colours -/
def spec_l2Colours.l0 (n : Nat) (K : (List (Int)) → Option ((List (Int)))) : Nat → Int → (List (Int)) → Int → Option ((List (Int)))
  | 0, _, _, _ => none
  | k + 1, x0, x3, x4 =>
    if (decide (x4 < (6 : Int))) = true then
      if x4 < 0 then none else (if (decide ((bitAnd .i64 (shR .i64 x0 x4) 1) = (1 : Int))) = true then
        if x3.length + ([x4] : List (Int)).length ≤ 4398046511104 then (spec_l2Colours.l0 n K k x0 (x3 ++ ([x4] : List (Int))) (IntKind.wrap .i64 (x4 + (1 : Int)))) else none
      else
        spec_l2Colours.l0 n K k x0 x3 (IntKind.wrap .i64 (x4 + (1 : Int))))
    else
      K x3
def spec_l2Colours.F (n : Nat) (x0 : Int) : Option ((List (Int))) :=
  spec_l2Colours.l0 n (fun y1 =>
    some y1) n x0 ([] : List (Int)) (0 : Int)

/-- loop.example/g01158/spec.ColoursOf -/
def spec_ColoursOf.F (n : Nat) (x0 : Int) : Option ((List (Int)) × Bool) :=
  (spec_l2Set.F n x0).bind fun r1 =>
  if (!r1) = true then
    some (([] : List (Int)), false)
  else
    (spec_l2Colours.F n x0).bind fun r2 =>
    some (r2, true)

/-- loop.example/g01158/impl.numbersText -/
def impl_numbersText.l0 (n : Nat) (K : ByteArray → (List (ByteArray)) → Option (ByteArray)) : Nat → ByteArray → (List (ByteArray)) → (List (Int)) → Int → Int → Option (ByteArray)
  | 0, _, _, _, _, _ => none
  | k + 1, x1, x5, x9, x10, x11 =>
    if (decide (x11 < x10)) = true then
      if 0 ≤ x11 ∧ x11 < (x9.length : Int) then ((strItoa.F n (x9.getD x11.toNat (0 : Int))).bind fun r1 =>
      if x5.length + ([r1] : List (ByteArray)).length ≤ 4398046511104 then (impl_numbersText.l0 n K k x1 (x5 ++ ([r1] : List (ByteArray))) x9 x10 (IntKind.wrap .i64 (x11 + (1 : Int)))) else none) else none
    else
      K x1 x5
def impl_numbersText.F (n : Nat) (x0 : List (Int)) (x1 : ByteArray) : Option (ByteArray) :=
  impl_numbersText.l0 n (fun y2 y3 =>
    (strJoin.F n y3 y2).bind fun r4 =>
    some r4) n x1 ([] : List (ByteArray)) x0 (x0.length : Int) (0 : Int)

/-- loop.example/g01158/impl.MazeText -/
def impl_MazeText.l0 (n : Nat) (K : ByteArray → Option (ByteArray × Bool)) : Nat → ByteArray → (List (Int × Int × Int)) → Int → Int → Option (ByteArray × Bool)
  | 0, _, _, _, _ => none
  | k + 1, x4, x19, x20, x21 =>
    if (decide (x21 < x20)) = true then
      if 0 ≤ x21 ∧ x21 < (x19.length : Int) then ((impl_numbersText.F n ([(x19.getD x21.toNat ((0 : Int), (0 : Int), (0 : Int))).1, (x19.getD x21.toNat ((0 : Int), (0 : Int), (0 : Int))).2.1, (x19.getD x21.toNat ((0 : Int), (0 : Int), (0 : Int))).2.2] : List Int) (⟨#[45]⟩ : ByteArray)).bind fun r4 =>
      if (⟨#[32]⟩ : ByteArray).size + r4.size ≤ 4398046511104 then (if x4.size + ((⟨#[32]⟩ : ByteArray) ++ r4).size ≤ 4398046511104 then (impl_MazeText.l0 n K k (x4 ++ ((⟨#[32]⟩ : ByteArray) ++ r4)) x19 x20 (IntKind.wrap .i64 (x21 + (1 : Int)))) else none) else none) else none
    else
      K x4
def impl_MazeText.F (n : Nat) (x0_0 : Int) (x0_1 : List (Int × Int × Int)) (x0_2 : List (Int)) : Option (ByteArray × Bool) :=
  (impl_IsMaze.F n x0_0 x0_1 x0_2).bind fun r1 =>
  if (!r1) = true then
    some (ByteArray.empty, false)
  else
    (strItoa.F n x0_0).bind fun r2 =>
    if r2.size + (⟨#[32]⟩ : ByteArray).size ≤ 4398046511104 then ((impl_numbersText.F n x0_2 (⟨#[44]⟩ : ByteArray)).bind fun r3 =>
    if (r2 ++ (⟨#[32]⟩ : ByteArray)).size + r3.size ≤ 4398046511104 then (impl_MazeText.l0 n (fun y5 =>
      some (y5, true)) n ((r2 ++ (⟨#[32]⟩ : ByteArray)) ++ r3) x0_1 (x0_1.length : Int) (0 : Int)) else none) else none

/-- loop.example/g01158/spec.l1Num -/
def spec_l1Num.F : Nat → Int → Option (ByteArray)
  | 0, _ => none
  | n + 1, x0 =>
    if (decide (x0 < (0 : Int))) = true then
      (spec_l1Num.F n (IntKind.wrap .i64 (-x0))).bind fun r1 =>
      if (⟨#[45]⟩ : ByteArray).size + r1.size ≤ 4398046511104 then (some ((⟨#[45]⟩ : ByteArray) ++ r1)) else none
    else
      if (decide (x0 < (10 : Int))) = true then
        if 0 ≤ x0 ∧ x0 ≤ (IntKind.wrap .i64 (x0 + (1 : Int))) ∧ (IntKind.wrap .i64 (x0 + (1 : Int))) ≤ ((⟨#[48, 49, 50, 51, 52, 53, 54, 55, 56, 57]⟩ : ByteArray).size : Int) then (some ((⟨#[48, 49, 50, 51, 52, 53, 54, 55, 56, 57]⟩ : ByteArray).extract x0.toNat ((IntKind.wrap .i64 (x0 + (1 : Int))).toNat))) else none
      else
        (spec_l1Num.F n (IntKind.wrap .i64 (Int.tdiv x0 10))).bind fun r2 =>
        if 0 ≤ (Int.tmod x0 10) ∧ (Int.tmod x0 10) ≤ (IntKind.wrap .i64 ((Int.tmod x0 10) + (1 : Int))) ∧ (IntKind.wrap .i64 ((Int.tmod x0 10) + (1 : Int))) ≤ ((⟨#[48, 49, 50, 51, 52, 53, 54, 55, 56, 57]⟩ : ByteArray).size : Int) then (if r2.size + ((⟨#[48, 49, 50, 51, 52, 53, 54, 55, 56, 57]⟩ : ByteArray).extract ((Int.tmod x0 10).toNat) ((IntKind.wrap .i64 ((Int.tmod x0 10) + (1 : Int))).toNat)).size ≤ 4398046511104 then (some (r2 ++ ((⟨#[48, 49, 50, 51, 52, 53, 54, 55, 56, 57]⟩ : ByteArray).extract ((Int.tmod x0 10).toNat) ((IntKind.wrap .i64 ((Int.tmod x0 10) + (1 : Int))).toNat)))) else none) else none

/-- loop.example/g01158/spec.l2Text -/
def spec_l2Text.l0 (n : Nat) (K : Int → (List (Int × Int × Int)) → (List (Int)) → ByteArray → Option (ByteArray)) : Nat → Int → (List (Int × Int × Int)) → (List (Int)) → ByteArray → Int → Option (ByteArray)
  | 0, _, _, _, _, _ => none
  | k + 1, x1_0, x1_1, x1_2, x3, x4 =>
    if (decide (x4 < x1_0)) = true then
      if (decide (x4 > (0 : Int))) = true then
        if x3.size + (⟨#[44]⟩ : ByteArray).size ≤ 4398046511104 then (if 0 ≤ x4 ∧ x4 < (x1_2.length : Int) then ((spec_l1Num.F n (x1_2.getD x4.toNat (0 : Int))).bind fun r2 =>
        if (x3 ++ (⟨#[44]⟩ : ByteArray)).size + r2.size ≤ 4398046511104 then (spec_l2Text.l0 n K k x1_0 x1_1 x1_2 ((x3 ++ (⟨#[44]⟩ : ByteArray)) ++ r2) (IntKind.wrap .i64 (x4 + (1 : Int)))) else none) else none) else none
      else
        if 0 ≤ x4 ∧ x4 < (x1_2.length : Int) then ((spec_l1Num.F n (x1_2.getD x4.toNat (0 : Int))).bind fun r3 =>
        if x3.size + r3.size ≤ 4398046511104 then (spec_l2Text.l0 n K k x1_0 x1_1 x1_2 (x3 ++ r3) (IntKind.wrap .i64 (x4 + (1 : Int)))) else none) else none
    else
      K x1_0 x1_1 x1_2 x3
def spec_l2Text.l2 (n : Nat) (K : ByteArray → Option (ByteArray)) : Nat → Int → (List (Int × Int × Int)) → (List (Int)) → ByteArray → Int → Option (ByteArray)
  | 0, _, _, _, _, _ => none
  | k + 1, x1_0, x1_1, x1_2, x3, x5 =>
    if (decide (x5 < (x1_1.length : Int))) = true then
      if 0 ≤ x5 ∧ x5 < (x1_1.length : Int) then (if x3.size + (⟨#[32]⟩ : ByteArray).size ≤ 4398046511104 then ((spec_l1Num.F n ((x1_1.getD x5.toNat ((0 : Int), (0 : Int), (0 : Int))).1)).bind fun r8 =>
      if (x3 ++ (⟨#[32]⟩ : ByteArray)).size + r8.size ≤ 4398046511104 then (if ((x3 ++ (⟨#[32]⟩ : ByteArray)) ++ r8).size + (⟨#[45]⟩ : ByteArray).size ≤ 4398046511104 then ((spec_l1Num.F n ((x1_1.getD x5.toNat ((0 : Int), (0 : Int), (0 : Int))).2.1)).bind fun r9 =>
      if (((x3 ++ (⟨#[32]⟩ : ByteArray)) ++ r8) ++ (⟨#[45]⟩ : ByteArray)).size + r9.size ≤ 4398046511104 then (if ((((x3 ++ (⟨#[32]⟩ : ByteArray)) ++ r8) ++ (⟨#[45]⟩ : ByteArray)) ++ r9).size + (⟨#[45]⟩ : ByteArray).size ≤ 4398046511104 then ((spec_l1Num.F n ((x1_1.getD x5.toNat ((0 : Int), (0 : Int), (0 : Int))).2.2)).bind fun r10 =>
      if (((((x3 ++ (⟨#[32]⟩ : ByteArray)) ++ r8) ++ (⟨#[45]⟩ : ByteArray)) ++ r9) ++ (⟨#[45]⟩ : ByteArray)).size + r10.size ≤ 4398046511104 then (spec_l2Text.l2 n K k x1_0 x1_1 x1_2 ((((((x3 ++ (⟨#[32]⟩ : ByteArray)) ++ r8) ++ (⟨#[45]⟩ : ByteArray)) ++ r9) ++ (⟨#[45]⟩ : ByteArray)) ++ r10) (IntKind.wrap .i64 (x5 + (1 : Int)))) else none) else none) else none) else none) else none) else none) else none
    else
      K x3
def spec_l2Text.F (n : Nat) (x0_0 : Int) (x0_1 : List (Int × Int × Int)) (x0_2 : List (Int)) : Option (ByteArray) :=
  (spec_l1Num.F n x0_0).bind fun r1 =>
  if r1.size + (⟨#[32]⟩ : ByteArray).size ≤ 4398046511104 then (spec_l2Text.l0 n (fun y4 y5 y6 y7 =>
    spec_l2Text.l2 n (fun y11 =>
      some y11) n y4 y5 y6 y7 (0 : Int)) n x0_0 x0_1 x0_2 (r1 ++ (⟨#[32]⟩ : ByteArray)) (0 : Int)) else none

/-- loop.example/g01158/spec.MazeText -/
def spec_MazeText.F (n : Nat) (x0_0 : Int) (x0_1 : List (Int × Int × Int)) (x0_2 : List (Int)) : Option (ByteArray × Bool) :=
  (spec_l2Maze.F n x0_0 x0_1 x0_2).bind fun r1 =>
  if (!r1) = true then
    some (ByteArray.empty, false)
  else
    (spec_l2Text.F n x0_0 x0_1 x0_2).bind fun r2 =>
    some (r2, true)

/-- loop.example/g01158/impl.numbers -/
def impl_numbers.l0 (n : Nat) (K : (List (Int)) → Option ((List (Int)) × Bool)) : Nat → (List (Int)) → (List (ByteArray)) → Int → Int → Option ((List (Int)) × Bool)
  | 0, _, _, _, _ => none
  | k + 1, x6, x14, x15, x16 =>
    if (decide (x16 < x15)) = true then
      if 0 ≤ x16 ∧ x16 < (x14.length : Int) then ((strParse.F n (x14.getD x16.toNat ByteArray.empty)).bind fun r2 =>
      if (!r2.2) = true then
        some (([] : List (Int)), false)
      else
        if x6.length + ([r2.1] : List (Int)).length ≤ 4398046511104 then (impl_numbers.l0 n K k (x6 ++ ([r2.1] : List (Int))) x14 x15 (IntKind.wrap .i64 (x16 + (1 : Int)))) else none) else none
    else
      K x6
def impl_numbers.F (n : Nat) (x0 : ByteArray) (x1 : ByteArray) : Option ((List (Int)) × Bool) :=
  (strSplit.F n x0 x1).bind fun r1 =>
  impl_numbers.l0 n (fun y3 =>
    some (y3, true)) n ([] : List (Int)) r1 (r1.length : Int) (0 : Int)

/-- loop.example/g01158/impl.ParseMaze -/
def impl_ParseMaze.l0 (n : Nat) (K : Int → (List (Int × Int × Int)) → (List (Int)) → Bool → Bool → Int → (List (Int × Int × Int)) → (List (Int)) → Option (Int × (List (Int × Int × Int)) × (List (Int)) × Bool)) : Nat → Int → (List (Int × Int × Int)) → (List (Int)) → Bool → Bool → Int → (List (Int × Int × Int)) → (List (Int)) → (List (ByteArray)) → Int → Int → Option (Int × (List (Int × Int × Int)) × (List (Int)) × Bool)
  | 0, _, _, _, _, _, _, _, _, _, _, _ => none
  | k + 1, x2_0, x2_1, x2_2, x6, x8, x9_0, x9_1, x9_2, x43, x44, x45 =>
    if (decide (x45 < x44)) = true then
      if 0 ≤ x45 ∧ x45 < (x43.length : Int) then ((impl_numbers.F n (x43.getD x45.toNat ByteArray.empty) (⟨#[45]⟩ : ByteArray)).bind fun r4 =>
      if (!r4.2) = true then
        some ((0 : Int), ([] : List (Int × Int × Int)), ([] : List (Int)), false)
      else
        if (!decide ((r4.1.length : Int) = (3 : Int))) = true then
          some ((0 : Int), ([] : List (Int × Int × Int)), ([] : List (Int)), false)
        else
          if 1 ≤ 3 ∧ 3 ≤ r4.1.length then (if 0 + 3 ≤ r4.1.length then (if x9_1.length + ([(r4.1.getD 0 (0 : Int), r4.1.getD 1 (0 : Int), r4.1.getD 2 (0 : Int))] : List (Int × Int × Int)).length ≤ 4398046511104 then (impl_ParseMaze.l0 n K k x2_0 x2_1 x2_2 x6 x8 x9_0 (x9_1 ++ ([(r4.1.getD 0 (0 : Int), r4.1.getD 1 (0 : Int), r4.1.getD 2 (0 : Int))] : List (Int × Int × Int))) x9_2 x43 x44 (IntKind.wrap .i64 (x45 + (1 : Int)))) else none) else none) else none) else none
    else
      K x2_0 x2_1 x2_2 x6 x8 x9_0 x9_1 x9_2
def impl_ParseMaze.F (n : Nat) (x0 : ByteArray) : Option (Int × (List (Int × Int × Int)) × (List (Int)) × Bool) :=
  (strSplit.F n x0 (⟨#[32]⟩ : ByteArray)).bind fun r1 =>
  let j4 : (Int) → (List (Int × Int × Int)) → (List (Int)) → (List (ByteArray)) → Option (Int × (List (Int × Int × Int)) × (List (Int)) × Bool) := fun j4_x2_0 j4_x2_1 j4_x2_2 j4_x4 =>
    if 0 ≤ (0 : Int) ∧ (0 : Int) < (j4_x4.length : Int) then ((strParse.F n (j4_x4.getD 0 ByteArray.empty)).bind fun r2 =>
    if 0 ≤ (1 : Int) ∧ (1 : Int) < (j4_x4.length : Int) then ((impl_numbers.F n (j4_x4.getD 1 ByteArray.empty) (⟨#[44]⟩ : ByteArray)).bind fun r3 =>
    if 0 ≤ (2 : Int) ∧ (2 : Int) ≤ (j4_x4.length : Int) then (impl_ParseMaze.l0 n (fun y5 y6 y7 y8 y9 y10 y11 y12 =>
      if (!y8) = true then
        some ((0 : Int), ([] : List (Int × Int × Int)), ([] : List (Int)), false)
      else
        if (!y9) = true then
          some ((0 : Int), ([] : List (Int × Int × Int)), ([] : List (Int)), false)
        else
          (impl_IsMaze.F n y10 y11 y12).bind fun r13 =>
          if (!r13) = true then
            some ((0 : Int), ([] : List (Int × Int × Int)), ([] : List (Int)), false)
          else
            some (y10, y11, y12, true)) n j4_x2_0 j4_x2_1 j4_x2_2 r2.2 r3.2 r2.1 ([] : List (Int × Int × Int)) r3.1 (j4_x4.drop 2) ((j4_x4.drop 2).length : Int) (0 : Int)) else none) else none) else none
  if (decide ((x0.size : Int) > (4000 : Int))) = true then
    some ((0 : Int), ([] : List (Int × Int × Int)), ([] : List (Int)), false)
  else
    if (decide ((r1.length : Int) < (2 : Int))) = true then
      some ((0 : Int), ([] : List (Int × Int × Int)), ([] : List (Int)), false)
    else
      j4 (0 : Int) ([] : List (Int × Int × Int)) ([] : List (Int)) r1

/-- loop.example/g01158/laws.rMaze -/
def laws_rMaze.l0 (n : Nat) (K : Unit → Option (Bool)) : Nat → Int → (List (Int × Int × Int)) → (List (Int)) → Int → (List (Int × Int × Int)) → (List (Int)) → Int → Option (Bool)
  | 0, _, _, _, _, _, _, _ => none
  | k + 1, x2_0, x2_1, x2_2, x3_0, x3_1, x3_2, x5 =>
    if (decide (x5 < (x2_1.length : Int))) = true then
      if 0 ≤ x5 ∧ x5 < (x2_1.length : Int) then (if 0 ≤ x5 ∧ x5 < (x3_1.length : Int) then (if (!(decide (((x2_1.getD x5.toNat ((0 : Int), (0 : Int), (0 : Int))).1) = ((x3_1.getD x5.toNat ((0 : Int), (0 : Int), (0 : Int))).1)) && (decide (((x2_1.getD x5.toNat ((0 : Int), (0 : Int), (0 : Int))).2.1) = ((x3_1.getD x5.toNat ((0 : Int), (0 : Int), (0 : Int))).2.1)) && (decide (((x2_1.getD x5.toNat ((0 : Int), (0 : Int), (0 : Int))).2.2) = ((x3_1.getD x5.toNat ((0 : Int), (0 : Int), (0 : Int))).2.2)) && true)))) = true then
        some false
      else
        laws_rMaze.l0 n K k x2_0 x2_1 x2_2 x3_0 x3_1 x3_2 (IntKind.wrap .i64 (x5 + (1 : Int)))) else none) else none
    else
      K ()
def laws_rMaze.F (n : Nat) (x0_0 : Int) (x0_1 : List (Int × Int × Int)) (x0_2 : List (Int)) (x1_0 : Int) (x1_1 : List (Int × Int × Int)) (x1_2 : List (Int)) : Option (Bool) :=
  if (!decide (x0_0 = x1_0)) = true then
    some false
  else
    if (!decide ((x0_1.length : Int) = (x1_1.length : Int))) = true then
      some false
    else
      (laws_rInts.F n x0_2 x1_2).bind fun r1 =>
      if (!r1) = true then
        some false
      else
        laws_rMaze.l0 n (fun _ =>
          some true) n x0_0 x0_1 x0_2 x1_0 x1_1 x1_2 (0 : Int)

/-- (*loop.example/g01158/spec.l1Cur).spoilt -/
def spec_l1Cur_spoilt.F (n : Nat) (x0_0 : List (Int)) (x0_1 : Int) (x0_2 : Int) (x1 : ByteArray) (x2 : ByteArray) : Option ((List (Int)) × Int × Int × ByteArray) :=
  if (x1.toList == ByteArray.empty.toList) = true then
    if 0 ≤ (1 : Int) ∧ (1 : Int) ≤ (x2.size : Int) then (some (x0_0, x0_1, x0_2, (x2.extract 0 1))) else none
  else
    (spec_l1Cur_pick.F n x0_0 x0_1 x0_2 (x1.size : Int)).bind fun r1 =>
    (spec_l1Cur_pick.F n r1.1 r1.2.1 r1.2.2.1 (x2.size : Int)).bind fun r2 =>
    if 0 ≤ r2.2.2.2 ∧ r2.2.2.2 ≤ (x2.size : Int) then (if 0 ≤ (1 : Int) ∧ (1 : Int) ≤ ((x2.extract r2.2.2.2.toNat x2.size).size : Int) then ((spec_l1Cur_pick.F n r2.1 r2.2.1 r2.2.2.1 (3 : Int)).bind fun r3 =>
    if (decide (r3.2.2.2 = (0 : Int))) = true then
      if 0 ≤ r1.2.2.2 ∧ r1.2.2.2 ≤ (x1.size : Int) then (if (x1.extract 0 r1.2.2.2.toNat).size + ((x2.extract r2.2.2.2.toNat x2.size).extract 0 1).size ≤ 4398046511104 then (if 0 ≤ r1.2.2.2 ∧ r1.2.2.2 ≤ (x1.size : Int) then (if ((x1.extract 0 r1.2.2.2.toNat) ++ ((x2.extract r2.2.2.2.toNat x2.size).extract 0 1)).size + (x1.extract r1.2.2.2.toNat x1.size).size ≤ 4398046511104 then (some (r3.1, r3.2.1, r3.2.2.1, (((x1.extract 0 r1.2.2.2.toNat) ++ ((x2.extract r2.2.2.2.toNat x2.size).extract 0 1)) ++ (x1.extract r1.2.2.2.toNat x1.size)))) else none) else none) else none) else none
    else
      if (decide (r3.2.2.2 = (1 : Int))) = true then
        if 0 ≤ r1.2.2.2 ∧ r1.2.2.2 ≤ (x1.size : Int) then (if (x1.extract 0 r1.2.2.2.toNat).size + ((x2.extract r2.2.2.2.toNat x2.size).extract 0 1).size ≤ 4398046511104 then (if 0 ≤ (IntKind.wrap .i64 (r1.2.2.2 + (1 : Int))) ∧ (IntKind.wrap .i64 (r1.2.2.2 + (1 : Int))) ≤ (x1.size : Int) then (if ((x1.extract 0 r1.2.2.2.toNat) ++ ((x2.extract r2.2.2.2.toNat x2.size).extract 0 1)).size + (x1.extract ((IntKind.wrap .i64 (r1.2.2.2 + (1 : Int))).toNat) x1.size).size ≤ 4398046511104 then (some (r3.1, r3.2.1, r3.2.2.1, (((x1.extract 0 r1.2.2.2.toNat) ++ ((x2.extract r2.2.2.2.toNat x2.size).extract 0 1)) ++ (x1.extract ((IntKind.wrap .i64 (r1.2.2.2 + (1 : Int))).toNat) x1.size)))) else none) else none) else none) else none
      else
        if 0 ≤ r1.2.2.2 ∧ r1.2.2.2 ≤ (x1.size : Int) then (if 0 ≤ (IntKind.wrap .i64 (r1.2.2.2 + (1 : Int))) ∧ (IntKind.wrap .i64 (r1.2.2.2 + (1 : Int))) ≤ (x1.size : Int) then (if (x1.extract 0 r1.2.2.2.toNat).size + (x1.extract ((IntKind.wrap .i64 (r1.2.2.2 + (1 : Int))).toNat) x1.size).size ≤ 4398046511104 then (some (r3.1, r3.2.1, r3.2.2.1, ((x1.extract 0 r1.2.2.2.toNat) ++ (x1.extract ((IntKind.wrap .i64 (r1.2.2.2 + (1 : Int))).toNat) x1.size)))) else none) else none) else none) else none) else none

/-- loop.example/g01158/spec.DrawParseMaze -/
def spec_DrawParseMaze.F (n : Nat) (x0 : List (Int)) : Option (ByteArray) :=
  (spec_l1Cur_maze.F n x0 (0 : Int) (0 : Int)).bind fun r1 =>
  (spec_l2Maze.F n r1.2.2.2.1 r1.2.2.2.2.1 r1.2.2.2.2.2).bind fun r2 =>
  if r2 = true then
    (spec_l2Text.F n r1.2.2.2.1 r1.2.2.2.2.1 r1.2.2.2.2.2).bind fun r3 =>
    (spec_l1Cur_one.F n r1.1 r1.2.1 r1.2.2.1 (3 : Int)).bind fun r4 =>
    if r4.2.2.2 = true then
      (spec_l1Cur_spoilt.F n r4.1 r4.2.1 r4.2.2.1 r3 (⟨#[48, 49, 50, 51, 44, 32, 45]⟩ : ByteArray)).bind fun r5 =>
      some r5.2.2.2
    else
      some r3
  else
    (spec_l1Cur_one.F n r1.1 r1.2.1 r1.2.2.1 (3 : Int)).bind fun r6 =>
    if r6.2.2.2 = true then
      (spec_l1Cur_spoilt.F n r6.1 r6.2.1 r6.2.2.1 (⟨#[50, 32, 49, 44, 48, 32, 48, 45, 49, 45, 49]⟩ : ByteArray) (⟨#[48, 49, 50, 51, 44, 32, 45]⟩ : ByteArray)).bind fun r7 =>
      some r7.2.2.2
    else
      some (⟨#[50, 32, 49, 44, 48, 32, 48, 45, 49, 45, 49]⟩ : ByteArray)

/-- loop.example/g01158/spec.l1Split -/
def spec_l1Split.l0 (n : Nat) (K : ByteArray → (List (ByteArray)) → Int → Option ((List (ByteArray)))) : Nat → ByteArray → Int → (List (ByteArray)) → Int → Int → Option ((List (ByteArray)))
  | 0, _, _, _, _, _ => none
  | k + 1, x0, x1, x5, x6, x7 =>
    if (decide (x7 < (x0.size : Int))) = true then
      if 0 ≤ x7 ∧ x7 < (x0.size : Int) then (if (decide ((bAt x0 x7.toNat) = x1)) = true then
        if 0 ≤ x6 ∧ x6 ≤ x7 ∧ x7 ≤ (x0.size : Int) then (if x5.length + ([x0.extract x6.toNat x7.toNat] : List (ByteArray)).length ≤ 4398046511104 then (spec_l1Split.l0 n K k x0 x1 (x5 ++ ([x0.extract x6.toNat x7.toNat] : List (ByteArray))) (IntKind.wrap .i64 (x7 + (1 : Int))) (IntKind.wrap .i64 (x7 + (1 : Int)))) else none) else none
      else
        spec_l1Split.l0 n K k x0 x1 x5 x6 (IntKind.wrap .i64 (x7 + (1 : Int)))) else none
    else
      K x0 x5 x6
def spec_l1Split.F (n : Nat) (x0 : ByteArray) (x1 : Int) : Option ((List (ByteArray))) :=
  spec_l1Split.l0 n (fun y1 y2 y3 =>
    if 0 ≤ y3 ∧ y3 ≤ (y1.size : Int) then (if y2.length + ([y1.extract y3.toNat y1.size] : List (ByteArray)).length ≤ 4398046511104 then (some (y2 ++ ([y1.extract y3.toNat y1.size] : List (ByteArray)))) else none) else none) n x0 x1 ([] : List (ByteArray)) (0 : Int) (0 : Int)

/-- loop.example/g01158/spec.l1Read -/
def spec_l1Read.l0 (n : Nat) (K : ByteArray → ByteArray → Int → Option (Int × Bool)) : Nat → ByteArray → ByteArray → Int → Int → Option (Int × Bool)
  | 0, _, _, _, _ => none
  | k + 1, x0, x4, x5, x6 =>
    if (decide (x6 < (x4.size : Int))) = true then
      if 0 ≤ x6 ∧ x6 < (x4.size : Int) then (if (decide ((bAt x4 x6.toNat) < (48 : Int))) = true then
        some ((0 : Int), false)
      else
        if 0 ≤ x6 ∧ x6 < (x4.size : Int) then (if (decide ((bAt x4 x6.toNat) > (57 : Int))) = true then
          some ((0 : Int), false)
        else
          if 0 ≤ x6 ∧ x6 < (x4.size : Int) then (spec_l1Read.l0 n K k x0 x4 (IntKind.wrap .i64 ((IntKind.wrap .i64 ((10 : Int) * x5)) + (IntKind.wrap .i64 (IntKind.wrap .u8 ((bAt x4 x6.toNat) - (48 : Int)))))) (IntKind.wrap .i64 (x6 + (1 : Int)))) else none) else none) else none
    else
      K x0 x4 x5
def spec_l1Read.F (n : Nat) (x0 : ByteArray) : Option (Int × Bool) :=
  let j4 : (ByteArray) → (ByteArray) → Option (Int × Bool) := fun j4_x0 j4_x4 =>
    (spec_l1In.F n (j4_x4.size : Int) (1 : Int) (6 : Int)).bind fun r1 =>
    if (!r1) = true then
      some ((0 : Int), false)
    else
      spec_l1Read.l0 n (fun y2 y3 y4 =>
        if (decide ((y3.size : Int) < (y2.size : Int))) = true then
          (spec_l1Num.F n (IntKind.wrap .i64 (-y4))).bind fun r5 =>
          if (!(r5.toList == y2.toList)) = true then
            some ((0 : Int), false)
          else
            some (IntKind.wrap .i64 (-y4), true)
        else
          (spec_l1Num.F n y4).bind fun r6 =>
          if (!(r6.toList == y2.toList)) = true then
            some ((0 : Int), false)
          else
            some (y4, true)) n j4_x0 j4_x4 (0 : Int) (0 : Int)
  if (decide ((x0.size : Int) > (1 : Int))) = true then
    if 0 ≤ (0 : Int) ∧ (0 : Int) < (x0.size : Int) then (if (decide ((bAt x0 0) = (45 : Int))) = true then
      if 0 ≤ (1 : Int) ∧ (1 : Int) ≤ (x0.size : Int) then (j4 x0 (x0.extract 1 x0.size)) else none
    else
      j4 x0 x0) else none
  else
    j4 x0 x0

/-- loop.example/g01158/spec.l2Numbers -/
def spec_l2Numbers.l0 (n : Nat) (K : (List (Int)) → Option ((List (Int)) × Bool)) : Nat → Int → (List (Int)) → (List (ByteArray)) → Int → Option ((List (Int)) × Bool)
  | 0, _, _, _, _ => none
  | k + 1, x2, x8, x9, x10 =>
    if (decide (x10 < (x9.length : Int))) = true then
      if (decide (x10 ≤ x2)) = true then
        if 0 ≤ x10 ∧ x10 < (x9.length : Int) then ((spec_l1Read.F n (x9.getD x10.toNat ByteArray.empty)).bind fun r2 =>
        if (!r2.2) = true then
          some (([] : List (Int)), false)
        else
          if x8.length + ([r2.1] : List (Int)).length ≤ 4398046511104 then (spec_l2Numbers.l0 n K k x2 (x8 ++ ([r2.1] : List (Int))) x9 (IntKind.wrap .i64 (x10 + (1 : Int)))) else none) else none
      else
        K x8
    else
      K x8
def spec_l2Numbers.F (n : Nat) (x0 : ByteArray) (x1 : Int) (x2 : Int) : Option ((List (Int)) × Bool) :=
  (spec_l1Split.F n x0 x1).bind fun r1 =>
  spec_l2Numbers.l0 n (fun y3 =>
    some (y3, true)) n x2 ([] : List (Int)) r1 (0 : Int)

/-- loop.example/g01158/spec.ParseMaze -/
def spec_ParseMaze.l0 (n : Nat) (K : ByteArray → Int → (List (Int × Int × Int)) → (List (Int)) → Bool → Bool → Int → (List (Int × Int × Int)) → (List (Int)) → Option (Int × (List (Int × Int × Int)) × (List (Int)) × Bool)) : Nat → ByteArray → Int → (List (Int × Int × Int)) → (List (Int)) → (List (ByteArray)) → Bool → Bool → Int → (List (Int × Int × Int)) → (List (Int)) → Int → Option (Int × (List (Int × Int × Int)) × (List (Int)) × Bool)
  | 0, _, _, _, _, _, _, _, _, _, _, _ => none
  | k + 1, x0, x2_0, x2_1, x2_2, x4, x6, x8, x9_0, x9_1, x9_2, x10 =>
    if (decide (x10 < (x4.length : Int))) = true then
      if x6 = true then
        if x8 = true then
          if 0 ≤ x10 ∧ x10 < (x4.length : Int) then ((spec_l2Numbers.F n (x4.getD x10.toNat ByteArray.empty) (45 : Int) (3 : Int)).bind fun r5 =>
          if (!r5.2) = true then
            some ((0 : Int), ([] : List (Int × Int × Int)), ([] : List (Int)), false)
          else
            if (!decide ((r5.1.length : Int) = (3 : Int))) = true then
              some ((0 : Int), ([] : List (Int × Int × Int)), ([] : List (Int)), false)
            else
              if 0 ≤ (0 : Int) ∧ (0 : Int) < (r5.1.length : Int) then (if 0 ≤ (1 : Int) ∧ (1 : Int) < (r5.1.length : Int) then (if 0 ≤ (2 : Int) ∧ (2 : Int) < (r5.1.length : Int) then (if x9_1.length + ([(r5.1.getD 0 (0 : Int), r5.1.getD 1 (0 : Int), r5.1.getD 2 (0 : Int))] : List (Int × Int × Int)).length ≤ 4398046511104 then (spec_ParseMaze.l0 n K k x0 x2_0 x2_1 x2_2 x4 x6 x8 x9_0 (x9_1 ++ ([(r5.1.getD 0 (0 : Int), r5.1.getD 1 (0 : Int), r5.1.getD 2 (0 : Int))] : List (Int × Int × Int))) x9_2 (IntKind.wrap .i64 (x10 + (1 : Int)))) else none) else none) else none) else none) else none
        else
          K x0 x2_0 x2_1 x2_2 x6 x8 x9_0 x9_1 x9_2
      else
        K x0 x2_0 x2_1 x2_2 x6 x8 x9_0 x9_1 x9_2
    else
      K x0 x2_0 x2_1 x2_2 x6 x8 x9_0 x9_1 x9_2
def spec_ParseMaze.c14 (n : Nat) (x0 : ByteArray) (x2_0 : Int) (x2_1 : List (Int × Int × Int)) (x2_2 : List (Int)) (x6 : Bool) (x8 : Bool) (x9_0 : Int) (x9_1 : List (Int × Int × Int)) (x9_2 : List (Int)) : Option (Int × (List (Int × Int × Int)) × (List (Int)) × Bool) :=
  if (!x6) = true then
    some ((0 : Int), ([] : List (Int × Int × Int)), ([] : List (Int)), false)
  else
    if (!x8) = true then
      some ((0 : Int), ([] : List (Int × Int × Int)), ([] : List (Int)), false)
    else
      (spec_l2Maze.F n x9_0 x9_1 x9_2).bind fun r15 =>
      if (!r15) = true then
        some ((0 : Int), ([] : List (Int × Int × Int)), ([] : List (Int)), false)
      else
        (spec_l2Text.F n x9_0 x9_1 x9_2).bind fun r16 =>
        if (!(r16.toList == x0.toList)) = true then
          some ((0 : Int), ([] : List (Int × Int × Int)), ([] : List (Int)), false)
        else
          some (x9_0, x9_1, x9_2, true)
def spec_ParseMaze.c6 (n : Nat) (x0 : ByteArray) (x2_0 : Int) (x2_1 : List (Int × Int × Int)) (x2_2 : List (Int)) (x4 : List (ByteArray)) (x5 : Int) (x6 : Bool) (x7 : List (Int)) (x8 : Bool) : Option (Int × (List (Int × Int × Int)) × (List (Int)) × Bool) :=
  spec_ParseMaze.l0 n (fun y6 y7 y8 y9 y10 y11 y12 y13 y14 =>
    spec_ParseMaze.c14 n y6 y7 y8 y9 y10 y11 y12 y13 y14) n x0 x2_0 x2_1 x2_2 x4 x6 x8 x5 ([] : List (Int × Int × Int)) x7 (2 : Int)
def spec_ParseMaze.F (n : Nat) (x0 : ByteArray) : Option (Int × (List (Int × Int × Int)) × (List (Int)) × Bool) :=
  (spec_l1Split.F n x0 (32 : Int)).bind fun r1 =>
  (spec_l1In.F n (r1.length : Int) (2 : Int) (32 : Int)).bind fun r2 =>
  if (!r2) = true then
    some ((0 : Int), ([] : List (Int × Int × Int)), ([] : List (Int)), false)
  else
    if 0 ≤ (0 : Int) ∧ (0 : Int) < (r1.length : Int) then ((spec_l1Read.F n (r1.getD 0 ByteArray.empty)).bind fun r3 =>
    if 0 ≤ (1 : Int) ∧ (1 : Int) < (r1.length : Int) then ((spec_l2Numbers.F n (r1.getD 1 ByteArray.empty) (44 : Int) (12 : Int)).bind fun r4 =>
    spec_ParseMaze.c6 n x0 (0 : Int) ([] : List (Int × Int × Int)) ([] : List (Int)) r1 r3.1 r3.2 r4.1 r4.2) else none) else none

/-- loop.example/g01158/laws.rHas -/
def laws_rHas.l0 (n : Nat) (K : Unit → Option (Bool)) : Nat → (List (Int)) → Int → Int → Option (Bool)
  | 0, _, _, _ => none
  | k + 1, x0, x1, x5 =>
    if (decide (x5 < (x0.length : Int))) = true then
      if 0 ≤ x5 ∧ x5 < (x0.length : Int) then (if (decide ((x0.getD x5.toNat (0 : Int)) = x1)) = true then
        some true
      else
        laws_rHas.l0 n K k x0 x1 (IntKind.wrap .i64 (x5 + (1 : Int)))) else none
    else
      K ()
def laws_rHas.F (n : Nat) (x0 : List (Int)) (x1 : Int) : Option (Bool) :=
  laws_rHas.l0 n (fun _ =>
    some false) n x0 x1 (0 : Int)

/-- loop.example/g01158/laws.FnOpenDoors -/
def laws_FnOpenDoors.l2 (n : Nat) (K : Bool → Bool → Option (Bool)) : Nat → Int → Bool → (List (Int)) → Bool → Int → Option (Bool)
  | 0, _, _, _, _, _ => none
  | k + 1, x6, x7, x11, x61, x62 =>
    if (decide (x62 < (x11.length : Int))) = true then
      if x61 = true then
        laws_FnOpenDoors.l2 n K k x6 x7 x11 true (IntKind.wrap .i64 (x62 + (1 : Int)))
      else
        if 0 ≤ x62 ∧ x62 < (x11.length : Int) then (if 0 ≤ x62 ∧ x62 < (x11.length : Int) then (laws_FnOpenDoors.l2 n K k x6 x7 x11 (decide ((bitAnd .i64 x6 (x11.getD x62.toNat (0 : Int))) = (x11.getD x62.toNat (0 : Int)))) (IntKind.wrap .i64 (x62 + (1 : Int)))) else none) else none
    else
      K x7 x61
def laws_FnOpenDoors.l0 (n : Nat) (K : Int → Bool → Bool → (List (Int)) → Option (Bool)) : Nat → Int → Bool → Bool → (List (Int)) → (List (Int)) → (List (Int)) → Int → Option (Bool)
  | 0, _, _, _, _, _, _, _ => none
  | k + 1, x6, x7, x8, x11, x25, x58, x60 =>
    if (decide (x60 < (x25.length : Int))) = true then
      if 0 ≤ x60 ∧ x60 < (x25.length : Int) then ((laws_rHas.F n x58 (x25.getD x60.toNat (0 : Int))).bind fun r40 =>
      if (!r40) = true then
        some false
      else
        laws_FnOpenDoors.l0 n K k x6 x7 x8 x11 x25 x58 (IntKind.wrap .i64 (x60 + (1 : Int)))) else none
    else
      K x6 x7 x8 x11
def laws_FnOpenDoors.c63 (n : Nat) (x6 : Int) (x7 : Bool) (x8 : Bool) (x11 : List (Int)) : Option (Bool) :=
  if (!x8) = true then
    some true
  else
    laws_FnOpenDoors.l2 n (fun y45 y46 =>
      some (y46 == y45)) n x6 x7 x11 false (0 : Int)
def laws_FnOpenDoors.c54 (n : Nat) (x6 : Int) (x7 : Bool) (x8 : Bool) (x11 : List (Int)) (x22_0 : Int) (x22_1 : List (Int × Int × Int)) (x22_2 : List (Int)) (x23 : Int) (x24 : Int) (x25 : List (Int)) (x26 : Bool) : Option (Bool) :=
  if x26 = true then
    (impl_ReachWith.F n x22_0 x22_1 x22_2 x23 (bitOr .i64 x24 5)).bind fun r38 =>
    if (!r38.2) = true then
      some false
    else
      (laws_rHas.F n x25 x23).bind fun r39 =>
      if (!r39) = true then
        some false
      else
        laws_FnOpenDoors.l0 n (fun y41 y42 y43 y44 =>
          laws_FnOpenDoors.c63 n y41 y42 y43 y44) n x6 x7 x8 x11 x25 r38.1 (0 : Int)
  else
    laws_FnOpenDoors.c63 n x6 x7 x8 x11
def laws_FnOpenDoors.c49 (n : Nat) (x0 : List (Int)) (x6 : Int) (x7 : Bool) (x8 : Bool) (x11 : List (Int)) (x22_0 : Int) (x22_1 : List (Int × Int × Int)) (x22_2 : List (Int)) (x23 : Int) (x24 : Int) (x25 : List (Int)) (x26 : Bool) : Option (Bool) :=
  (spec_DrawParseMaze.F n x0).bind fun r34 =>
  (impl_ParseMaze.F n r34).bind fun r35 =>
  (spec_ParseMaze.F n r34).bind fun r36 =>
  if (!(r35.2.2.2 == r36.2.2.2)) = true then
    some false
  else
    (laws_rMaze.F n r35.1 r35.2.1 r35.2.2.1 r36.1 r36.2.1 r36.2.2.1).bind fun r37 =>
    if (!r37) = true then
      some false
    else
      laws_FnOpenDoors.c54 n x6 x7 x8 x11 x22_0 x22_1 x22_2 x23 x24 x25 x26
def laws_FnOpenDoors.c45 (n : Nat) (x0 : List (Int)) (x3_0 : Int) (x3_1 : List (Int × Int × Int)) (x3_2 : List (Int)) (x6 : Int) (x7 : Bool) (x8 : Bool) (x11 : List (Int)) (x22_0 : Int) (x22_1 : List (Int × Int × Int)) (x22_2 : List (Int)) (x23 : Int) (x24 : Int) (x25 : List (Int)) (x26 : Bool) (x47 : ByteArray) (x48 : Bool) : Option (Bool) :=
  if x48 = true then
    (impl_ParseMaze.F n x47).bind fun r32 =>
    if (!r32.2.2.2) = true then
      some false
    else
      (laws_rMaze.F n r32.1 r32.2.1 r32.2.2.1 x3_0 x3_1 x3_2).bind fun r33 =>
      if (!r33) = true then
        some false
      else
        laws_FnOpenDoors.c49 n x0 x6 x7 x8 x11 x22_0 x22_1 x22_2 x23 x24 x25 x26
  else
    laws_FnOpenDoors.c49 n x0 x6 x7 x8 x11 x22_0 x22_1 x22_2 x23 x24 x25 x26
def laws_FnOpenDoors.c41 (n : Nat) (x0 : List (Int)) (x3_0 : Int) (x3_1 : List (Int × Int × Int)) (x3_2 : List (Int)) (x6 : Int) (x7 : Bool) (x8 : Bool) (x11 : List (Int)) (x22_0 : Int) (x22_1 : List (Int × Int × Int)) (x22_2 : List (Int)) (x23 : Int) (x24 : Int) (x25 : List (Int)) (x26 : Bool) : Option (Bool) :=
  (impl_MazeText.F n x3_0 x3_1 x3_2).bind fun r30 =>
  (spec_MazeText.F n x3_0 x3_1 x3_2).bind fun r31 =>
  if (!(r30.1.toList == r31.1.toList)) = true then
    some false
  else
    if (!(r30.2 == r31.2)) = true then
      some false
    else
      laws_FnOpenDoors.c45 n x0 x3_0 x3_1 x3_2 x6 x7 x8 x11 x22_0 x22_1 x22_2 x23 x24 x25 x26 r30.1 r30.2
def laws_FnOpenDoors.c37 (n : Nat) (x0 : List (Int)) (x3_0 : Int) (x3_1 : List (Int × Int × Int)) (x3_2 : List (Int)) (x6 : Int) (x7 : Bool) (x8 : Bool) (x11 : List (Int)) (x22_0 : Int) (x22_1 : List (Int × Int × Int)) (x22_2 : List (Int)) (x23 : Int) (x24 : Int) (x25 : List (Int)) (x26 : Bool) (x40 : Int) (x41 : List (Int)) (x42 : Bool) : Option (Bool) :=
  if x42 = true then
    (impl_SetOf.F n x41).bind fun r29 =>
    if (!r29.2) = true then
      some false
    else
      if (!decide (r29.1 = x40)) = true then
        some false
      else
        laws_FnOpenDoors.c41 n x0 x3_0 x3_1 x3_2 x6 x7 x8 x11 x22_0 x22_1 x22_2 x23 x24 x25 x26
  else
    laws_FnOpenDoors.c41 n x0 x3_0 x3_1 x3_2 x6 x7 x8 x11 x22_0 x22_1 x22_2 x23 x24 x25 x26
def laws_FnOpenDoors.c32 (n : Nat) (x0 : List (Int)) (x3_0 : Int) (x3_1 : List (Int × Int × Int)) (x3_2 : List (Int)) (x6 : Int) (x7 : Bool) (x8 : Bool) (x11 : List (Int)) (x22_0 : Int) (x22_1 : List (Int × Int × Int)) (x22_2 : List (Int)) (x23 : Int) (x24 : Int) (x25 : List (Int)) (x26 : Bool) : Option (Bool) :=
  (spec_DrawColoursOf.F n x0).bind fun r25 =>
  (impl_ColoursOf.F n r25).bind fun r26 =>
  (spec_ColoursOf.F n r25).bind fun r27 =>
  if (!(r26.2 == r27.2)) = true then
    some false
  else
    (laws_rInts.F n r26.1 r27.1).bind fun r28 =>
    if (!r28) = true then
      some false
    else
      laws_FnOpenDoors.c37 n x0 x3_0 x3_1 x3_2 x6 x7 x8 x11 x22_0 x22_1 x22_2 x23 x24 x25 x26 r25 r26.1 r26.2
def laws_FnOpenDoors.c27 (n : Nat) (x0 : List (Int)) (x3_0 : Int) (x3_1 : List (Int × Int × Int)) (x3_2 : List (Int)) (x6 : Int) (x7 : Bool) (x8 : Bool) (x11 : List (Int)) (x22_0 : Int) (x22_1 : List (Int × Int × Int)) (x22_2 : List (Int)) (x23 : Int) (x24 : Int) (x25 : List (Int)) (x26 : Bool) : Option (Bool) :=
  (spec_DrawSetOf.F n x0).bind fun r22 =>
  (impl_SetOf.F n r22).bind fun r23 =>
  (spec_SetOf.F n r22).bind fun r24 =>
  if (!decide (r23.1 = r24.1)) = true then
    some false
  else
    if (!(r23.2 == r24.2)) = true then
      some false
    else
      laws_FnOpenDoors.c32 n x0 x3_0 x3_1 x3_2 x6 x7 x8 x11 x22_0 x22_1 x22_2 x23 x24 x25 x26
def laws_FnOpenDoors.c22 (n : Nat) (x0 : List (Int)) (x3_0 : Int) (x3_1 : List (Int × Int × Int)) (x3_2 : List (Int)) (x6 : Int) (x7 : Bool) (x8 : Bool) (x11 : List (Int)) (x22_0 : Int) (x22_1 : List (Int × Int × Int)) (x22_2 : List (Int)) (x23 : Int) (x24 : Int) (x25 : List (Int)) (x26 : Bool) : Option (Bool) :=
  (spec_DrawDoorsAt.F n x0).bind fun r16 =>
  (impl_DoorsAt.F n r16.1 r16.2.1 r16.2.2.1 r16.2.2.2).bind fun r17 =>
  (spec_DoorsAt.F n r16.1 r16.2.1 r16.2.2.1 r16.2.2.2).bind fun r18 =>
  if (!(r17.2 == r18.2)) = true then
    some false
  else
    (laws_rInts.F n r17.1 r18.1).bind fun r19 =>
    if (!r19) = true then
      some false
    else
      (impl_IsMaze.F n r16.1 r16.2.1 r16.2.2.1).bind fun r20 =>
      (spec_IsMaze.F n r16.1 r16.2.1 r16.2.2.1).bind fun r21 =>
      if (!(r20 == r21)) = true then
        some false
      else
        laws_FnOpenDoors.c27 n x0 x3_0 x3_1 x3_2 x6 x7 x8 x11 x22_0 x22_1 x22_2 x23 x24 x25 x26
def laws_FnOpenDoors.c17 (n : Nat) (x0 : List (Int)) (x3_0 : Int) (x3_1 : List (Int × Int × Int)) (x3_2 : List (Int)) (x6 : Int) (x7 : Bool) (x8 : Bool) (x11 : List (Int)) : Option (Bool) :=
  (spec_DrawReachWith.F n x0).bind fun r12 =>
  (impl_ReachWith.F n r12.1 r12.2.1 r12.2.2.1 r12.2.2.2.1 r12.2.2.2.2).bind fun r13 =>
  (spec_ReachWith.F n r12.1 r12.2.1 r12.2.2.1 r12.2.2.2.1 r12.2.2.2.2).bind fun r14 =>
  if (!(r13.2 == r14.2)) = true then
    some false
  else
    (laws_rInts.F n r13.1 r14.1).bind fun r15 =>
    if (!r15) = true then
      some false
    else
      laws_FnOpenDoors.c22 n x0 x3_0 x3_1 x3_2 x6 x7 x8 x11 r12.1 r12.2.1 r12.2.2.1 r12.2.2.2.1 r12.2.2.2.2 r13.1 r13.2
def laws_FnOpenDoors.c12 (n : Nat) (x0 : List (Int)) (x3_0 : Int) (x3_1 : List (Int × Int × Int)) (x3_2 : List (Int)) (x6 : Int) (x7 : Bool) (x8 : Bool) (x11 : List (Int)) : Option (Bool) :=
  (spec_DrawLeastNeeds.F n x0).bind fun r8 =>
  (impl_LeastNeeds.F n r8.1 r8.2.1 r8.2.2.1 r8.2.2.2.1 r8.2.2.2.2).bind fun r9 =>
  (spec_LeastNeeds.F n r8.1 r8.2.1 r8.2.2.1 r8.2.2.2.1 r8.2.2.2.2).bind fun r10 =>
  if (!(r9.2 == r10.2)) = true then
    some false
  else
    (laws_rInts.F n r9.1 r10.1).bind fun r11 =>
    if (!r11) = true then
      some false
    else
      laws_FnOpenDoors.c17 n x0 x3_0 x3_1 x3_2 x6 x7 x8 x11
def laws_FnOpenDoors.c8 (n : Nat) (x0 : List (Int)) (x3_0 : Int) (x3_1 : List (Int × Int × Int)) (x3_2 : List (Int)) (x4 : Int) (x5 : Int) (x6 : Int) (x7 : Bool) (x8 : Bool) : Option (Bool) :=
  (impl_LeastNeeds.F n x3_0 x3_1 x3_2 x4 x5).bind fun r5 =>
  (spec_LeastNeeds.F n x3_0 x3_1 x3_2 x4 x5).bind fun r6 =>
  if (!(r5.2 == r6.2)) = true then
    some false
  else
    if x8 = true then
      if (!r5.2) = true then
        some false
      else
        (laws_rInts.F n r5.1 r6.1).bind fun r7 =>
        if (!r7) = true then
          some false
        else
          laws_FnOpenDoors.c12 n x0 x3_0 x3_1 x3_2 x6 x7 x8 r5.1
    else
      (laws_rInts.F n r5.1 r6.1).bind fun r47 =>
      if (!r47) = true then
        some false
      else
        laws_FnOpenDoors.c12 n x0 x3_0 x3_1 x3_2 x6 x7 x8 r5.1
def laws_FnOpenDoors.F (n : Nat) (x0 : List (Int)) : Option (Bool) :=
  (laws_rBig.F n x0).bind fun r1 =>
  if r1 = true then
    some true
  else
    (spec_DrawIsOpenTo.F n x0).bind fun r2 =>
    (impl_IsOpenTo.F n r2.1 r2.2.1 r2.2.2.1 r2.2.2.2.1 r2.2.2.2.2.1 r2.2.2.2.2.2).bind fun r3 =>
    (spec_IsOpenTo.F n r2.1 r2.2.1 r2.2.2.1 r2.2.2.2.1 r2.2.2.2.2.1 r2.2.2.2.2.2).bind fun r4 =>
    if (!(r3.1 == r4.1)) = true then
      some false
    else
      if (!(r3.2 == r4.2)) = true then
        some false
      else
        laws_FnOpenDoors.c8 n x0 r2.1 r2.2.1 r2.2.2.1 r2.2.2.2.1 r2.2.2.2.2.1 r2.2.2.2.2.2 r3.1 r3.2

end
end Go.Pf
