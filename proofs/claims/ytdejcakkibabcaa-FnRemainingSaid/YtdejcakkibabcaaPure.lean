/- The pure functions of this seat's Go functions, as a program of mine (mach.py) printed them. -/
import Derived.Test.YtdejcakkibabcaaGwA
set_option linter.unusedVariables false
set_option autoImplicit false
namespace Go.Pf
open Go Go.Fx
noncomputable section

/-- loop.example/g01158/laws.rBig -/
def laws_rBig.F (n : Nat) (x0 : List (Int)) : Option (Bool) :=
  some (decide ((x0.length : Int) > (65536 : Int)))

/-- (*loop.example/g01158/spec.l1Cur).next -/
def spec_l1Cur_next.F (n : Nat) (x0_0 : List (Int)) (x0_1 : Int) (x0_2 : Int) : Option ((List (Int)) × Int × Int × Int) :=
  let j4 : (List (Int)) → (Int) → (Int) → (Int) → Option ((List (Int)) × Int × Int × Int) := fun j4_x0_0 j4_x0_1 j4_x0_2 j4_x3 =>
    if (decide ((IntKind.wrap .i64 (j4_x0_1 + (1 : Int))) ≤ (j4_x0_0.length : Int))) = true then
      some (j4_x0_0, IntKind.wrap .i64 (j4_x0_1 + (1 : Int)), IntKind.wrap .u64 ((IntKind.wrap .u64 ((IntKind.wrap .u64 (j4_x0_2 * (6364136223846793005 : Int))) + (IntKind.wrap .u64 j4_x3))) + (462197 : Int)), j4_x3)
    else
      some (j4_x0_0, IntKind.wrap .i64 (j4_x0_1 + (1 : Int)), IntKind.wrap .u64 ((IntKind.wrap .u64 ((IntKind.wrap .u64 (j4_x0_2 * (6364136223846793005 : Int))) + (IntKind.wrap .u64 j4_x3))) + (462197 : Int)), IntKind.wrap .i64 (bitAnd .u64 (shR .u64 (IntKind.wrap .u64 ((IntKind.wrap .u64 ((IntKind.wrap .u64 (j4_x0_2 * (6364136223846793005 : Int))) + (IntKind.wrap .u64 j4_x3))) + (462197 : Int))) 40) 255))
  if (decide (x0_1 < (x0_0.length : Int))) = true then
    if 0 ≤ x0_1 ∧ x0_1 < (x0_0.length : Int) then (j4 x0_0 x0_1 x0_2 (IntKind.wrap .i64 (x0_0.getD x0_1.toNat (0 : Int)))) else none
  else
    j4 x0_0 x0_1 x0_2 (0 : Int)

/-- (*loop.example/g01158/spec.l1Cur).pick -/
def spec_l1Cur_pick.F (n : Nat) (x0_0 : List (Int)) (x0_1 : Int) (x0_2 : Int) (x1 : Int) : Option ((List (Int)) × Int × Int × Int) :=
  if (decide (x1 ≤ (1 : Int))) = true then
    some (x0_0, x0_1, x0_2, (0 : Int))
  else
    (spec_l1Cur_next.F n x0_0 x0_1 x0_2).bind fun r1 =>
    if (decide (x1 > (200 : Int))) = true then
      (spec_l1Cur_next.F n r1.1 r1.2.1 r1.2.2.1).bind fun r2 =>
      if x1 = 0 then none else (some (r2.1, r2.2.1, r2.2.2.1, Int.tmod (IntKind.wrap .i64 ((IntKind.wrap .i64 (r1.2.2.2 * (256 : Int))) + r2.2.2.2)) x1))
    else
      if x1 = 0 then none else (some (r1.1, r1.2.1, r1.2.2.1, Int.tmod r1.2.2.2 x1))

/-- (*loop.example/g01158/spec.l1Cur).among -/
def spec_l1Cur_among.F (n : Nat) (x0_0 : List (Int)) (x0_1 : Int) (x0_2 : Int) (x1 : List (Int)) : Option ((List (Int)) × Int × Int × Int) :=
  (spec_l1Cur_pick.F n x0_0 x0_1 x0_2 (x1.length : Int)).bind fun r1 =>
  if 0 ≤ r1.2.2.2 ∧ r1.2.2.2 < (x1.length : Int) then (some (r1.1, r1.2.1, r1.2.2.1, x1.getD r1.2.2.2.toNat (0 : Int))) else none

/-- (*loop.example/g01158/spec.l1Cur).one -/
def spec_l1Cur_one.F (n : Nat) (x0_0 : List (Int)) (x0_1 : Int) (x0_2 : Int) (x1 : Int) : Option ((List (Int)) × Int × Int × Bool) :=
  (spec_l1Cur_pick.F n x0_0 x0_1 x0_2 x1).bind fun r1 =>
  some (r1.1, r1.2.1, r1.2.2.1, (decide (r1.2.2.2 = (0 : Int))))

/-- (*loop.example/g01158/spec.l1Cur).few -/
def spec_l1Cur_few.l0 (n : Nat) (K : (List (Int)) → Int → Int → Int → Option ((List (Int)) × Int × Int × Int)) : Nat → (List (Int)) → Int → Int → Int → Int → Int → Option ((List (Int)) × Int × Int × Int)
  | 0, _, _, _, _, _, _ => none
  | k + 1, x0_0, x0_1, x0_2, x1, x5, x6 =>
    if (decide (x6 > (0 : Int))) = true then
      (spec_l1Cur_pick.F n x0_0 x0_1 x0_2 x1).bind fun r2 =>
      if r2.2.2.2 < 0 then none else (spec_l1Cur_few.l0 n K k r2.1 r2.2.1 r2.2.2.1 x1 (bitOr .i64 x5 (shL .i64 1 r2.2.2.2)) (IntKind.wrap .i64 (x6 - (1 : Int))))
    else
      K x0_0 x0_1 x0_2 x5
def spec_l1Cur_few.F (n : Nat) (x0_0 : List (Int)) (x0_1 : Int) (x0_2 : Int) (x1 : Int) : Option ((List (Int)) × Int × Int × Int) :=
  (spec_l1Cur_among.F n x0_0 x0_1 x0_2 ([(0 : Int), (1 : Int), (1 : Int), (1 : Int), (2 : Int)] : List (Int))).bind fun r1 =>
  spec_l1Cur_few.l0 n (fun y3 y4 y5 y6 =>
    some (y3, y4, y5, y6)) n r1.1 r1.2.1 r1.2.2.1 x1 (0 : Int) r1.2.2.2

/-- loop.example/g01158/spec.l1Least -/
def spec_l1Least.F (n : Nat) (x0 : Int) (x1 : Int) : Option (Int) :=
  if (decide (x0 < x1)) = true then
    some x0
  else
    some x1

/-- loop.example/g01158/spec.l1Most -/
def spec_l1Most.F (n : Nat) (x0 : Int) (x1 : Int) : Option (Int) :=
  if (decide (x0 > x1)) = true then
    some x0
  else
    some x1

/-- loop.example/g01158/spec.l2Before -/
def spec_l2Before.F (n : Nat) (x0_0 : Int) (x0_1 : Int) (x0_2 : Int) (x1_0 : Int) (x1_1 : Int) (x1_2 : Int) : Option (Bool) :=
  if (!decide (x0_0 = x1_0)) = true then
    some (decide (x0_0 < x1_0))
  else
    if (!decide (x0_1 = x1_1)) = true then
      some (decide (x0_1 < x1_1))
    else
      if (!decide (x0_2 = x1_2)) = true then
        some (decide (x0_2 < x1_2))
      else
        some false

/-- loop.example/g01158/spec.l2Put -/
def spec_l2Put.l0 (n : Nat) (K : (List (Int × Int × Int)) → Int → Int → Int → Int → Option ((List (Int × Int × Int)))) : Nat → (List (Int × Int × Int)) → Int → Int → Int → Int → Option ((List (Int × Int × Int)))
  | 0, _, _, _, _, _ => none
  | k + 1, x0, x9_0, x9_1, x9_2, x10 =>
    if (decide (x10 < (x0.length : Int))) = true then
      if 0 ≤ x10 ∧ x10 < (x0.length : Int) then ((spec_l2Before.F n ((x0.getD x10.toNat ((0 : Int), (0 : Int), (0 : Int))).1) ((x0.getD x10.toNat ((0 : Int), (0 : Int), (0 : Int))).2.1) ((x0.getD x10.toNat ((0 : Int), (0 : Int), (0 : Int))).2.2) x9_0 x9_1 x9_2).bind fun r3 =>
      if r3 = true then
        spec_l2Put.l0 n K k x0 x9_0 x9_1 x9_2 (IntKind.wrap .i64 (x10 + (1 : Int)))
      else
        K x0 x9_0 x9_1 x9_2 x10) else none
    else
      K x0 x9_0 x9_1 x9_2 x10
def spec_l2Put.F (n : Nat) (x0 : List (Int × Int × Int)) (x1 : Int) (x2 : Int) (x3 : Int) : Option ((List (Int × Int × Int))) :=
  (spec_l1Least.F n x1 x2).bind fun r1 =>
  (spec_l1Most.F n x1 x2).bind fun r2 =>
  spec_l2Put.l0 n (fun y4 y5 y6 y7 y8 =>
    if (decide (y8 < (y4.length : Int))) = true then
      if 0 ≤ y8 ∧ y8 < (y4.length : Int) then (if (decide (((y4.getD y8.toNat ((0 : Int), (0 : Int), (0 : Int))).1) = y5) && (decide (((y4.getD y8.toNat ((0 : Int), (0 : Int), (0 : Int))).2.1) = y6) && (decide (((y4.getD y8.toNat ((0 : Int), (0 : Int), (0 : Int))).2.2) = y7) && true))) = true then
        some y4
      else
        if 0 ≤ y8 ∧ y8 ≤ (y4.length : Int) then (if ([] : List (Int × Int × Int)).length + (y4.take y8.toNat).length ≤ 4398046511104 then (if (([] : List (Int × Int × Int)) ++ (y4.take y8.toNat)).length + ([(y5, y6, y7)] : List (Int × Int × Int)).length ≤ 4398046511104 then (if 0 ≤ y8 ∧ y8 ≤ (y4.length : Int) then (if ((([] : List (Int × Int × Int)) ++ (y4.take y8.toNat)) ++ ([(y5, y6, y7)] : List (Int × Int × Int))).length + (y4.drop y8.toNat).length ≤ 4398046511104 then (some (((([] : List (Int × Int × Int)) ++ (y4.take y8.toNat)) ++ ([(y5, y6, y7)] : List (Int × Int × Int))) ++ (y4.drop y8.toNat))) else none) else none) else none) else none) else none) else none
    else
      if 0 ≤ y8 ∧ y8 ≤ (y4.length : Int) then (if ([] : List (Int × Int × Int)).length + (y4.take y8.toNat).length ≤ 4398046511104 then (if (([] : List (Int × Int × Int)) ++ (y4.take y8.toNat)).length + ([(y5, y6, y7)] : List (Int × Int × Int)).length ≤ 4398046511104 then (if 0 ≤ y8 ∧ y8 ≤ (y4.length : Int) then (if ((([] : List (Int × Int × Int)) ++ (y4.take y8.toNat)) ++ ([(y5, y6, y7)] : List (Int × Int × Int))).length + (y4.drop y8.toNat).length ≤ 4398046511104 then (some (((([] : List (Int × Int × Int)) ++ (y4.take y8.toNat)) ++ ([(y5, y6, y7)] : List (Int × Int × Int))) ++ (y4.drop y8.toNat))) else none) else none) else none) else none) else none) n x0 r1 r2 x3 (0 : Int)

/-- (*loop.example/g01158/spec.l1Cur).someMaze -/
def spec_l1Cur_someMaze.l2 (n : Nat) (K : (List (Int)) → Int → Int → Int → (List (Int × Int × Int)) → (List (Int)) → Int → (List (Int × Int × Int)) → (List (Int)) → Option ((List (Int)) × Int × Int × Int × (List (Int × Int × Int)) × (List (Int)))) : Nat → (List (Int)) → Int → Int → Int → Int → (List (Int × Int × Int)) → (List (Int)) → Int → (List (Int × Int × Int)) → (List (Int)) → Int → Int → Option ((List (Int)) × Int × Int × Int × (List (Int × Int × Int)) × (List (Int)))
  | 0, _, _, _, _, _, _, _, _, _, _, _, _ => none
  | k + 1, x0_0, x0_1, x0_2, x1, x4_0, x4_1, x4_2, x5_0, x5_1, x5_2, x6, x11 =>
    if (decide (x11 > (0 : Int))) = true then
      if (decide (x1 > (1 : Int))) = true then
        if (decide (x1 < (13 : Int))) = true then
          (spec_l1Cur_pick.F n x0_0 x0_1 x0_2 x1).bind fun r28 =>
          (spec_l1Cur_pick.F n r28.1 r28.2.1 r28.2.2.1 x1).bind fun r29 =>
          if (!decide (r28.2.2.2 = r29.2.2.2)) = true then
            (spec_l1Cur_few.F n r29.1 r29.2.1 r29.2.2.1 x6).bind fun r30 =>
            (spec_l2Put.F n x5_1 r28.2.2.2 r29.2.2.2 r30.2.2.2).bind fun r31 =>
            spec_l1Cur_someMaze.l2 n K k r30.1 r30.2.1 r30.2.2.1 x1 x4_0 x4_1 x4_2 x5_0 r31 x5_2 x6 (IntKind.wrap .i64 (x11 - (1 : Int)))
          else
            spec_l1Cur_someMaze.l2 n K k r29.1 r29.2.1 r29.2.2.1 x1 x4_0 x4_1 x4_2 x5_0 x5_1 x5_2 x6 (IntKind.wrap .i64 (x11 - (1 : Int)))
        else
          K x0_0 x0_1 x0_2 x4_0 x4_1 x4_2 x5_0 x5_1 x5_2
      else
        K x0_0 x0_1 x0_2 x4_0 x4_1 x4_2 x5_0 x5_1 x5_2
    else
      K x0_0 x0_1 x0_2 x4_0 x4_1 x4_2 x5_0 x5_1 x5_2
def spec_l1Cur_someMaze.l0 (n : Nat) (K : (List (Int)) → Int → Int → Int → Int → (List (Int × Int × Int)) → (List (Int)) → Int → (List (Int × Int × Int)) → (List (Int)) → Int → Option ((List (Int)) × Int × Int × Int × (List (Int × Int × Int)) × (List (Int)))) : Nat → (List (Int)) → Int → Int → Int → Int → (List (Int × Int × Int)) → (List (Int)) → Int → (List (Int × Int × Int)) → (List (Int)) → Int → Int → Int → Option ((List (Int)) × Int × Int × Int × (List (Int × Int × Int)) × (List (Int)))
  | 0, _, _, _, _, _, _, _, _, _, _, _, _, _ => none
  | k + 1, x0_0, x0_1, x0_2, x1, x4_0, x4_1, x4_2, x5_0, x5_1, x5_2, x6, x7, x8 =>
    let j6 : (List (Int)) → (Int) → (Int) → (Int) → (Int) → (List (Int × Int × Int)) → (List (Int)) → (Int) → (List (Int × Int × Int)) → (List (Int)) → (Int) → (Int) → (Int) → Option ((List (Int)) × Int × Int × Int × (List (Int × Int × Int)) × (List (Int))) := fun j6_x0_0 j6_x0_1 j6_x0_2 j6_x1 j6_x4_0 j6_x4_1 j6_x4_2 j6_x5_0 j6_x5_1 j6_x5_2 j6_x6 j6_x7 j6_x8 =>
      (spec_l1Cur_one.F n j6_x0_0 j6_x0_1 j6_x0_2 (2 : Int)).bind fun r2 =>
      if r2.2.2.2 = true then
        (spec_l1Cur_pick.F n r2.1 r2.2.1 r2.2.2.1 j6_x6).bind fun r3 =>
        if r3.2.2.2 < 0 then none else (if j6_x5_2.length + ([shL .i64 1 r3.2.2.2] : List (Int)).length ≤ 4398046511104 then (if (decide (j6_x8 > (0 : Int))) = true then
          (spec_l1Cur_few.F n r3.1 r3.2.1 r3.2.2.1 j6_x6).bind fun r4 =>
          (spec_l1Cur_one.F n r4.1 r4.2.1 r4.2.2.1 (3 : Int)).bind fun r5 =>
          if (!r5.2.2.2) = true then
            (spec_l1Cur_pick.F n r5.1 r5.2.1 r5.2.2.1 j6_x8).bind fun r6 =>
            (spec_l2Put.F n j6_x5_1 r6.2.2.2 j6_x8 (bitAnd .i64 r4.2.2.2 j6_x7)).bind fun r7 =>
            spec_l1Cur_someMaze.l0 n K k r6.1 r6.2.1 r6.2.2.1 j6_x1 j6_x4_0 j6_x4_1 j6_x4_2 j6_x5_0 r7 (j6_x5_2 ++ ([shL .i64 1 r3.2.2.2] : List (Int))) j6_x6 (bitOr .i64 j6_x7 (shL .i64 1 r3.2.2.2)) (IntKind.wrap .i64 (j6_x8 + (1 : Int)))
          else
            (spec_l1Cur_pick.F n r5.1 r5.2.1 r5.2.2.1 j6_x8).bind fun r8 =>
            (spec_l2Put.F n j6_x5_1 r8.2.2.2 j6_x8 r4.2.2.2).bind fun r9 =>
            spec_l1Cur_someMaze.l0 n K k r8.1 r8.2.1 r8.2.2.1 j6_x1 j6_x4_0 j6_x4_1 j6_x4_2 j6_x5_0 r9 (j6_x5_2 ++ ([shL .i64 1 r3.2.2.2] : List (Int))) j6_x6 (bitOr .i64 j6_x7 (shL .i64 1 r3.2.2.2)) (IntKind.wrap .i64 (j6_x8 + (1 : Int)))
        else
          spec_l1Cur_someMaze.l0 n K k r3.1 r3.2.1 r3.2.2.1 j6_x1 j6_x4_0 j6_x4_1 j6_x4_2 j6_x5_0 j6_x5_1 (j6_x5_2 ++ ([shL .i64 1 r3.2.2.2] : List (Int))) j6_x6 (bitOr .i64 j6_x7 (shL .i64 1 r3.2.2.2)) (IntKind.wrap .i64 (j6_x8 + (1 : Int)))) else none)
      else
        if j6_x5_2.length + ([(0 : Int)] : List (Int)).length ≤ 4398046511104 then (if (decide (j6_x8 > (0 : Int))) = true then
          (spec_l1Cur_few.F n r2.1 r2.2.1 r2.2.2.1 j6_x6).bind fun r10 =>
          (spec_l1Cur_one.F n r10.1 r10.2.1 r10.2.2.1 (3 : Int)).bind fun r11 =>
          if (!r11.2.2.2) = true then
            (spec_l1Cur_pick.F n r11.1 r11.2.1 r11.2.2.1 j6_x8).bind fun r12 =>
            (spec_l2Put.F n j6_x5_1 r12.2.2.2 j6_x8 (bitAnd .i64 r10.2.2.2 j6_x7)).bind fun r13 =>
            spec_l1Cur_someMaze.l0 n K k r12.1 r12.2.1 r12.2.2.1 j6_x1 j6_x4_0 j6_x4_1 j6_x4_2 j6_x5_0 r13 (j6_x5_2 ++ ([(0 : Int)] : List (Int))) j6_x6 (bitOr .i64 j6_x7 0) (IntKind.wrap .i64 (j6_x8 + (1 : Int)))
          else
            (spec_l1Cur_pick.F n r11.1 r11.2.1 r11.2.2.1 j6_x8).bind fun r14 =>
            (spec_l2Put.F n j6_x5_1 r14.2.2.2 j6_x8 r10.2.2.2).bind fun r15 =>
            spec_l1Cur_someMaze.l0 n K k r14.1 r14.2.1 r14.2.2.1 j6_x1 j6_x4_0 j6_x4_1 j6_x4_2 j6_x5_0 r15 (j6_x5_2 ++ ([(0 : Int)] : List (Int))) j6_x6 (bitOr .i64 j6_x7 0) (IntKind.wrap .i64 (j6_x8 + (1 : Int)))
        else
          spec_l1Cur_someMaze.l0 n K k r2.1 r2.2.1 r2.2.2.1 j6_x1 j6_x4_0 j6_x4_1 j6_x4_2 j6_x5_0 j6_x5_1 (j6_x5_2 ++ ([(0 : Int)] : List (Int))) j6_x6 (bitOr .i64 j6_x7 0) (IntKind.wrap .i64 (j6_x8 + (1 : Int)))) else none
    if (decide (x8 < x1)) = true then
      if (decide (x8 < (13 : Int))) = true then
        j6 x0_0 x0_1 x0_2 x1 x4_0 x4_1 x4_2 x5_0 x5_1 x5_2 x6 x7 x8
      else
        K x0_0 x0_1 x0_2 x1 x4_0 x4_1 x4_2 x5_0 x5_1 x5_2 x6
    else
      K x0_0 x0_1 x0_2 x1 x4_0 x4_1 x4_2 x5_0 x5_1 x5_2 x6
def spec_l1Cur_someMaze.c22 (n : Nat) (x0_0 : List (Int)) (x0_1 : Int) (x0_2 : Int) (x4_0 : Int) (x4_1 : List (Int × Int × Int)) (x4_2 : List (Int)) (x5_0 : Int) (x5_1 : List (Int × Int × Int)) (x5_2 : List (Int)) : Option ((List (Int)) × Int × Int × Int × (List (Int × Int × Int)) × (List (Int))) :=
  (spec_l1Cur_pick.F n x0_0 x0_1 x0_2 (60 : Int)).bind fun r41 =>
  if (decide (r41.2.2.2 = (0 : Int))) = true then
    (spec_l1Cur_among.F n r41.1 r41.2.1 r41.2.2.1 ([(0 : Int), (13 : Int), IntKind.wrap .i64 (x5_0 + (1 : Int))] : List (Int))).bind fun r42 =>
    some (r42.1, r42.2.1, r42.2.2.1, r42.2.2.2, x5_1, x5_2)
  else
    if (decide (r41.2.2.2 = (1 : Int))) = true then
      if (decide ((x5_1.length : Int) > (0 : Int))) = true then
        (spec_l1Cur_pick.F n r41.1 r41.2.1 r41.2.2.1 (x5_1.length : Int)).bind fun r43 =>
        if 0 ≤ r43.2.2.2 ∧ r43.2.2.2 < (x5_1.length : Int) then (if 0 ≤ r43.2.2.2 ∧ r43.2.2.2 < (x5_1.length : Int) then (if 0 ≤ r43.2.2.2 ∧ r43.2.2.2 < (x5_1.length : Int) then (some (r43.1, r43.2.1, r43.2.2.1, x5_0, x5_1.set r43.2.2.2.toNat ((x5_1.getD r43.2.2.2.toNat ((0 : Int), (0 : Int), (0 : Int))).2.1, (x5_1.getD r43.2.2.2.toNat ((0 : Int), (0 : Int), (0 : Int))).1, (0 : Int)), x5_2)) else none) else none) else none
      else
        some (r41.1, r41.2.1, r41.2.2.1, x5_0, x5_1, x5_2)
    else
      if (decide (r41.2.2.2 = (2 : Int))) = true then
        if (decide ((x5_2.length : Int) > (0 : Int))) = true then
          (spec_l1Cur_pick.F n r41.1 r41.2.1 r41.2.2.1 (x5_2.length : Int)).bind fun r44 =>
          (spec_l1Cur_among.F n r44.1 r44.2.1 r44.2.2.1 ([(64 : Int), (-1 : Int), (63 : Int)] : List (Int))).bind fun r45 =>
          if 0 ≤ r44.2.2.2 ∧ r44.2.2.2 < (x5_2.length : Int) then (some (r45.1, r45.2.1, r45.2.2.1, x5_0, x5_1, x5_2.set r44.2.2.2.toNat r45.2.2.2)) else none
        else
          some (r41.1, r41.2.1, r41.2.2.1, x5_0, x5_1, x5_2)
      else
        if (decide (r41.2.2.2 = (3 : Int))) = true then
          if (decide ((x5_1.length : Int) > (0 : Int))) = true then
            if 0 ≤ (0 : Int) ∧ (0 : Int) < (x5_1.length : Int) then (if x5_1.length + ([(x5_1.getD 0 ((0 : Int), (0 : Int), (0 : Int)))] : List (Int × Int × Int)).length ≤ 4398046511104 then (some (r41.1, r41.2.1, r41.2.2.1, x5_0, x5_1 ++ ([(x5_1.getD 0 ((0 : Int), (0 : Int), (0 : Int)))] : List (Int × Int × Int)), x5_2)) else none) else none
          else
            some (r41.1, r41.2.1, r41.2.2.1, x5_0, x5_1, x5_2)
        else
          if (decide (r41.2.2.2 = (4 : Int))) = true then
            some (r41.1, r41.2.1, r41.2.2.1, (0 : Int), ([] : List (Int × Int × Int)), ([] : List (Int)))
          else
            some (r41.1, r41.2.1, r41.2.2.1, x5_0, x5_1, x5_2)
def spec_l1Cur_someMaze.c16 (n : Nat) (x0_0 : List (Int)) (x0_1 : Int) (x0_2 : Int) (x1 : Int) (x4_0 : Int) (x4_1 : List (Int × Int × Int)) (x4_2 : List (Int)) (x5_0 : Int) (x5_1 : List (Int × Int × Int)) (x5_2 : List (Int)) (x6 : Int) : Option ((List (Int)) × Int × Int × Int × (List (Int × Int × Int)) × (List (Int))) :=
  (spec_l1Cur_pick.F n x0_0 x0_1 x0_2 (6 : Int)).bind fun r27 =>
  spec_l1Cur_someMaze.l2 n (fun y32 y33 y34 y35 y36 y37 y38 y39 y40 =>
    spec_l1Cur_someMaze.c22 n y32 y33 y34 y35 y36 y37 y38 y39 y40) n r27.1 r27.2.1 r27.2.2.1 x1 x4_0 x4_1 x4_2 x5_0 x5_1 x5_2 x6 r27.2.2.2
def spec_l1Cur_someMaze.F (n : Nat) (x0_0 : List (Int)) (x0_1 : Int) (x0_2 : Int) (x1 : Int) : Option ((List (Int)) × Int × Int × Int × (List (Int × Int × Int)) × (List (Int))) :=
  (spec_l1Cur_pick.F n x0_0 x0_1 x0_2 (6 : Int)).bind fun r1 =>
  spec_l1Cur_someMaze.l0 n (fun y16 y17 y18 y19 y20 y21 y22 y23 y24 y25 y26 =>
    spec_l1Cur_someMaze.c16 n y16 y17 y18 y19 y20 y21 y22 y23 y24 y25 y26) n r1.1 r1.2.1 r1.2.2.1 x1 (0 : Int) ([] : List (Int × Int × Int)) ([] : List (Int)) x1 ([] : List (Int × Int × Int)) ([] : List (Int)) (IntKind.wrap .i64 ((1 : Int) + r1.2.2.2)) (0 : Int) (0 : Int)

/-- (*loop.example/g01158/spec.l1Cur).maze -/
def spec_l1Cur_maze.F (n : Nat) (x0_0 : List (Int)) (x0_1 : Int) (x0_2 : Int) : Option ((List (Int)) × Int × Int × Int × (List (Int × Int × Int)) × (List (Int))) :=
  (spec_l1Cur_among.F n x0_0 x0_1 x0_2 ([(5 : Int), (6 : Int), (4 : Int), (7 : Int), (3 : Int), (8 : Int), (2 : Int), (10 : Int), (1 : Int), (12 : Int)] : List (Int))).bind fun r1 =>
  (spec_l1Cur_someMaze.F n r1.1 r1.2.1 r1.2.2.1 r1.2.2.2).bind fun r2 =>
  some (r2.1, r2.2.1, r2.2.2.1, r2.2.2.2.1, r2.2.2.2.2.1, r2.2.2.2.2.2)

/-- loop.example/g01158/spec.DrawIsMaze -/
def spec_DrawIsMaze.F (n : Nat) (x0 : List (Int)) : Option (Int × (List (Int × Int × Int)) × (List (Int))) :=
  (spec_l1Cur_maze.F n x0 (0 : Int) (0 : Int)).bind fun r1 =>
  some (r1.2.2.2.1, r1.2.2.2.2.1, r1.2.2.2.2.2)

/-- loop.example/g01158/spec.DrawRemainTable -/
def spec_DrawRemainTable.F (n : Nat) (x0 : List (Int)) : Option (Int × (List (Int × Int × Int)) × (List (Int))) :=
  (spec_DrawIsMaze.F n x0).bind fun r1 =>
  some (r1.1, r1.2.1, r1.2.2)

/-- loop.example/g01158/impl.within -/
def impl_within.F (n : Nat) (x0 : Int) (x1 : Int) (x2 : Int) : Option (Bool) :=
  if (decide (x1 ≤ x0)) = true then
    some (decide (x0 ≤ x2))
  else
    some false

/-- loop.example/g01158/impl.isSet -/
def impl_isSet.F (n : Nat) (x0 : Int) : Option (Bool) :=
  (impl_within.F n x0 (0 : Int) (63 : Int)).bind fun r1 =>
  some r1

/-- cmp.isNaN[int] -/
def cmp_isNaN_int.F (n : Nat) (x0 : Int) : Option (Bool) :=
  some (!decide (x0 = x0))

/-- cmp.Compare[int] -/
def cmp_Compare_int.F (n : Nat) (x0 : Int) (x1 : Int) : Option (Int) :=
  (cmp_isNaN_int.F n x0).bind fun r1 =>
  (cmp_isNaN_int.F n x1).bind fun r2 =>
  if r1 = true then
    if r2 = true then
      some (0 : Int)
    else
      some (-1 : Int)
  else
    if r2 = true then
      some (1 : Int)
    else
      if (decide (x0 < x1)) = true then
        some (-1 : Int)
      else
        if (decide (x0 > x1)) = true then
          some (1 : Int)
        else
          some (0 : Int)

/-- cmp.Or[int] -/
def cmp_Or_int.l0 (n : Nat) (K : Int → Option (Int)) : Nat → Int → (List (Int)) → Int → Int → Option (Int)
  | 0, _, _, _, _ => none
  | k + 1, x3, x6, x7, x8 =>
    if (decide (x8 < x7)) = true then
      if 0 ≤ x8 ∧ x8 < (x6.length : Int) then (if (!decide ((x6.getD x8.toNat (0 : Int)) = x3)) = true then
        some (x6.getD x8.toNat (0 : Int))
      else
        cmp_Or_int.l0 n K k x3 x6 x7 (IntKind.wrap .i64 (x8 + (1 : Int)))) else none
    else
      K x3
def cmp_Or_int.F (n : Nat) (x0 : List (Int)) : Option (Int) :=
  cmp_Or_int.l0 n (fun y1 =>
    some y1) n (0 : Int) x0 (x0.length : Int) (0 : Int)

/-- loop.example/g01158/impl.compareDoors -/
def impl_compareDoors.F (n : Nat) (x0_0 : Int) (x0_1 : Int) (x0_2 : Int) (x1_0 : Int) (x1_1 : Int) (x1_2 : Int) : Option (Int) :=
  (cmp_Compare_int.F n x0_0 x1_0).bind fun r1 =>
  (cmp_Compare_int.F n x0_1 x1_1).bind fun r2 =>
  (cmp_Compare_int.F n x0_2 x1_2).bind fun r3 =>
  (cmp_Or_int.F n ([r1, r2, r3] : List (Int))).bind fun r4 =>
  some r4

/-- loop.example/g01158/impl.IsMaze$1 -/
def impl_IsMaze_1.F (n : Nat) (x0 : Int) : Option (Bool) :=
  (impl_isSet.F n x0).bind fun r1 =>
  some (!r1)

/-- slices.IndexFunc[[]int,int] -/
def slices_IndexFunc_int_int_cIsMaze_1.l0 (n : Nat) (K : Unit → Option (Int)) : Nat → (List (Int)) → Int → Int → Option (Int)
  | 0, _, _, _ => none
  | k + 1, x0, x7, x8 =>
    if (decide (x8 < x7)) = true then
      if 0 ≤ x8 ∧ x8 < (x0.length : Int) then ((impl_IsMaze_1.F n (x0.getD x8.toNat (0 : Int))).bind fun r1 =>
      if r1 = true then
        some x8
      else
        slices_IndexFunc_int_int_cIsMaze_1.l0 n K k x0 x7 (IntKind.wrap .i64 (x8 + (1 : Int)))) else none
    else
      K ()
def slices_IndexFunc_int_int_cIsMaze_1.F (n : Nat) (x0 : List (Int)) : Option (Int) :=
  slices_IndexFunc_int_int_cIsMaze_1.l0 n (fun _ =>
    some (-1 : Int)) n x0 (x0.length : Int) (0 : Int)

/-- slices.ContainsFunc[[]int,int] -/
def slices_ContainsFunc_int_int_cIsMaze_1.F (n : Nat) (x0 : List (Int)) : Option (Bool) :=
  (slices_IndexFunc_int_int_cIsMaze_1.F n x0).bind fun r1 =>
  some (decide (r1 ≥ (0 : Int)))

/-- loop.example/g01158/impl.IsMaze -/
def impl_IsMaze.l0 (n : Nat) (K : Int → (List (Int × Int × Int)) → (List (Int)) → Option (Bool)) : Nat → Int → (List (Int × Int × Int)) → (List (Int)) → Int → Int → Option (Bool)
  | 0, _, _, _, _, _ => none
  | k + 1, x1_0, x1_1, x1_2, x25, x26 =>
    if (decide (x26 < x25)) = true then
      if 0 ≤ x26 ∧ x26 < (x1_1.length : Int) then (if (decide (((x1_1.getD x26.toNat ((0 : Int), (0 : Int), (0 : Int))).1) < (0 : Int))) = true then
        some false
      else
        if (decide (((x1_1.getD x26.toNat ((0 : Int), (0 : Int), (0 : Int))).1) ≥ ((x1_1.getD x26.toNat ((0 : Int), (0 : Int), (0 : Int))).2.1))) = true then
          some false
        else
          if (decide (((x1_1.getD x26.toNat ((0 : Int), (0 : Int), (0 : Int))).2.1) ≥ x1_0)) = true then
            some false
          else
            (impl_isSet.F n ((x1_1.getD x26.toNat ((0 : Int), (0 : Int), (0 : Int))).2.2)).bind fun r2 =>
            if (!r2) = true then
              some false
            else
              if (decide (x26 > (0 : Int))) = true then
                if 0 ≤ (IntKind.wrap .i64 (x26 - (1 : Int))) ∧ (IntKind.wrap .i64 (x26 - (1 : Int))) < (x1_1.length : Int) then ((impl_compareDoors.F n ((x1_1.getD ((IntKind.wrap .i64 (x26 - (1 : Int))).toNat) ((0 : Int), (0 : Int), (0 : Int))).1) ((x1_1.getD ((IntKind.wrap .i64 (x26 - (1 : Int))).toNat) ((0 : Int), (0 : Int), (0 : Int))).2.1) ((x1_1.getD ((IntKind.wrap .i64 (x26 - (1 : Int))).toNat) ((0 : Int), (0 : Int), (0 : Int))).2.2) ((x1_1.getD x26.toNat ((0 : Int), (0 : Int), (0 : Int))).1) ((x1_1.getD x26.toNat ((0 : Int), (0 : Int), (0 : Int))).2.1) ((x1_1.getD x26.toNat ((0 : Int), (0 : Int), (0 : Int))).2.2)).bind fun r3 =>
                if (decide (r3 ≥ (0 : Int))) = true then
                  some false
                else
                  impl_IsMaze.l0 n K k x1_0 x1_1 x1_2 x25 (IntKind.wrap .i64 (x26 + (1 : Int)))) else none
              else
                impl_IsMaze.l0 n K k x1_0 x1_1 x1_2 x25 (IntKind.wrap .i64 (x26 + (1 : Int)))) else none
    else
      K x1_0 x1_1 x1_2
def impl_IsMaze.F (n : Nat) (x0_0 : Int) (x0_1 : List (Int × Int × Int)) (x0_2 : List (Int)) : Option (Bool) :=
  let j3 : (Int) → (List (Int × Int × Int)) → (List (Int)) → Option (Bool) := fun j3_x1_0 j3_x1_1 j3_x1_2 =>
    impl_IsMaze.l0 n (fun y4 y5 y6 =>
      (slices_ContainsFunc_int_int_cIsMaze_1.F n y6).bind fun r7 =>
      some (!r7)) n j3_x1_0 j3_x1_1 j3_x1_2 (j3_x1_1.length : Int) (0 : Int)
  (impl_within.F n x0_0 (1 : Int) (12 : Int)).bind fun r1 =>
  if (!r1) = true then
    some false
  else
    if (decide ((x0_1.length : Int) > (30 : Int))) = true then
      some false
    else
      if (!decide ((x0_2.length : Int) = x0_0)) = true then
        some false
      else
        j3 x0_0 x0_1 x0_2

/-- loop.example/g01158/impl.has -/
def impl_has.F (n : Nat) (x0 : Int) (x1 : Int) : Option (Bool) :=
  some (decide ((bitClr .i64 x1 x0) = (0 : Int)))

/-- loop.example/g01158/impl.steps -/
def impl_steps.l0 (n : Nat) (K : Int → Option (Int)) : Nat → Int → Int → Int → (List (Int × Int × Int)) → Int → Int → Option (Int)
  | 0, _, _, _, _, _, _ => none
  | k + 1, x1, x2, x7, x11, x12, x13 =>
    if (decide (x13 < x12)) = true then
      if 0 ≤ x13 ∧ x13 < (x11.length : Int) then ((impl_has.F n x2 ((x11.getD x13.toNat ((0 : Int), (0 : Int), (0 : Int))).2.2)).bind fun r1 =>
      if (!r1) = true then
        impl_steps.l0 n K k x1 x2 x7 x11 x12 (IntKind.wrap .i64 (x13 + (1 : Int)))
      else
        if (decide (((x11.getD x13.toNat ((0 : Int), (0 : Int), (0 : Int))).1) = x1)) = true then
          if ((x11.getD x13.toNat ((0 : Int), (0 : Int), (0 : Int))).2.1) < 0 then none else (if (decide (((x11.getD x13.toNat ((0 : Int), (0 : Int), (0 : Int))).2.1) = x1)) = true then
            if ((x11.getD x13.toNat ((0 : Int), (0 : Int), (0 : Int))).1) < 0 then none else (impl_steps.l0 n K k x1 x2 (bitOr .i64 (bitOr .i64 x7 (shL .i64 1 ((x11.getD x13.toNat ((0 : Int), (0 : Int), (0 : Int))).2.1))) (shL .i64 1 ((x11.getD x13.toNat ((0 : Int), (0 : Int), (0 : Int))).1))) x11 x12 (IntKind.wrap .i64 (x13 + (1 : Int))))
          else
            impl_steps.l0 n K k x1 x2 (bitOr .i64 x7 (shL .i64 1 ((x11.getD x13.toNat ((0 : Int), (0 : Int), (0 : Int))).2.1))) x11 x12 (IntKind.wrap .i64 (x13 + (1 : Int))))
        else
          if (decide (((x11.getD x13.toNat ((0 : Int), (0 : Int), (0 : Int))).2.1) = x1)) = true then
            if ((x11.getD x13.toNat ((0 : Int), (0 : Int), (0 : Int))).1) < 0 then none else (impl_steps.l0 n K k x1 x2 (bitOr .i64 x7 (shL .i64 1 ((x11.getD x13.toNat ((0 : Int), (0 : Int), (0 : Int))).1))) x11 x12 (IntKind.wrap .i64 (x13 + (1 : Int))))
          else
            impl_steps.l0 n K k x1 x2 x7 x11 x12 (IntKind.wrap .i64 (x13 + (1 : Int)))) else none
    else
      K x7
def impl_steps.F (n : Nat) (x0_0 : Int) (x0_1 : List (Int × Int × Int)) (x0_2 : List (Int)) (x1 : Int) (x2 : Int) : Option (Int) :=
  impl_steps.l0 n (fun y2 =>
    some y2) n x1 x2 (0 : Int) x0_1 (x0_1.length : Int) (0 : Int)

/-- loop.example/g01158/impl.members -/
def impl_members.l0 (n : Nat) (K : (List (Int)) → Option ((List (Int)))) : Nat → Int → (List (Int)) → Int → Option ((List (Int)))
  | 0, _, _, _ => none
  | k + 1, x0, x3, x4 =>
    if x4 < 0 then none else (if (decide ((shR .i64 x0 x4) > (0 : Int))) = true then
      if x4 < 0 then none else (if (decide ((bitAnd .i64 (shR .i64 x0 x4) 1) = (1 : Int))) = true then
        if x3.length + ([x4] : List (Int)).length ≤ 4398046511104 then (impl_members.l0 n K k x0 (x3 ++ ([x4] : List (Int))) (IntKind.wrap .i64 (x4 + (1 : Int)))) else none
      else
        impl_members.l0 n K k x0 x3 (IntKind.wrap .i64 (x4 + (1 : Int))))
    else
      K x3)
def impl_members.F (n : Nat) (x0 : Int) : Option ((List (Int))) :=
  impl_members.l0 n (fun y1 =>
    some y1) n x0 ([] : List (Int)) (0 : Int)

/-- loop.example/g01158/impl.better -/
def impl_better.F (n : Nat) (x0 : Int) (x1 : Int) : Option (Bool) :=
  if (decide (x0 ≥ (0 : Int))) = true then
    if (decide (x1 < (0 : Int))) = true then
      some true
    else
      some (decide (x0 < x1))
  else
    some false

/-- loop.example/g01158/impl.remain -/
def impl_remain.l2 (n : Nat) (K : Int → (List (Int × Int × Int)) → (List (Int)) → (List Int) → (List Int) → Int → Option ((List Int))) : Nat → Int → (List (Int × Int × Int)) → (List (Int)) → (List Int) → (List Int) → Int → Int → Int → Option ((List Int))
  | 0, _, _, _, _, _, _, _, _ => none
  | k + 1, x1_0, x1_1, x1_2, x2, x3, x4, x14, x17 =>
    if (decide (x17 < (64 : Int))) = true then
      if 0 ≤ x4 ∧ x4 < (12 : Int) ∧ (0 + (x4.toNat * 64)) < 768 then (if 0 ≤ x17 ∧ x17 < (64 : Int) ∧ ((0 + (x4.toNat * 64)) + (x17.toNat * 1)) < 768 then (impl_remain.l2 n K k x1_0 x1_1 x1_2 x2 (x3.set ((0 + (x4.toNat * 64)) + (x17.toNat * 1)) (-1)) x4 x14 (IntKind.wrap .i64 (x17 + (1 : Int)))) else none) else none
    else
      K x1_0 x1_1 x1_2 x2 x3 x14
def impl_remain.l0 (n : Nat) (K : Int → (List (Int × Int × Int)) → (List (Int)) → (List Int) → (List Int) → Option ((List Int))) : Nat → Int → (List (Int × Int × Int)) → (List (Int)) → (List Int) → (List Int) → Int → Option ((List Int))
  | 0, _, _, _, _, _, _ => none
  | k + 1, x1_0, x1_1, x1_2, x2, x3, x14 =>
    if (decide (x14 < (12 : Int))) = true then
      impl_remain.l2 n (fun y1 y2 y3 y4 y5 y6 =>
        impl_remain.l0 n K k y1 y2 y3 y4 y5 (IntKind.wrap .i64 (y6 + (1 : Int)))) n x1_0 x1_1 x1_2 x2 x3 x14 x14 (0 : Int)
    else
      K x1_0 x1_1 x1_2 x2 x3
def impl_remain.l13 (n : Nat) (K : Int → (List (Int × Int × Int)) → (List (Int)) → (List Int) → (List Int) → Bool → Int → Int → Int → Int → Option ((List Int))) : Nat → Int → (List (Int × Int × Int)) → (List (Int)) → (List Int) → (List Int) → Bool → Int → Int → Int → Int → Int → (List (Int)) → Int → Int → Option ((List Int))
  | 0, _, _, _, _, _, _, _, _, _, _, _, _, _, _ => none
  | k + 1, x1_0, x1_1, x1_2, x2, x3, x7, x8, x9, x48, x49, x52, x59, x60, x61 =>
    if (decide (x61 < x60)) = true then
      if 0 ≤ x61 ∧ x61 < (x59.length : Int) then (if 0 ≤ (x59.getD x61.toNat (0 : Int)) ∧ (x59.getD x61.toNat (0 : Int)) < (x1_2.length : Int) then (if 0 ≤ (x59.getD x61.toNat (0 : Int)) ∧ (x59.getD x61.toNat (0 : Int)) < (12 : Int) ∧ (0 + (((x59.getD x61.toNat (0 : Int)).toNat) * 64)) < 768 then (if 0 ≤ (bitOr .i64 x9 (x1_2.getD ((x59.getD x61.toNat (0 : Int)).toNat) (0 : Int))) ∧ (bitOr .i64 x9 (x1_2.getD ((x59.getD x61.toNat (0 : Int)).toNat) (0 : Int))) < (64 : Int) ∧ ((0 + (((x59.getD x61.toNat (0 : Int)).toNat) * 64)) + (((bitOr .i64 x9 (x1_2.getD ((x59.getD x61.toNat (0 : Int)).toNat) (0 : Int))).toNat) * 1)) < 768 then (if (decide ((x3.getD ((0 + (((x59.getD x61.toNat (0 : Int)).toNat) * 64)) + (((bitOr .i64 x9 (x1_2.getD ((x59.getD x61.toNat (0 : Int)).toNat) (0 : Int))).toNat) * 1)) 0) ≥ (0 : Int))) = true then
        if 0 ≤ x8 ∧ x8 < (12 : Int) ∧ (0 + (x8.toNat * 64)) < 768 then (if 0 ≤ x9 ∧ x9 < (64 : Int) ∧ ((0 + (x8.toNat * 64)) + (x9.toNat * 1)) < 768 then ((impl_better.F n (IntKind.wrap .i64 ((x3.getD ((0 + (((x59.getD x61.toNat (0 : Int)).toNat) * 64)) + (((bitOr .i64 x9 (x1_2.getD ((x59.getD x61.toNat (0 : Int)).toNat) (0 : Int))).toNat) * 1)) 0) + (1 : Int))) (x3.getD ((0 + (x8.toNat * 64)) + (x9.toNat * 1)) 0)).bind fun r24 =>
        if r24 = true then
          if 0 ≤ x8 ∧ x8 < (12 : Int) ∧ (0 + (x8.toNat * 64)) < 768 then (if 0 ≤ x9 ∧ x9 < (64 : Int) ∧ ((0 + (x8.toNat * 64)) + (x9.toNat * 1)) < 768 then (impl_remain.l13 n K k x1_0 x1_1 x1_2 x2 (x3.set ((0 + (x8.toNat * 64)) + (x9.toNat * 1)) (IntKind.wrap .i64 ((x3.getD ((0 + (((x59.getD x61.toNat (0 : Int)).toNat) * 64)) + (((bitOr .i64 x9 (x1_2.getD ((x59.getD x61.toNat (0 : Int)).toNat) (0 : Int))).toNat) * 1)) 0) + (1 : Int)))) true x8 x9 x48 x49 x52 x59 x60 (IntKind.wrap .i64 (x61 + (1 : Int)))) else none) else none
        else
          impl_remain.l13 n K k x1_0 x1_1 x1_2 x2 x3 x7 x8 x9 x48 x49 x52 x59 x60 (IntKind.wrap .i64 (x61 + (1 : Int)))) else none) else none
      else
        impl_remain.l13 n K k x1_0 x1_1 x1_2 x2 x3 x7 x8 x9 x48 x49 x52 x59 x60 (IntKind.wrap .i64 (x61 + (1 : Int)))) else none) else none) else none) else none
    else
      K x1_0 x1_1 x1_2 x2 x3 x7 x8 x48 x49 x52
def impl_remain.l11 (n : Nat) (K : Int → (List (Int × Int × Int)) → (List (Int)) → (List Int) → (List Int) → Bool → Int → Int → Option ((List Int))) : Nat → Int → (List (Int × Int × Int)) → (List (Int)) → (List Int) → (List Int) → Bool → Int → Int → Int → Int → Option ((List Int))
  | 0, _, _, _, _, _, _, _, _, _, _ => none
  | k + 1, x1_0, x1_1, x1_2, x2, x3, x7, x8, x48, x49, x52 =>
    if (decide (x52 < (64 : Int))) = true then
      (impl_steps.F n x1_0 x1_1 x1_2 x8 x52).bind fun r22 =>
      (impl_members.F n r22).bind fun r23 =>
      impl_remain.l13 n (fun y25 y26 y27 y28 y29 y30 y31 y32 y33 y34 =>
        impl_remain.l11 n K k y25 y26 y27 y28 y29 y30 y31 y32 y33 (IntKind.wrap .i64 (y34 + (1 : Int)))) n x1_0 x1_1 x1_2 x2 x3 x7 x8 x52 x48 x49 x52 r23 (r23.length : Int) (0 : Int)
    else
      K x1_0 x1_1 x1_2 x2 x3 x7 x48 x49
def impl_remain.l9 (n : Nat) (K : Int → (List (Int × Int × Int)) → (List (Int)) → (List Int) → (List Int) → Bool → Option ((List Int))) : Nat → Int → (List (Int × Int × Int)) → (List (Int)) → (List Int) → (List Int) → Bool → Int → Int → Option ((List Int))
  | 0, _, _, _, _, _, _, _, _ => none
  | k + 1, x1_0, x1_1, x1_2, x2, x3, x7, x48, x49 =>
    if (decide (x49 < x48)) = true then
      impl_remain.l11 n (fun y35 y36 y37 y38 y39 y40 y41 y42 =>
        impl_remain.l9 n K k y35 y36 y37 y38 y39 y40 y41 (IntKind.wrap .i64 (y42 + (1 : Int)))) n x1_0 x1_1 x1_2 x2 x3 x7 x49 x48 x49 (0 : Int)
    else
      K x1_0 x1_1 x1_2 x2 x3 x7
def impl_remain.l7 (n : Nat) (K : (List Int) → (List Int) → Option ((List Int))) : Nat → Int → (List (Int × Int × Int)) → (List (Int)) → (List Int) → (List Int) → Bool → Option ((List Int))
  | 0, _, _, _, _, _, _ => none
  | k + 1, x1_0, x1_1, x1_2, x2, x3, x7 =>
    if x7 = true then
      impl_remain.l9 n (fun y43 y44 y45 y46 y47 y48 =>
        impl_remain.l7 n K k y43 y44 y45 y46 y47 y48) n x1_0 x1_1 x1_2 x2 x3 false x1_0 (0 : Int)
    else
      K x2 x3
def impl_remain.l5 (n : Nat) (K : Int → (List (Int × Int × Int)) → (List (Int)) → (List Int) → (List Int) → Option ((List Int))) : Nat → Int → (List (Int × Int × Int)) → (List (Int)) → (List Int) → (List Int) → Int → Option ((List Int))
  | 0, _, _, _, _, _, _ => none
  | k + 1, x1_0, x1_1, x1_2, x2, x3, x36 =>
    if (decide (x36 < (64 : Int))) = true then
      if 0 ≤ (IntKind.wrap .i64 (x1_0 - (1 : Int))) ∧ (IntKind.wrap .i64 (x1_0 - (1 : Int))) < (12 : Int) ∧ (0 + (((IntKind.wrap .i64 (x1_0 - (1 : Int))).toNat) * 64)) < 768 then (if 0 ≤ x36 ∧ x36 < (64 : Int) ∧ ((0 + (((IntKind.wrap .i64 (x1_0 - (1 : Int))).toNat) * 64)) + (x36.toNat * 1)) < 768 then (impl_remain.l5 n K k x1_0 x1_1 x1_2 x2 (x3.set ((0 + (((IntKind.wrap .i64 (x1_0 - (1 : Int))).toNat) * 64)) + (x36.toNat * 1)) 0) (IntKind.wrap .i64 (x36 + (1 : Int)))) else none) else none
    else
      K x1_0 x1_1 x1_2 x2 x3
def impl_remain.l4 (n : Nat) (K : Int → (List (Int × Int × Int)) → (List (Int)) → (List Int) → (List Int) → Option ((List Int))) : Nat → Int → (List (Int × Int × Int)) → (List (Int)) → (List Int) → (List Int) → Int → Int → Option ((List Int))
  | 0, _, _, _, _, _, _, _ => none
  | k + 1, x1_0, x1_1, x1_2, x2, x3, x30, x31 =>
    if (decide (x31 < (64 : Int))) = true then
      if 0 ≤ x30 ∧ x30 < (12 : Int) ∧ (0 + (x30.toNat * 64)) < 768 then (if 0 ≤ x31 ∧ x31 < (64 : Int) ∧ ((0 + (x30.toNat * 64)) + (x31.toNat * 1)) < 768 then (impl_remain.l4 n K k x1_0 x1_1 x1_2 x2 (x3.set ((0 + (x30.toNat * 64)) + (x31.toNat * 1)) 0) x30 (IntKind.wrap .i64 (x31 + (1 : Int)))) else none) else none
    else
      K x1_0 x1_1 x1_2 x2 x3
def impl_remain.F (n : Nat) (x0_0 : Int) (x0_1 : List (Int × Int × Int)) (x0_2 : List (Int)) : Option ((List Int)) :=
  impl_remain.l0 n (fun y7 y8 y9 y10 y11 =>
    let j23 : (Int) → (List (Int × Int × Int)) → (List (Int)) → (List Int) → (List Int) → Option ((List Int)) := fun j23_x1_0 j23_x1_1 j23_x1_2 j23_x2 j23_x3 =>
      impl_remain.l7 n (fun y49 y50 =>
        some y50) n j23_x1_0 j23_x1_1 j23_x1_2 j23_x2 j23_x3 true
    coin (
      impl_remain.l5 n (fun y12 y13 y14 y15 y16 =>
        j23 y12 y13 y14 y15 y16) n y7 y8 y9 y10 y11 (0 : Int))
      (impl_remain.l4 n (fun y17 y18 y19 y20 y21 =>
        j23 y17 y18 y19 y20 y21) n y7 y8 y9 y10 y11 (IntKind.wrap .i64 (y7 - (1 : Int))) (0 : Int))) n x0_0 x0_1 x0_2 (List.replicate 768 (0 : Int)) (List.replicate 768 (0 : Int)) (0 : Int)

/-- loop.example/g01158/impl.RemainTable -/
def impl_RemainTable.l2 (n : Nat) (K : Int → (List (Int × Int × Int)) → (List (Int)) → (List Int) → (List (List Int)) → (List (Int)) → Int → Int → Option ((List (List Int)) × Bool)) : Nat → Int → (List (Int × Int × Int)) → (List (Int)) → (List Int) → (List (List Int)) → Int → (List (Int)) → Int → Int → Int → Option ((List (List Int)) × Bool)
  | 0, _, _, _, _, _, _, _, _, _, _ => none
  | k + 1, x1_0, x1_1, x1_2, x4, x5, x6, x7, x16, x17, x21 =>
    if (decide (x21 < (64 : Int))) = true then
      if 0 ≤ x6 ∧ x6 < (x1_2.length : Int) then (if 0 ≤ x6 ∧ x6 < (12 : Int) ∧ (0 + (x6.toNat * 64)) < 768 then (if 0 ≤ (bitOr .i64 x21 (x1_2.getD x6.toNat (0 : Int))) ∧ (bitOr .i64 x21 (x1_2.getD x6.toNat (0 : Int))) < (64 : Int) ∧ ((0 + (x6.toNat * 64)) + (((bitOr .i64 x21 (x1_2.getD x6.toNat (0 : Int))).toNat) * 1)) < 768 then (if x7.length + ([x4.getD ((0 + (x6.toNat * 64)) + (((bitOr .i64 x21 (x1_2.getD x6.toNat (0 : Int))).toNat) * 1)) 0] : List (Int)).length ≤ 4398046511104 then (impl_RemainTable.l2 n K k x1_0 x1_1 x1_2 x4 x5 x6 (x7 ++ ([x4.getD ((0 + (x6.toNat * 64)) + (((bitOr .i64 x21 (x1_2.getD x6.toNat (0 : Int))).toNat) * 1)) 0] : List (Int))) x16 x17 (IntKind.wrap .i64 (x21 + (1 : Int)))) else none) else none) else none) else none
    else
      K x1_0 x1_1 x1_2 x4 x5 x7 x16 x17
def impl_RemainTable.l0 (n : Nat) (K : (List (List Int)) → Option ((List (List Int)) × Bool)) : Nat → Int → (List (Int × Int × Int)) → (List (Int)) → (List Int) → (List (List Int)) → Int → Int → Option ((List (List Int)) × Bool)
  | 0, _, _, _, _, _, _, _ => none
  | k + 1, x1_0, x1_1, x1_2, x4, x5, x16, x17 =>
    if (decide (x17 < x16)) = true then
      impl_RemainTable.l2 n (fun y3 y4 y5 y6 y7 y8 y9 y10 =>
        if y7.length + 1 ≤ 1048576 then (impl_RemainTable.l0 n K k y3 y4 y5 y6 (y7 ++ [y8]) y9 (IntKind.wrap .i64 (y10 + (1 : Int)))) else none) n x1_0 x1_1 x1_2 x4 x5 x17 ([] : List (Int)) x16 x17 (0 : Int)
    else
      K x5
def impl_RemainTable.F (n : Nat) (x0_0 : Int) (x0_1 : List (Int × Int × Int)) (x0_2 : List (Int)) : Option ((List (List Int)) × Bool) :=
  (impl_IsMaze.F n x0_0 x0_1 x0_2).bind fun r1 =>
  if (!r1) = true then
    some (([] : List (List Int)), false)
  else
    (impl_remain.F n x0_0 x0_1 x0_2).bind fun r2 =>
    impl_RemainTable.l0 n (fun y11 =>
      some (y11, true)) n x0_0 x0_1 x0_2 r2 ([] : List (List Int)) x0_0 (0 : Int)

/-- loop.example/g01158/spec.l1In -/
def spec_l1In.F (n : Nat) (x0 : Int) (x1 : Int) (x2 : Int) : Option (Bool) :=
  if (decide (x0 ≥ x1)) = true then
    some (decide (x0 ≤ x2))
  else
    some false

/-- loop.example/g01158/spec.l2Set -/
def spec_l2Set.F (n : Nat) (x0 : Int) : Option (Bool) :=
  (spec_l1In.F n x0 (0 : Int) (63 : Int)).bind fun r1 =>
  some r1

/-- loop.example/g01158/spec.l2Maze -/
def spec_l2Maze.l0 (n : Nat) (K : Int → (List (Int × Int × Int)) → (List (Int)) → Option (Bool)) : Nat → Int → (List (Int × Int × Int)) → (List (Int)) → Int → Option (Bool)
  | 0, _, _, _, _ => none
  | k + 1, x1_0, x1_1, x1_2, x3 =>
    if (decide (x3 < (x1_1.length : Int))) = true then
      if 0 ≤ x3 ∧ x3 < (x1_1.length : Int) then ((spec_l1In.F n ((x1_1.getD x3.toNat ((0 : Int), (0 : Int), (0 : Int))).1) (0 : Int) (IntKind.wrap .i64 (x1_0 - (1 : Int)))).bind fun r2 =>
      if (!r2) = true then
        some false
      else
        (spec_l1In.F n ((x1_1.getD x3.toNat ((0 : Int), (0 : Int), (0 : Int))).2.1) (IntKind.wrap .i64 (((x1_1.getD x3.toNat ((0 : Int), (0 : Int), (0 : Int))).1) + (1 : Int))) (IntKind.wrap .i64 (x1_0 - (1 : Int)))).bind fun r3 =>
        if (!r3) = true then
          some false
        else
          (spec_l2Set.F n ((x1_1.getD x3.toNat ((0 : Int), (0 : Int), (0 : Int))).2.2)).bind fun r4 =>
          if (!r4) = true then
            some false
          else
            if (decide (x3 > (0 : Int))) = true then
              if 0 ≤ (IntKind.wrap .i64 (x3 - (1 : Int))) ∧ (IntKind.wrap .i64 (x3 - (1 : Int))) < (x1_1.length : Int) then ((spec_l2Before.F n ((x1_1.getD ((IntKind.wrap .i64 (x3 - (1 : Int))).toNat) ((0 : Int), (0 : Int), (0 : Int))).1) ((x1_1.getD ((IntKind.wrap .i64 (x3 - (1 : Int))).toNat) ((0 : Int), (0 : Int), (0 : Int))).2.1) ((x1_1.getD ((IntKind.wrap .i64 (x3 - (1 : Int))).toNat) ((0 : Int), (0 : Int), (0 : Int))).2.2) ((x1_1.getD x3.toNat ((0 : Int), (0 : Int), (0 : Int))).1) ((x1_1.getD x3.toNat ((0 : Int), (0 : Int), (0 : Int))).2.1) ((x1_1.getD x3.toNat ((0 : Int), (0 : Int), (0 : Int))).2.2)).bind fun r5 =>
              if (!r5) = true then
                some false
              else
                spec_l2Maze.l0 n K k x1_0 x1_1 x1_2 (IntKind.wrap .i64 (x3 + (1 : Int)))) else none
            else
              spec_l2Maze.l0 n K k x1_0 x1_1 x1_2 (IntKind.wrap .i64 (x3 + (1 : Int)))) else none
    else
      K x1_0 x1_1 x1_2
def spec_l2Maze.l2 (n : Nat) (K : Unit → Option (Bool)) : Nat → Int → (List (Int × Int × Int)) → (List (Int)) → Int → Option (Bool)
  | 0, _, _, _, _ => none
  | k + 1, x1_0, x1_1, x1_2, x5 =>
    if (decide (x5 < x1_0)) = true then
      if 0 ≤ x5 ∧ x5 < (x1_2.length : Int) then ((spec_l2Set.F n (x1_2.getD x5.toNat (0 : Int))).bind fun r9 =>
      if (!r9) = true then
        some false
      else
        spec_l2Maze.l2 n K k x1_0 x1_1 x1_2 (IntKind.wrap .i64 (x5 + (1 : Int)))) else none
    else
      K ()
def spec_l2Maze.F (n : Nat) (x0_0 : Int) (x0_1 : List (Int × Int × Int)) (x0_2 : List (Int)) : Option (Bool) :=
  let j3 : (Int) → (List (Int × Int × Int)) → (List (Int)) → Option (Bool) := fun j3_x1_0 j3_x1_1 j3_x1_2 =>
    spec_l2Maze.l0 n (fun y6 y7 y8 =>
      spec_l2Maze.l2 n (fun _ =>
        some true) n y6 y7 y8 (0 : Int)) n j3_x1_0 j3_x1_1 j3_x1_2 (0 : Int)
  (spec_l1In.F n x0_0 (1 : Int) (12 : Int)).bind fun r1 =>
  if (!r1) = true then
    some false
  else
    if (decide ((x0_1.length : Int) > (30 : Int))) = true then
      some false
    else
      if (!decide ((x0_2.length : Int) = x0_0)) = true then
        some false
      else
        j3 x0_0 x0_1 x0_2

/-- loop.example/g01158/spec.l2Joins -/
def spec_l2Joins.F (n : Nat) (x0_0 : Int) (x0_1 : Int) (x0_2 : Int) (x1 : Int) (x2 : Int) : Option (Bool) :=
  if (decide (x0_0 = x1)) = true then
    if (decide (x0_1 = x2)) = true then
      some true
    else
      if (decide (x0_0 = x2)) = true then
        some (decide (x0_1 = x1))
      else
        some false
  else
    if (decide (x0_0 = x2)) = true then
      some (decide (x0_1 = x1))
    else
      some false

/-- loop.example/g01158/spec.l2Has -/
def spec_l2Has.F (n : Nat) (x0 : Int) (x1 : Int) : Option (Bool) :=
  some (decide ((bitAnd .i64 x0 x1) = x1))

/-- loop.example/g01158/spec.l2Open -/
def spec_l2Open.l0 (n : Nat) (K : Unit → Option (Bool)) : Nat → Int → Int → Int → Int → (List (Int × Int × Int)) → (List (Int)) → Int → Option (Bool)
  | 0, _, _, _, _, _, _, _ => none
  | k + 1, x1, x2, x3, x4_0, x4_1, x4_2, x9 =>
    if (decide (x9 < (x4_1.length : Int))) = true then
      if 0 ≤ x9 ∧ x9 < (x4_1.length : Int) then ((spec_l2Joins.F n ((x4_1.getD x9.toNat ((0 : Int), (0 : Int), (0 : Int))).1) ((x4_1.getD x9.toNat ((0 : Int), (0 : Int), (0 : Int))).2.1) ((x4_1.getD x9.toNat ((0 : Int), (0 : Int), (0 : Int))).2.2) x1 x2).bind fun r1 =>
      if r1 = true then
        if 0 ≤ x9 ∧ x9 < (x4_1.length : Int) then ((spec_l2Has.F n x3 ((x4_1.getD x9.toNat ((0 : Int), (0 : Int), (0 : Int))).2.2)).bind fun r2 =>
        if r2 = true then
          some true
        else
          spec_l2Open.l0 n K k x1 x2 x3 x4_0 x4_1 x4_2 (IntKind.wrap .i64 (x9 + (1 : Int)))) else none
      else
        spec_l2Open.l0 n K k x1 x2 x3 x4_0 x4_1 x4_2 (IntKind.wrap .i64 (x9 + (1 : Int)))) else none
    else
      K ()
def spec_l2Open.F (n : Nat) (x0_0 : Int) (x0_1 : List (Int × Int × Int)) (x0_2 : List (Int)) (x1 : Int) (x2 : Int) (x3 : Int) : Option (Bool) :=
  spec_l2Open.l0 n (fun _ =>
    some false) n x1 x2 x3 x0_0 x0_1 x0_2 (0 : Int)

/-- loop.example/g01158/spec.l4Id -/
def spec_l4Id.F (n : Nat) (x0 : Int) (x1 : Int) : Option (Int) :=
  some (IntKind.wrap .i64 ((IntKind.wrap .i64 (x0 * (64 : Int))) + x1))

/-- loop.example/g01158/spec.l4Step -/
def spec_l4Step.l0 (n : Nat) (K : (List (Int)) → Option ((List (Int)))) : Nat → Int → Int → Int → (List (Int × Int × Int)) → (List (Int)) → (List (Int)) → Int → Option ((List (Int)))
  | 0, _, _, _, _, _, _, _ => none
  | k + 1, x1, x2, x3_0, x3_1, x3_2, x7, x8 =>
    if (decide (x8 < x3_0)) = true then
      (spec_l2Open.F n x3_0 x3_1 x3_2 x1 x8 x2).bind fun r1 =>
      if r1 = true then
        if 0 ≤ x8 ∧ x8 < (x3_2.length : Int) then ((spec_l4Id.F n x8 (bitOr .i64 x2 (x3_2.getD x8.toNat (0 : Int)))).bind fun r2 =>
        if x7.length + ([r2] : List (Int)).length ≤ 4398046511104 then (spec_l4Step.l0 n K k x1 x2 x3_0 x3_1 x3_2 (x7 ++ ([r2] : List (Int))) (IntKind.wrap .i64 (x8 + (1 : Int)))) else none) else none
      else
        spec_l4Step.l0 n K k x1 x2 x3_0 x3_1 x3_2 x7 (IntKind.wrap .i64 (x8 + (1 : Int)))
    else
      K x7
def spec_l4Step.F (n : Nat) (x0_0 : Int) (x0_1 : List (Int × Int × Int)) (x0_2 : List (Int)) (x1 : Int) (x2 : Int) : Option ((List (Int))) :=
  spec_l4Step.l0 n (fun y3 =>
    some y3) n x1 x2 x0_0 x0_1 x0_2 ([] : List (Int)) (0 : Int)

/-- loop.example/g01158/spec.l4Remain -/
def spec_l4Remain.l0 (n : Nat) (K : Int → (List (Int × Int × Int)) → (List (Int)) → (List (Int)) → Option ((List (Int)))) : Nat → Int → (List (Int × Int × Int)) → (List (Int)) → (List (Int)) → Int → Option ((List (Int)))
  | 0, _, _, _, _, _ => none
  | k + 1, x1_0, x1_1, x1_2, x3, x4 =>
    if (decide (x4 < (x3.length : Int))) = true then
      if 0 ≤ x4 ∧ x4 < (x3.length : Int) then (if (decide ((IntKind.wrap .i64 (Int.tdiv x4 64)) = (IntKind.wrap .i64 (x1_0 - (1 : Int))))) = true then
        if 0 ≤ x4 ∧ x4 < ((x3.set x4.toNat (-1 : Int)).length : Int) then (spec_l4Remain.l0 n K k x1_0 x1_1 x1_2 ((x3.set x4.toNat (-1 : Int)).set x4.toNat (0 : Int)) (IntKind.wrap .i64 (x4 + (1 : Int)))) else none
      else
        spec_l4Remain.l0 n K k x1_0 x1_1 x1_2 (x3.set x4.toNat (-1 : Int)) (IntKind.wrap .i64 (x4 + (1 : Int)))) else none
    else
      K x1_0 x1_1 x1_2 x3
def spec_l4Remain.l6 (n : Nat) (K : Int → (List (Int × Int × Int)) → (List (Int)) → (List (Int)) → Int → Bool → Int → Option ((List (Int)))) : Nat → Int → (List (Int × Int × Int)) → (List (Int)) → (List (Int)) → Int → Bool → Int → (List (Int)) → Int → Option ((List (Int)))
  | 0, _, _, _, _, _, _, _, _, _ => none
  | k + 1, x1_0, x1_1, x1_2, x3, x5, x6, x7, x8, x9 =>
    if (decide (x9 < (x8.length : Int))) = true then
      if 0 ≤ x7 ∧ x7 < (x3.length : Int) then (if (decide ((x3.getD x7.toNat (0 : Int)) < (0 : Int))) = true then
        if 0 ≤ x9 ∧ x9 < (x8.length : Int) then (if 0 ≤ (x8.getD x9.toNat (0 : Int)) ∧ (x8.getD x9.toNat (0 : Int)) < (x3.length : Int) then (if (decide ((x3.getD ((x8.getD x9.toNat (0 : Int)).toNat) (0 : Int)) = (IntKind.wrap .i64 (x5 - (1 : Int))))) = true then
          if 0 ≤ x7 ∧ x7 < (x3.length : Int) then (spec_l4Remain.l6 n K k x1_0 x1_1 x1_2 (x3.set x7.toNat x5) x5 true x7 x8 (IntKind.wrap .i64 (x9 + (1 : Int)))) else none
        else
          spec_l4Remain.l6 n K k x1_0 x1_1 x1_2 x3 x5 x6 x7 x8 (IntKind.wrap .i64 (x9 + (1 : Int)))) else none) else none
      else
        K x1_0 x1_1 x1_2 x3 x5 x6 x7) else none
    else
      K x1_0 x1_1 x1_2 x3 x5 x6 x7
def spec_l4Remain.l4 (n : Nat) (K : Int → (List (Int × Int × Int)) → (List (Int)) → (List (Int)) → Int → Bool → Option ((List (Int)))) : Nat → Int → (List (Int × Int × Int)) → (List (Int)) → (List (Int)) → Int → Bool → Int → Option ((List (Int)))
  | 0, _, _, _, _, _, _, _ => none
  | k + 1, x1_0, x1_1, x1_2, x3, x5, x6, x7 =>
    if (decide (x7 < (x3.length : Int))) = true then
      if 0 ≤ (IntKind.wrap .i64 (Int.tdiv x7 64)) ∧ (IntKind.wrap .i64 (Int.tdiv x7 64)) < (x1_2.length : Int) then ((spec_l4Step.F n x1_0 x1_1 x1_2 (IntKind.wrap .i64 (Int.tdiv x7 64)) (bitOr .i64 (Int.tmod x7 64) (x1_2.getD ((IntKind.wrap .i64 (Int.tdiv x7 64)).toNat) (0 : Int)))).bind fun r5 =>
      spec_l4Remain.l6 n (fun y6 y7 y8 y9 y10 y11 y12 =>
        spec_l4Remain.l4 n K k y6 y7 y8 y9 y10 y11 (IntKind.wrap .i64 (y12 + (1 : Int)))) n x1_0 x1_1 x1_2 x3 x5 x6 x7 r5 (0 : Int)) else none
    else
      K x1_0 x1_1 x1_2 x3 x5 x6
def spec_l4Remain.l2 (n : Nat) (K : (List (Int)) → Option ((List (Int)))) : Nat → Int → (List (Int × Int × Int)) → (List (Int)) → (List (Int)) → Int → Option ((List (Int)))
  | 0, _, _, _, _, _ => none
  | k + 1, x1_0, x1_1, x1_2, x3, x5 =>
    if (decide (x5 < (x3.length : Int))) = true then
      spec_l4Remain.l4 n (fun y13 y14 y15 y16 y17 y18 =>
        if (!y18) = true then
          some y16
        else
          spec_l4Remain.l2 n K k y13 y14 y15 y16 (IntKind.wrap .i64 (y17 + (1 : Int)))) n x1_0 x1_1 x1_2 x3 x5 false (0 : Int)
    else
      K x3
def spec_l4Remain.F (n : Nat) (x0_0 : Int) (x0_1 : List (Int × Int × Int)) (x0_2 : List (Int)) : Option ((List (Int))) :=
  if 0 ≤ (IntKind.wrap .i64 (x0_0 * (64 : Int))) ∧ (IntKind.wrap .i64 (x0_0 * (64 : Int))) ≤ (IntKind.wrap .i64 (x0_0 * (64 : Int))) ∧ (IntKind.wrap .i64 (x0_0 * (64 : Int))) ≤ 4398046511104 then (spec_l4Remain.l0 n (fun y1 y2 y3 y4 =>
    spec_l4Remain.l2 n (fun y19 =>
      some y19) n y1 y2 y3 y4 (1 : Int)) n x0_0 x0_1 x0_2 (List.replicate ((IntKind.wrap .i64 (x0_0 * (64 : Int))).toNat) (0 : Int)) (0 : Int)) else none

/-- loop.example/g01158/spec.l1Own -/
def spec_l1Own.F (n : Nat) (x0 : List (Int)) : Option ((List (Int))) :=
  if ([] : List (Int)).length + x0.length ≤ 4398046511104 then (some (([] : List (Int)) ++ x0)) else none

/-- loop.example/g01158/spec.RemainTable -/
def spec_RemainTable.l0 (n : Nat) (K : (List (List Int)) → Option ((List (List Int)) × Bool)) : Nat → Int → (List (Int × Int × Int)) → (List (Int)) → (List (List Int)) → (List (Int)) → Int → Option ((List (List Int)) × Bool)
  | 0, _, _, _, _, _, _ => none
  | k + 1, x1_0, x1_1, x1_2, x4, x5, x6 =>
    if (decide (x6 < x1_0)) = true then
      (spec_l4Id.F n x6 (0 : Int)).bind fun r3 =>
      (spec_l4Id.F n (IntKind.wrap .i64 (x6 + (1 : Int))) (0 : Int)).bind fun r4 =>
      if 0 ≤ r3 ∧ r3 ≤ r4 ∧ r4 ≤ (x5.length : Int) then ((spec_l1Own.F n ((x5.drop r3.toNat).take (r4.toNat - r3.toNat))).bind fun r5 =>
      if x4.length + 1 ≤ 1048576 then (spec_RemainTable.l0 n K k x1_0 x1_1 x1_2 (x4 ++ [r5]) x5 (IntKind.wrap .i64 (x6 + (1 : Int)))) else none) else none
    else
      K x4
def spec_RemainTable.F (n : Nat) (x0_0 : Int) (x0_1 : List (Int × Int × Int)) (x0_2 : List (Int)) : Option ((List (List Int)) × Bool) :=
  (spec_l2Maze.F n x0_0 x0_1 x0_2).bind fun r1 =>
  if (!r1) = true then
    some (([] : List (List Int)), false)
  else
    (spec_l4Remain.F n x0_0 x0_1 x0_2).bind fun r2 =>
    spec_RemainTable.l0 n (fun y6 =>
      some (y6, true)) n x0_0 x0_1 x0_2 ([] : List (List Int)) r2 (0 : Int)

/-- loop.example/g01158/laws.rInts -/
def laws_rInts.l0 (n : Nat) (K : Unit → Option (Bool)) : Nat → (List (Int)) → (List (Int)) → Int → Option (Bool)
  | 0, _, _, _ => none
  | k + 1, x0, x1, x5 =>
    if (decide (x5 < (x0.length : Int))) = true then
      if 0 ≤ x5 ∧ x5 < (x0.length : Int) then (if 0 ≤ x5 ∧ x5 < (x1.length : Int) then (if (!decide ((x0.getD x5.toNat (0 : Int)) = (x1.getD x5.toNat (0 : Int)))) = true then
        some false
      else
        laws_rInts.l0 n K k x0 x1 (IntKind.wrap .i64 (x5 + (1 : Int)))) else none) else none
    else
      K ()
def laws_rInts.F (n : Nat) (x0 : List (Int)) (x1 : List (Int)) : Option (Bool) :=
  if (!decide ((x0.length : Int) = (x1.length : Int))) = true then
    some false
  else
    laws_rInts.l0 n (fun _ =>
      some true) n x0 x1 (0 : Int)

/-- loop.example/g01158/laws.rTable -/
def laws_rTable.l0 (n : Nat) (K : Unit → Option (Bool)) : Nat → (List (List Int)) → (List (List Int)) → Int → Option (Bool)
  | 0, _, _, _ => none
  | k + 1, x0, x1, x5 =>
    if (decide (x5 < (x0.length : Int))) = true then
      if 0 ≤ x5 ∧ x5 < (x0.length : Int) then (if x5.toNat < x0.length then (if 0 ≤ x5 ∧ x5 < (x1.length : Int) then (if x5.toNat < x1.length then ((laws_rInts.F n (x0.getD x5.toNat []) (x1.getD x5.toNat [])).bind fun r1 =>
      if (!r1) = true then
        some false
      else
        laws_rTable.l0 n K k x0 x1 (IntKind.wrap .i64 (x5 + (1 : Int)))) else none) else none) else none) else none
    else
      K ()
def laws_rTable.F (n : Nat) (x0 : List (List Int)) (x1 : List (List Int)) : Option (Bool) :=
  if (!decide ((x0.length : Int) = (x1.length : Int))) = true then
    some false
  else
    laws_rTable.l0 n (fun _ =>
      some true) n x0 x1 (0 : Int)

/-- loop.example/g01158/impl.distances -/
def impl_distances.l2 (n : Nat) (K : Int → Int → Int → (List (Int × Int × Int)) → (List (Int)) → (List Int) → (List Int) → Int → Option ((List Int))) : Nat → Int → Int → Int → (List (Int × Int × Int)) → (List (Int)) → (List Int) → (List Int) → Int → Int → Int → Option ((List Int))
  | 0, _, _, _, _, _, _, _, _, _, _ => none
  | k + 1, x1, x2, x3_0, x3_1, x3_2, x6, x7, x8, x17, x20 =>
    if (decide (x20 < (64 : Int))) = true then
      if 0 ≤ x8 ∧ x8 < (12 : Int) ∧ (0 + (x8.toNat * 64)) < 768 then (if 0 ≤ x20 ∧ x20 < (64 : Int) ∧ ((0 + (x8.toNat * 64)) + (x20.toNat * 1)) < 768 then (impl_distances.l2 n K k x1 x2 x3_0 x3_1 x3_2 x6 (x7.set ((0 + (x8.toNat * 64)) + (x20.toNat * 1)) (-1)) x8 x17 (IntKind.wrap .i64 (x20 + (1 : Int)))) else none) else none
    else
      K x1 x2 x3_0 x3_1 x3_2 x6 x7 x17
def impl_distances.l0 (n : Nat) (K : Int → Int → Int → (List (Int × Int × Int)) → (List (Int)) → (List Int) → (List Int) → Option ((List Int))) : Nat → Int → Int → Int → (List (Int × Int × Int)) → (List (Int)) → (List Int) → (List Int) → Int → Option ((List Int))
  | 0, _, _, _, _, _, _, _, _ => none
  | k + 1, x1, x2, x3_0, x3_1, x3_2, x6, x7, x17 =>
    if (decide (x17 < (12 : Int))) = true then
      impl_distances.l2 n (fun y1 y2 y3 y4 y5 y6 y7 y8 =>
        impl_distances.l0 n K k y1 y2 y3 y4 y5 y6 y7 (IntKind.wrap .i64 (y8 + (1 : Int)))) n x1 x2 x3_0 x3_1 x3_2 x6 x7 x17 x17 (0 : Int)
    else
      K x1 x2 x3_0 x3_1 x3_2 x6 x7
def impl_distances.l6 (n : Nat) (K : Int → (List (Int × Int × Int)) → (List (Int)) → (List Int) → (List Int) → (List (Int × Int)) → Option ((List Int))) : Nat → Int → (List (Int × Int × Int)) → (List (Int)) → (List Int) → (List Int) → (List (Int × Int)) → Int → Int → (List (Int)) → Int → Int → Option ((List Int))
  | 0, _, _, _, _, _, _, _, _, _, _, _ => none
  | k + 1, x3_0, x3_1, x3_2, x6, x7, x10, x11, x12, x54, x55, x56 =>
    if (decide (x56 < x55)) = true then
      if 0 ≤ x56 ∧ x56 < (x54.length : Int) then (if 0 ≤ (x54.getD x56.toNat (0 : Int)) ∧ (x54.getD x56.toNat (0 : Int)) < (x3_2.length : Int) then (if 0 ≤ (x54.getD x56.toNat (0 : Int)) ∧ (x54.getD x56.toNat (0 : Int)) < (12 : Int) ∧ (0 + (((x54.getD x56.toNat (0 : Int)).toNat) * 64)) < 768 then (if 0 ≤ (bitOr .i64 x12 (x3_2.getD ((x54.getD x56.toNat (0 : Int)).toNat) (0 : Int))) ∧ (bitOr .i64 x12 (x3_2.getD ((x54.getD x56.toNat (0 : Int)).toNat) (0 : Int))) < (64 : Int) ∧ ((0 + (((x54.getD x56.toNat (0 : Int)).toNat) * 64)) + (((bitOr .i64 x12 (x3_2.getD ((x54.getD x56.toNat (0 : Int)).toNat) (0 : Int))).toNat) * 1)) < 768 then (if (decide ((x7.getD ((0 + (((x54.getD x56.toNat (0 : Int)).toNat) * 64)) + (((bitOr .i64 x12 (x3_2.getD ((x54.getD x56.toNat (0 : Int)).toNat) (0 : Int))).toNat) * 1)) 0) < (0 : Int))) = true then
        if 0 ≤ x11 ∧ x11 < (12 : Int) ∧ (0 + (x11.toNat * 64)) < 768 then (if 0 ≤ x12 ∧ x12 < (64 : Int) ∧ ((0 + (x11.toNat * 64)) + (x12.toNat * 1)) < 768 then (if 0 ≤ (x54.getD x56.toNat (0 : Int)) ∧ (x54.getD x56.toNat (0 : Int)) < (12 : Int) ∧ (0 + (((x54.getD x56.toNat (0 : Int)).toNat) * 64)) < 768 then (if 0 ≤ (bitOr .i64 x12 (x3_2.getD ((x54.getD x56.toNat (0 : Int)).toNat) (0 : Int))) ∧ (bitOr .i64 x12 (x3_2.getD ((x54.getD x56.toNat (0 : Int)).toNat) (0 : Int))) < (64 : Int) ∧ ((0 + (((x54.getD x56.toNat (0 : Int)).toNat) * 64)) + (((bitOr .i64 x12 (x3_2.getD ((x54.getD x56.toNat (0 : Int)).toNat) (0 : Int))).toNat) * 1)) < 768 then (if x10.length + ([(x54.getD x56.toNat (0 : Int), bitOr .i64 x12 (x3_2.getD ((x54.getD x56.toNat (0 : Int)).toNat) (0 : Int)))] : List (Int × Int)).length ≤ 4398046511104 then (impl_distances.l6 n K k x3_0 x3_1 x3_2 x6 (x7.set ((0 + (((x54.getD x56.toNat (0 : Int)).toNat) * 64)) + (((bitOr .i64 x12 (x3_2.getD ((x54.getD x56.toNat (0 : Int)).toNat) (0 : Int))).toNat) * 1)) (IntKind.wrap .i64 ((x7.getD ((0 + (x11.toNat * 64)) + (x12.toNat * 1)) 0) + (1 : Int)))) (x10 ++ ([(x54.getD x56.toNat (0 : Int), bitOr .i64 x12 (x3_2.getD ((x54.getD x56.toNat (0 : Int)).toNat) (0 : Int)))] : List (Int × Int))) x11 x12 x54 x55 (IntKind.wrap .i64 (x56 + (1 : Int)))) else none) else none) else none) else none) else none
      else
        impl_distances.l6 n K k x3_0 x3_1 x3_2 x6 x7 x10 x11 x12 x54 x55 (IntKind.wrap .i64 (x56 + (1 : Int)))) else none) else none) else none) else none
    else
      K x3_0 x3_1 x3_2 x6 x7 x10
def impl_distances.l4 (n : Nat) (K : (List Int) → (List Int) → Option ((List Int))) : Nat → Int → (List (Int × Int × Int)) → (List (Int)) → (List Int) → (List Int) → (List (Int × Int)) → Option ((List Int))
  | 0, _, _, _, _, _, _ => none
  | k + 1, x3_0, x3_1, x3_2, x6, x7, x10 =>
    if (decide ((x10.length : Int) > (0 : Int))) = true then
      if 0 ≤ (0 : Int) ∧ (0 : Int) < (x10.length : Int) then (if 0 ≤ (0 : Int) ∧ (0 : Int) < (x10.length : Int) then ((impl_steps.F n x3_0 x3_1 x3_2 ((x10.getD 0 ((0 : Int), (0 : Int))).1) ((x10.getD 0 ((0 : Int), (0 : Int))).2)).bind fun r16 =>
      (impl_members.F n r16).bind fun r17 =>
      impl_distances.l6 n (fun y18 y19 y20 y21 y22 y23 =>
        if 0 ≤ (1 : Int) ∧ (1 : Int) ≤ (y23.length : Int) then (impl_distances.l4 n K k y18 y19 y20 y21 y22 (y23.drop 1)) else none) n x3_0 x3_1 x3_2 x6 x7 x10 ((x10.getD 0 ((0 : Int), (0 : Int))).1) ((x10.getD 0 ((0 : Int), (0 : Int))).2) r17 (r17.length : Int) (0 : Int)) else none) else none
    else
      K x6 x7
def impl_distances.F (n : Nat) (x0_0 : Int) (x0_1 : List (Int × Int × Int)) (x0_2 : List (Int)) (x1 : Int) (x2 : Int) : Option ((List Int)) :=
  impl_distances.l0 n (fun y9 y10 y11 y12 y13 y14 y15 =>
    if 0 ≤ y9 ∧ y9 < (12 : Int) ∧ (0 + (y9.toNat * 64)) < 768 then (if 0 ≤ y10 ∧ y10 < (64 : Int) ∧ ((0 + (y9.toNat * 64)) + (y10.toNat * 1)) < 768 then (impl_distances.l4 n (fun y24 y25 =>
      some y25) n y11 y12 y13 y14 (y15.set ((0 + (y9.toNat * 64)) + (y10.toNat * 1)) 0) ([(y9, y10)] : List (Int × Int))) else none) else none) n x1 x2 x0_0 x0_1 x0_2 (List.replicate 768 (0 : Int)) (List.replicate 768 (0 : Int)) (0 : Int)

/-- loop.example/g01158/impl.fromStart -/
def impl_fromStart.F (n : Nat) (x0_0 : Int) (x0_1 : List (Int × Int × Int)) (x0_2 : List (Int)) : Option ((List Int)) :=
  if 0 ≤ (0 : Int) ∧ (0 : Int) < (x0_2.length : Int) then ((impl_distances.F n x0_0 x0_1 x0_2 (0 : Int) (x0_2.getD 0 (0 : Int))).bind fun r1 =>
  some r1) else none

/-- math/bits.OnesCount64 -/
def math_bits_OnesCount64.F (n : Nat) (x0 : Int) : Option (Int) :=
  some (bitAnd .i64 (IntKind.wrap .i64 (IntKind.wrap .u64 ((IntKind.wrap .u64 ((IntKind.wrap .u64 ((bitAnd .u64 (IntKind.wrap .u64 ((shR .u64 (IntKind.wrap .u64 ((bitAnd .u64 (shR .u64 (IntKind.wrap .u64 ((bitAnd .u64 (shR .u64 x0 1) 6148914691236517205) + (bitAnd .u64 x0 6148914691236517205))) 2) 3689348814741910323) + (bitAnd .u64 (IntKind.wrap .u64 ((bitAnd .u64 (shR .u64 x0 1) 6148914691236517205) + (bitAnd .u64 x0 6148914691236517205))) 3689348814741910323))) 4) + (IntKind.wrap .u64 ((bitAnd .u64 (shR .u64 (IntKind.wrap .u64 ((bitAnd .u64 (shR .u64 x0 1) 6148914691236517205) + (bitAnd .u64 x0 6148914691236517205))) 2) 3689348814741910323) + (bitAnd .u64 (IntKind.wrap .u64 ((bitAnd .u64 (shR .u64 x0 1) 6148914691236517205) + (bitAnd .u64 x0 6148914691236517205))) 3689348814741910323))))) 1085102592571150095) + (shR .u64 (bitAnd .u64 (IntKind.wrap .u64 ((shR .u64 (IntKind.wrap .u64 ((bitAnd .u64 (shR .u64 (IntKind.wrap .u64 ((bitAnd .u64 (shR .u64 x0 1) 6148914691236517205) + (bitAnd .u64 x0 6148914691236517205))) 2) 3689348814741910323) + (bitAnd .u64 (IntKind.wrap .u64 ((bitAnd .u64 (shR .u64 x0 1) 6148914691236517205) + (bitAnd .u64 x0 6148914691236517205))) 3689348814741910323))) 4) + (IntKind.wrap .u64 ((bitAnd .u64 (shR .u64 (IntKind.wrap .u64 ((bitAnd .u64 (shR .u64 x0 1) 6148914691236517205) + (bitAnd .u64 x0 6148914691236517205))) 2) 3689348814741910323) + (bitAnd .u64 (IntKind.wrap .u64 ((bitAnd .u64 (shR .u64 x0 1) 6148914691236517205) + (bitAnd .u64 x0 6148914691236517205))) 3689348814741910323))))) 1085102592571150095) 8))) + (shR .u64 (IntKind.wrap .u64 ((bitAnd .u64 (IntKind.wrap .u64 ((shR .u64 (IntKind.wrap .u64 ((bitAnd .u64 (shR .u64 (IntKind.wrap .u64 ((bitAnd .u64 (shR .u64 x0 1) 6148914691236517205) + (bitAnd .u64 x0 6148914691236517205))) 2) 3689348814741910323) + (bitAnd .u64 (IntKind.wrap .u64 ((bitAnd .u64 (shR .u64 x0 1) 6148914691236517205) + (bitAnd .u64 x0 6148914691236517205))) 3689348814741910323))) 4) + (IntKind.wrap .u64 ((bitAnd .u64 (shR .u64 (IntKind.wrap .u64 ((bitAnd .u64 (shR .u64 x0 1) 6148914691236517205) + (bitAnd .u64 x0 6148914691236517205))) 2) 3689348814741910323) + (bitAnd .u64 (IntKind.wrap .u64 ((bitAnd .u64 (shR .u64 x0 1) 6148914691236517205) + (bitAnd .u64 x0 6148914691236517205))) 3689348814741910323))))) 1085102592571150095) + (shR .u64 (bitAnd .u64 (IntKind.wrap .u64 ((shR .u64 (IntKind.wrap .u64 ((bitAnd .u64 (shR .u64 (IntKind.wrap .u64 ((bitAnd .u64 (shR .u64 x0 1) 6148914691236517205) + (bitAnd .u64 x0 6148914691236517205))) 2) 3689348814741910323) + (bitAnd .u64 (IntKind.wrap .u64 ((bitAnd .u64 (shR .u64 x0 1) 6148914691236517205) + (bitAnd .u64 x0 6148914691236517205))) 3689348814741910323))) 4) + (IntKind.wrap .u64 ((bitAnd .u64 (shR .u64 (IntKind.wrap .u64 ((bitAnd .u64 (shR .u64 x0 1) 6148914691236517205) + (bitAnd .u64 x0 6148914691236517205))) 2) 3689348814741910323) + (bitAnd .u64 (IntKind.wrap .u64 ((bitAnd .u64 (shR .u64 x0 1) 6148914691236517205) + (bitAnd .u64 x0 6148914691236517205))) 3689348814741910323))))) 1085102592571150095) 8))) 16))) + (shR .u64 (IntKind.wrap .u64 ((IntKind.wrap .u64 ((bitAnd .u64 (IntKind.wrap .u64 ((shR .u64 (IntKind.wrap .u64 ((bitAnd .u64 (shR .u64 (IntKind.wrap .u64 ((bitAnd .u64 (shR .u64 x0 1) 6148914691236517205) + (bitAnd .u64 x0 6148914691236517205))) 2) 3689348814741910323) + (bitAnd .u64 (IntKind.wrap .u64 ((bitAnd .u64 (shR .u64 x0 1) 6148914691236517205) + (bitAnd .u64 x0 6148914691236517205))) 3689348814741910323))) 4) + (IntKind.wrap .u64 ((bitAnd .u64 (shR .u64 (IntKind.wrap .u64 ((bitAnd .u64 (shR .u64 x0 1) 6148914691236517205) + (bitAnd .u64 x0 6148914691236517205))) 2) 3689348814741910323) + (bitAnd .u64 (IntKind.wrap .u64 ((bitAnd .u64 (shR .u64 x0 1) 6148914691236517205) + (bitAnd .u64 x0 6148914691236517205))) 3689348814741910323))))) 1085102592571150095) + (shR .u64 (bitAnd .u64 (IntKind.wrap .u64 ((shR .u64 (IntKind.wrap .u64 ((bitAnd .u64 (shR .u64 (IntKind.wrap .u64 ((bitAnd .u64 (shR .u64 x0 1) 6148914691236517205) + (bitAnd .u64 x0 6148914691236517205))) 2) 3689348814741910323) + (bitAnd .u64 (IntKind.wrap .u64 ((bitAnd .u64 (shR .u64 x0 1) 6148914691236517205) + (bitAnd .u64 x0 6148914691236517205))) 3689348814741910323))) 4) + (IntKind.wrap .u64 ((bitAnd .u64 (shR .u64 (IntKind.wrap .u64 ((bitAnd .u64 (shR .u64 x0 1) 6148914691236517205) + (bitAnd .u64 x0 6148914691236517205))) 2) 3689348814741910323) + (bitAnd .u64 (IntKind.wrap .u64 ((bitAnd .u64 (shR .u64 x0 1) 6148914691236517205) + (bitAnd .u64 x0 6148914691236517205))) 3689348814741910323))))) 1085102592571150095) 8))) + (shR .u64 (IntKind.wrap .u64 ((bitAnd .u64 (IntKind.wrap .u64 ((shR .u64 (IntKind.wrap .u64 ((bitAnd .u64 (shR .u64 (IntKind.wrap .u64 ((bitAnd .u64 (shR .u64 x0 1) 6148914691236517205) + (bitAnd .u64 x0 6148914691236517205))) 2) 3689348814741910323) + (bitAnd .u64 (IntKind.wrap .u64 ((bitAnd .u64 (shR .u64 x0 1) 6148914691236517205) + (bitAnd .u64 x0 6148914691236517205))) 3689348814741910323))) 4) + (IntKind.wrap .u64 ((bitAnd .u64 (shR .u64 (IntKind.wrap .u64 ((bitAnd .u64 (shR .u64 x0 1) 6148914691236517205) + (bitAnd .u64 x0 6148914691236517205))) 2) 3689348814741910323) + (bitAnd .u64 (IntKind.wrap .u64 ((bitAnd .u64 (shR .u64 x0 1) 6148914691236517205) + (bitAnd .u64 x0 6148914691236517205))) 3689348814741910323))))) 1085102592571150095) + (shR .u64 (bitAnd .u64 (IntKind.wrap .u64 ((shR .u64 (IntKind.wrap .u64 ((bitAnd .u64 (shR .u64 (IntKind.wrap .u64 ((bitAnd .u64 (shR .u64 x0 1) 6148914691236517205) + (bitAnd .u64 x0 6148914691236517205))) 2) 3689348814741910323) + (bitAnd .u64 (IntKind.wrap .u64 ((bitAnd .u64 (shR .u64 x0 1) 6148914691236517205) + (bitAnd .u64 x0 6148914691236517205))) 3689348814741910323))) 4) + (IntKind.wrap .u64 ((bitAnd .u64 (shR .u64 (IntKind.wrap .u64 ((bitAnd .u64 (shR .u64 x0 1) 6148914691236517205) + (bitAnd .u64 x0 6148914691236517205))) 2) 3689348814741910323) + (bitAnd .u64 (IntKind.wrap .u64 ((bitAnd .u64 (shR .u64 x0 1) 6148914691236517205) + (bitAnd .u64 x0 6148914691236517205))) 3689348814741910323))))) 1085102592571150095) 8))) 16))) 32)))) 127)

/-- math/bits.OnesCount -/
def math_bits_OnesCount.F (n : Nat) (x0 : Int) : Option (Int) :=
  (math_bits_OnesCount64.F n x0).bind fun r1 =>
  some r1

/-- loop.example/g01158/impl.stepsAndKeys$1 -/
def impl_stepsAndKeys_1_c0.F (n : Nat) (x0 : Int) (x1 : Int) : Option (Bool) :=
  (math_bits_OnesCount.F n (IntKind.wrap .u64 x0)).bind fun r1 =>
  some (decide (r1 ≤ x1))

/-- (loop.example/g01158/impl.grid).least -/
def impl_grid_least_cstepsAndKeys_1.l0 (n : Nat) (K : Int → Option (Int)) : Nat → Int → Int → (List Int) → Int → Option (Int)
  | 0, _, _, _, _ => none
  | k + 1, x2, x7, x12, x13 =>
    if (decide (x13 < (64 : Int))) = true then
      if 0 ≤ x13 ∧ x13 < (64 : Int) then ((impl_stepsAndKeys_1_c0.F n x13 x2).bind fun r1 =>
      if r1 = true then
        (impl_better.F n (x12.getD x13.toNat 0) x7).bind fun r2 =>
        if r2 = true then
          impl_grid_least_cstepsAndKeys_1.l0 n K k x2 (x12.getD x13.toNat 0) x12 (IntKind.wrap .i64 (x13 + (1 : Int)))
        else
          impl_grid_least_cstepsAndKeys_1.l0 n K k x2 x7 x12 (IntKind.wrap .i64 (x13 + (1 : Int)))
      else
        impl_grid_least_cstepsAndKeys_1.l0 n K k x2 x7 x12 (IntKind.wrap .i64 (x13 + (1 : Int)))) else none
    else
      K x7
def impl_grid_least_cstepsAndKeys_1.F (n : Nat) (x0 : List Int) (x1 : Int) (x2 : Int) : Option (Int) :=
  if 0 ≤ x1 ∧ x1 < (12 : Int) ∧ (0 + (x1.toNat * 64)) < 768 then (if (0 + (x1.toNat * 64)) + 64 ≤ 768 then (impl_grid_least_cstepsAndKeys_1.l0 n (fun y3 =>
    some y3) n x2 (-1 : Int) ((x0.drop (0 + (x1.toNat * 64))).take 64) (0 : Int)) else none) else none

/-- loop.example/g01158/impl.stepsAndKeys -/
def impl_stepsAndKeys.l0 (n : Nat) (K : (List (Int)) → Option ((List (Int)))) : Nat → Int → (List (Int × Int × Int)) → (List (Int)) → (List (Int)) → (List Int) → Int → Option ((List (Int)))
  | 0, _, _, _, _, _, _ => none
  | k + 1, x1_0, x1_1, x1_2, x3, x4, x9 =>
    if (decide (x9 < (7 : Int))) = true then
      (impl_grid_least_cstepsAndKeys_1.F n x4 (IntKind.wrap .i64 (x1_0 - (1 : Int))) x9).bind fun r2 =>
      if x3.length + ([r2] : List (Int)).length ≤ 4398046511104 then (impl_stepsAndKeys.l0 n K k x1_0 x1_1 x1_2 (x3 ++ ([r2] : List (Int))) x4 (IntKind.wrap .i64 (x9 + (1 : Int)))) else none
    else
      K x3
def impl_stepsAndKeys.F (n : Nat) (x0_0 : Int) (x0_1 : List (Int × Int × Int)) (x0_2 : List (Int)) : Option ((List (Int))) :=
  (impl_fromStart.F n x0_0 x0_1 x0_2).bind fun r1 =>
  impl_stepsAndKeys.l0 n (fun y3 =>
    some y3) n x0_0 x0_1 x0_2 ([] : List (Int)) r1 (0 : Int)

/-- loop.example/g01158/impl.StepsAndKeys -/
def impl_StepsAndKeys.F (n : Nat) (x0_0 : Int) (x0_1 : List (Int × Int × Int)) (x0_2 : List (Int)) : Option ((List (Int)) × Bool) :=
  (impl_IsMaze.F n x0_0 x0_1 x0_2).bind fun r1 =>
  if (!r1) = true then
    some (([] : List (Int)), false)
  else
    (impl_stepsAndKeys.F n x0_0 x0_1 x0_2).bind fun r2 =>
    some (r2, true)

/-- loop.example/g01158/spec.l4Spread -/
def spec_l4Spread.l0 (n : Nat) (K : Int → Int → Int → (List (Int × Int × Int)) → (List (Int)) → (List (Int)) → Option ((List (Int)))) : Nat → Int → Int → Int → (List (Int × Int × Int)) → (List (Int)) → (List (Int)) → Int → Option ((List (Int)))
  | 0, _, _, _, _, _, _, _ => none
  | k + 1, x1, x2, x3_0, x3_1, x3_2, x7, x8 =>
    if (decide (x8 < (x7.length : Int))) = true then
      if 0 ≤ x8 ∧ x8 < (x7.length : Int) then (spec_l4Spread.l0 n K k x1 x2 x3_0 x3_1 x3_2 (x7.set x8.toNat (-1 : Int)) (IntKind.wrap .i64 (x8 + (1 : Int)))) else none
    else
      K x1 x2 x3_0 x3_1 x3_2 x7
def spec_l4Spread.l4 (n : Nat) (K : Int → (List (Int × Int × Int)) → (List (Int)) → (List (Int)) → (List (Int)) → Int → Option ((List (Int)))) : Nat → Int → (List (Int × Int × Int)) → (List (Int)) → (List (Int)) → (List (Int)) → Int → (List (Int)) → Int → Option ((List (Int)))
  | 0, _, _, _, _, _, _, _, _ => none
  | k + 1, x3_0, x3_1, x3_2, x7, x9, x10, x11, x12 =>
    if (decide (x12 < (x11.length : Int))) = true then
      if 0 ≤ x12 ∧ x12 < (x11.length : Int) then (if 0 ≤ (x11.getD x12.toNat (0 : Int)) ∧ (x11.getD x12.toNat (0 : Int)) < (x7.length : Int) then (if (decide ((x7.getD ((x11.getD x12.toNat (0 : Int)).toNat) (0 : Int)) < (0 : Int))) = true then
        if 0 ≤ x12 ∧ x12 < (x11.length : Int) then (if 0 ≤ x10 ∧ x10 < (x9.length : Int) then (if 0 ≤ (x9.getD x10.toNat (0 : Int)) ∧ (x9.getD x10.toNat (0 : Int)) < (x7.length : Int) then (if 0 ≤ (x11.getD x12.toNat (0 : Int)) ∧ (x11.getD x12.toNat (0 : Int)) < (x7.length : Int) then (if 0 ≤ x12 ∧ x12 < (x11.length : Int) then (if x9.length + ([x11.getD x12.toNat (0 : Int)] : List (Int)).length ≤ 4398046511104 then (spec_l4Spread.l4 n K k x3_0 x3_1 x3_2 (x7.set ((x11.getD x12.toNat (0 : Int)).toNat) (IntKind.wrap .i64 ((x7.getD ((x9.getD x10.toNat (0 : Int)).toNat) (0 : Int)) + (1 : Int)))) (x9 ++ ([x11.getD x12.toNat (0 : Int)] : List (Int))) x10 x11 (IntKind.wrap .i64 (x12 + (1 : Int)))) else none) else none) else none) else none) else none) else none
      else
        spec_l4Spread.l4 n K k x3_0 x3_1 x3_2 x7 x9 x10 x11 (IntKind.wrap .i64 (x12 + (1 : Int)))) else none) else none
    else
      K x3_0 x3_1 x3_2 x7 x9 x10
def spec_l4Spread.l2 (n : Nat) (K : (List (Int)) → Option ((List (Int)))) : Nat → Int → (List (Int × Int × Int)) → (List (Int)) → (List (Int)) → (List (Int)) → Int → Option ((List (Int)))
  | 0, _, _, _, _, _, _ => none
  | k + 1, x3_0, x3_1, x3_2, x7, x9, x10 =>
    if (decide (x10 < (x9.length : Int))) = true then
      if 0 ≤ x10 ∧ x10 < (x9.length : Int) then (if 0 ≤ x10 ∧ x10 < (x9.length : Int) then ((spec_l4Step.F n x3_0 x3_1 x3_2 (IntKind.wrap .i64 (Int.tdiv (x9.getD x10.toNat (0 : Int)) 64)) (Int.tmod (x9.getD x10.toNat (0 : Int)) 64)).bind fun r8 =>
      spec_l4Spread.l4 n (fun y9 y10 y11 y12 y13 y14 =>
        spec_l4Spread.l2 n K k y9 y10 y11 y12 y13 (IntKind.wrap .i64 (y14 + (1 : Int)))) n x3_0 x3_1 x3_2 x7 x9 x10 r8 (0 : Int)) else none) else none
    else
      K x7
def spec_l4Spread.F (n : Nat) (x0_0 : Int) (x0_1 : List (Int × Int × Int)) (x0_2 : List (Int)) (x1 : Int) (x2 : Int) : Option ((List (Int))) :=
  if 0 ≤ (IntKind.wrap .i64 (x0_0 * (64 : Int))) ∧ (IntKind.wrap .i64 (x0_0 * (64 : Int))) ≤ (IntKind.wrap .i64 (x0_0 * (64 : Int))) ∧ (IntKind.wrap .i64 (x0_0 * (64 : Int))) ≤ 4398046511104 then (spec_l4Spread.l0 n (fun y1 y2 y3 y4 y5 y6 =>
    (spec_l4Id.F n y1 y2).bind fun r7 =>
    if 0 ≤ (0 : Int) ∧ (0 : Int) < (([r7] : List (Int)).length : Int) then (if 0 ≤ (([r7] : List (Int)).getD 0 (0 : Int)) ∧ (([r7] : List (Int)).getD 0 (0 : Int)) < (y6.length : Int) then (spec_l4Spread.l2 n (fun y15 =>
      some y15) n y3 y4 y5 (y6.set ((([r7] : List (Int)).getD 0 (0 : Int)).toNat) (0 : Int)) ([r7] : List (Int)) (0 : Int)) else none) else none) n x1 x2 x0_0 x0_1 x0_2 (List.replicate ((IntKind.wrap .i64 (x0_0 * (64 : Int))).toNat) (0 : Int)) (0 : Int)) else none

/-- loop.example/g01158/spec.l4First -/
def spec_l4First.F (n : Nat) (x0_0 : Int) (x0_1 : List (Int × Int × Int)) (x0_2 : List (Int)) : Option ((List (Int))) :=
  if 0 ≤ (0 : Int) ∧ (0 : Int) < (x0_2.length : Int) then ((spec_l4Spread.F n x0_0 x0_1 x0_2 (0 : Int) (x0_2.getD 0 (0 : Int))).bind fun r1 =>
  some r1) else none

/-- loop.example/g01158/spec.l2Many -/
def spec_l2Many.l0 (n : Nat) (K : Int → Option (Int)) : Nat → Int → Int → Option (Int)
  | 0, _, _ => none
  | k + 1, x0, x3 =>
    if (decide (x0 > (0 : Int))) = true then
      spec_l2Many.l0 n K k (shR .i64 x0 1) (IntKind.wrap .i64 (x3 + (bitAnd .i64 x0 1)))
    else
      K x3
def spec_l2Many.F (n : Nat) (x0 : Int) : Option (Int) :=
  spec_l2Many.l0 n (fun y1 =>
    some y1) n x0 (0 : Int)

/-- loop.example/g01158/spec.l4Least -/
def spec_l4Least.l0 (n : Nat) (K : Int → Option (Int)) : Nat → (List (Int)) → Int → Int → Int → Int → Int → Option (Int)
  | 0, _, _, _, _, _, _ => none
  | k + 1, x0, x1, x2, x3, x9, x10 =>
    if (decide (x10 < (64 : Int))) = true then
      (spec_l4Id.F n x1 x10).bind fun r1 =>
      if 0 ≤ r1 ∧ r1 < (x0.length : Int) then ((spec_l2Has.F n x10 x2).bind fun r2 =>
      if r2 = true then
        (spec_l2Many.F n x10).bind fun r3 =>
        if (decide (r3 ≤ x3)) = true then
          if (decide ((x0.getD r1.toNat (0 : Int)) ≥ (0 : Int))) = true then
            if (decide (x9 < (0 : Int))) = true then
              spec_l4Least.l0 n K k x0 x1 x2 x3 (x0.getD r1.toNat (0 : Int)) (IntKind.wrap .i64 (x10 + (1 : Int)))
            else
              if (decide ((x0.getD r1.toNat (0 : Int)) < x9)) = true then
                spec_l4Least.l0 n K k x0 x1 x2 x3 (x0.getD r1.toNat (0 : Int)) (IntKind.wrap .i64 (x10 + (1 : Int)))
              else
                spec_l4Least.l0 n K k x0 x1 x2 x3 x9 (IntKind.wrap .i64 (x10 + (1 : Int)))
          else
            spec_l4Least.l0 n K k x0 x1 x2 x3 x9 (IntKind.wrap .i64 (x10 + (1 : Int)))
        else
          spec_l4Least.l0 n K k x0 x1 x2 x3 x9 (IntKind.wrap .i64 (x10 + (1 : Int)))
      else
        spec_l4Least.l0 n K k x0 x1 x2 x3 x9 (IntKind.wrap .i64 (x10 + (1 : Int)))) else none
    else
      K x9
def spec_l4Least.F (n : Nat) (x0 : List (Int)) (x1 : Int) (x2 : Int) (x3 : Int) : Option (Int) :=
  spec_l4Least.l0 n (fun y4 =>
    some y4) n x0 x1 x2 x3 (-1 : Int) (0 : Int)

/-- loop.example/g01158/spec.StepsAndKeys -/
def spec_StepsAndKeys.l0 (n : Nat) (K : (List (Int)) → Option ((List (Int)) × Bool)) : Nat → Int → (List (Int × Int × Int)) → (List (Int)) → (List (Int)) → (List (Int)) → Int → Option ((List (Int)) × Bool)
  | 0, _, _, _, _, _, _ => none
  | k + 1, x1_0, x1_1, x1_2, x4, x5, x6 =>
    if (decide (x6 ≤ (6 : Int))) = true then
      (spec_l4Least.F n x5 (IntKind.wrap .i64 (x1_0 - (1 : Int))) (0 : Int) x6).bind fun r3 =>
      if x4.length + ([r3] : List (Int)).length ≤ 4398046511104 then (spec_StepsAndKeys.l0 n K k x1_0 x1_1 x1_2 (x4 ++ ([r3] : List (Int))) x5 (IntKind.wrap .i64 (x6 + (1 : Int)))) else none
    else
      K x4
def spec_StepsAndKeys.F (n : Nat) (x0_0 : Int) (x0_1 : List (Int × Int × Int)) (x0_2 : List (Int)) : Option ((List (Int)) × Bool) :=
  (spec_l2Maze.F n x0_0 x0_1 x0_2).bind fun r1 =>
  if (!r1) = true then
    some (([] : List (Int)), false)
  else
    (spec_l4First.F n x0_0 x0_1 x0_2).bind fun r2 =>
    spec_StepsAndKeys.l0 n (fun y4 =>
      some (y4, true)) n x0_0 x0_1 x0_2 ([] : List (Int)) r2 (0 : Int)

/-- loop.example/g01158/impl.FewestKeys$1 -/
def impl_FewestKeys_1.F (n : Nat) (x0 : Int) : Option (Bool) :=
  some (decide (x0 ≥ (0 : Int)))

/-- slices.IndexFunc[[]int,int] -/
def slices_IndexFunc_int_int_cFewestKeys_1.l0 (n : Nat) (K : Unit → Option (Int)) : Nat → (List (Int)) → Int → Int → Option (Int)
  | 0, _, _, _ => none
  | k + 1, x0, x7, x8 =>
    if (decide (x8 < x7)) = true then
      if 0 ≤ x8 ∧ x8 < (x0.length : Int) then ((impl_FewestKeys_1.F n (x0.getD x8.toNat (0 : Int))).bind fun r1 =>
      if r1 = true then
        some x8
      else
        slices_IndexFunc_int_int_cFewestKeys_1.l0 n K k x0 x7 (IntKind.wrap .i64 (x8 + (1 : Int)))) else none
    else
      K ()
def slices_IndexFunc_int_int_cFewestKeys_1.F (n : Nat) (x0 : List (Int)) : Option (Int) :=
  slices_IndexFunc_int_int_cFewestKeys_1.l0 n (fun _ =>
    some (-1 : Int)) n x0 (x0.length : Int) (0 : Int)

/-- loop.example/g01158/impl.told -/
def impl_told.F (n : Nat) (x0 : Int) : Option (Int × Bool) :=
  some (if (0 : Int) > x0 then (0 : Int) else x0, (decide (x0 ≥ (0 : Int))))

/-- loop.example/g01158/impl.FewestKeys -/
def impl_FewestKeys.F (n : Nat) (x0_0 : Int) (x0_1 : List (Int × Int × Int)) (x0_2 : List (Int)) : Option (Int × Bool) :=
  (impl_IsMaze.F n x0_0 x0_1 x0_2).bind fun r1 =>
  if (!r1) = true then
    some ((0 : Int), false)
  else
    (impl_stepsAndKeys.F n x0_0 x0_1 x0_2).bind fun r2 =>
    (slices_IndexFunc_int_int_cFewestKeys_1.F n r2).bind fun r3 =>
    (impl_told.F n r3).bind fun r4 =>
    some (r4.1, r4.2)

/-- loop.example/g01158/spec.FewestKeys -/
def spec_FewestKeys.l0 (n : Nat) (K : Unit → Option (Int × Bool)) : Nat → Int → (List (Int × Int × Int)) → (List (Int)) → (List (Int)) → Int → Option (Int × Bool)
  | 0, _, _, _, _, _ => none
  | k + 1, x1_0, x1_1, x1_2, x4, x5 =>
    if (decide (x5 ≤ (6 : Int))) = true then
      (spec_l4Least.F n x4 (IntKind.wrap .i64 (x1_0 - (1 : Int))) (0 : Int) x5).bind fun r3 =>
      if (decide (r3 ≥ (0 : Int))) = true then
        some (x5, true)
      else
        spec_FewestKeys.l0 n K k x1_0 x1_1 x1_2 x4 (IntKind.wrap .i64 (x5 + (1 : Int)))
    else
      K ()
def spec_FewestKeys.F (n : Nat) (x0_0 : Int) (x0_1 : List (Int × Int × Int)) (x0_2 : List (Int)) : Option (Int × Bool) :=
  (spec_l2Maze.F n x0_0 x0_1 x0_2).bind fun r1 =>
  if (!r1) = true then
    some ((0 : Int), false)
  else
    (spec_l4First.F n x0_0 x0_1 x0_2).bind fun r2 =>
    spec_FewestKeys.l0 n (fun _ =>
      some ((0 : Int), false)) n x0_0 x0_1 x0_2 r2 (0 : Int)

/-- (*loop.example/g01158/spec.l1Cur).nodeOf -/
def spec_l1Cur_nodeOf.F (n : Nat) (x0_0 : List (Int)) (x0_1 : Int) (x0_2 : Int) (x1_0 : Int) (x1_1 : List (Int × Int × Int)) (x1_2 : List (Int)) : Option ((List (Int)) × Int × Int × Int) :=
  (spec_l1Cur_one.F n x0_0 x0_1 x0_2 (30 : Int)).bind fun r1 =>
  if r1.2.2.2 = true then
    (spec_l1Cur_among.F n r1.1 r1.2.1 r1.2.2.1 ([(-1 : Int), (0 : Int), x1_0, (4611686018427387904 : Int)] : List (Int))).bind fun r2 =>
    some (r2.1, r2.2.1, r2.2.2.1, r2.2.2.2)
  else
    (spec_l1Least.F n x1_0 (12 : Int)).bind fun r3 =>
    (spec_l1Most.F n r3 (1 : Int)).bind fun r4 =>
    (spec_l1Cur_pick.F n r1.1 r1.2.1 r1.2.2.1 r4).bind fun r5 =>
    some (r5.1, r5.2.1, r5.2.2.1, r5.2.2.2)

/-- (*loop.example/g01158/spec.l1Cur).colours -/
def spec_l1Cur_colours.l0 (n : Nat) (K : (List (Int)) → Int → Int → Int → Option ((List (Int)) × Int × Int × Int)) : Nat → (List (Int)) → Int → Int → Int → Int → Option ((List (Int)) × Int × Int × Int)
  | 0, _, _, _, _, _ => none
  | k + 1, x0_0, x0_1, x0_2, x3, x4 =>
    if (decide (x4 > (0 : Int))) = true then
      (spec_l1Cur_pick.F n x0_0 x0_1 x0_2 (6 : Int)).bind fun r4 =>
      if r4.2.2.2 < 0 then none else (spec_l1Cur_colours.l0 n K k r4.1 r4.2.1 r4.2.2.1 (bitOr .i64 x3 (shL .i64 1 r4.2.2.2)) (IntKind.wrap .i64 (x4 - (1 : Int))))
    else
      K x0_0 x0_1 x0_2 x3
def spec_l1Cur_colours.F (n : Nat) (x0_0 : List (Int)) (x0_1 : Int) (x0_2 : Int) : Option ((List (Int)) × Int × Int × Int) :=
  (spec_l1Cur_one.F n x0_0 x0_1 x0_2 (30 : Int)).bind fun r1 =>
  if r1.2.2.2 = true then
    (spec_l1Cur_among.F n r1.1 r1.2.1 r1.2.2.1 ([(63 : Int), (64 : Int), (-1 : Int), (4611686018427387904 : Int)] : List (Int))).bind fun r2 =>
    some (r2.1, r2.2.1, r2.2.2.1, r2.2.2.2)
  else
    (spec_l1Cur_pick.F n r1.1 r1.2.1 r1.2.2.1 (4 : Int)).bind fun r3 =>
    spec_l1Cur_colours.l0 n (fun y5 y6 y7 y8 =>
      some (y5, y6, y7, y8)) n r3.1 r3.2.1 r3.2.2.1 (0 : Int) r3.2.2.2

/-- loop.example/g01158/spec.DrawReachWith -/
def spec_DrawReachWith.F (n : Nat) (x0 : List (Int)) : Option (Int × (List (Int × Int × Int)) × (List (Int)) × Int × Int) :=
  (spec_l1Cur_maze.F n x0 (0 : Int) (0 : Int)).bind fun r1 =>
  (spec_l1Cur_nodeOf.F n r1.1 r1.2.1 r1.2.2.1 r1.2.2.2.1 r1.2.2.2.2.1 r1.2.2.2.2.2).bind fun r2 =>
  (spec_l1Cur_colours.F n r2.1 r2.2.1 r2.2.2.1).bind fun r3 =>
  some (r1.2.2.2.1, r1.2.2.2.2.1, r1.2.2.2.2.2, r2.2.2.2, r3.2.2.2)

/-- loop.example/g01158/spec.DrawFewestFrom -/
def spec_DrawFewestFrom.F (n : Nat) (x0 : List (Int)) : Option (Int × (List (Int × Int × Int)) × (List (Int)) × Int × Int) :=
  (spec_DrawReachWith.F n x0).bind fun r1 =>
  some (r1.1, r1.2.1, r1.2.2.1, r1.2.2.2.1, r1.2.2.2.2)

/-- loop.example/g01158/impl.isNode$1 -/
def impl_isNode_1_c0.F (n : Nat) (x0 : Int) (x1_0 : Int) (x1_1 : List (Int × Int × Int)) (x1_2 : List (Int)) : Option (Bool) :=
  (impl_within.F n x0 (0 : Int) (IntKind.wrap .i64 (x1_0 - (1 : Int)))).bind fun r1 =>
  some (!r1)

/-- slices.IndexFunc[[]int,int] -/
def slices_IndexFunc_int_int_cisNode_1.l0 (n : Nat) (K : Unit → Option (Int)) : Nat → (List (Int)) → Int → (List (Int × Int × Int)) → (List (Int)) → Int → Int → Option (Int)
  | 0, _, _, _, _, _, _ => none
  | k + 1, x0, x1_0, x1_1, x1_2, x7, x8 =>
    if (decide (x8 < x7)) = true then
      if 0 ≤ x8 ∧ x8 < (x0.length : Int) then ((impl_isNode_1_c0.F n (x0.getD x8.toNat (0 : Int)) x1_0 x1_1 x1_2).bind fun r1 =>
      if r1 = true then
        some x8
      else
        slices_IndexFunc_int_int_cisNode_1.l0 n K k x0 x1_0 x1_1 x1_2 x7 (IntKind.wrap .i64 (x8 + (1 : Int)))) else none
    else
      K ()
def slices_IndexFunc_int_int_cisNode_1.F (n : Nat) (x0 : List (Int)) (x1_0 : Int) (x1_1 : List (Int × Int × Int)) (x1_2 : List (Int)) : Option (Int) :=
  slices_IndexFunc_int_int_cisNode_1.l0 n (fun _ =>
    some (-1 : Int)) n x0 x1_0 x1_1 x1_2 (x0.length : Int) (0 : Int)

/-- slices.ContainsFunc[[]int,int] -/
def slices_ContainsFunc_int_int_cisNode_1.F (n : Nat) (x0 : List (Int)) (x1_0 : Int) (x1_1 : List (Int × Int × Int)) (x1_2 : List (Int)) : Option (Bool) :=
  (slices_IndexFunc_int_int_cisNode_1.F n x0 x1_0 x1_1 x1_2).bind fun r1 =>
  some (decide (r1 ≥ (0 : Int)))

/-- loop.example/g01158/impl.isNode -/
def impl_isNode.F (n : Nat) (x0_0 : Int) (x0_1 : List (Int × Int × Int)) (x0_2 : List (Int)) (x1 : List (Int)) : Option (Bool) :=
  (impl_IsMaze.F n x0_0 x0_1 x0_2).bind fun r1 =>
  if r1 = true then
    (slices_ContainsFunc_int_int_cisNode_1.F n x1 x0_0 x0_1 x0_2).bind fun r2 =>
    some (!r2)
  else
    some false

/-- loop.example/g01158/impl.FewestFrom -/
def impl_FewestFrom.F (n : Nat) (x0_0 : Int) (x0_1 : List (Int × Int × Int)) (x0_2 : List (Int)) (x1 : Int) (x2 : Int) : Option (Int × Bool) :=
  (impl_isNode.F n x0_0 x0_1 x0_2 ([x1] : List (Int))).bind fun r1 =>
  if (!r1) = true then
    some ((0 : Int), false)
  else
    (impl_isSet.F n x2).bind fun r2 =>
    if (!r2) = true then
      some ((0 : Int), false)
    else
      (impl_remain.F n x0_0 x0_1 x0_2).bind fun r3 =>
      if 0 ≤ x1 ∧ x1 < (12 : Int) then (if 0 ≤ x1 ∧ x1 < (x0_2.length : Int) then (if 0 ≤ (bitOr .i64 x2 (x0_2.getD x1.toNat (0 : Int))) ∧ (bitOr .i64 x2 (x0_2.getD x1.toNat (0 : Int))) < (64 : Int) then ((impl_told.F n (((r3.drop (x1.toNat * 64)).take 64).getD ((bitOr .i64 x2 (x0_2.getD x1.toNat (0 : Int))).toNat) 0)).bind fun r4 =>
      some (r4.1, r4.2)) else none) else none) else none

/-- loop.example/g01158/spec.l2Node -/
def spec_l2Node.F (n : Nat) (x0_0 : Int) (x0_1 : List (Int × Int × Int)) (x0_2 : List (Int)) (x1 : Int) : Option (Bool) :=
  (spec_l2Maze.F n x0_0 x0_1 x0_2).bind fun r1 =>
  if r1 = true then
    (spec_l1In.F n x1 (0 : Int) (IntKind.wrap .i64 (x0_0 - (1 : Int)))).bind fun r2 =>
    some r2
  else
    some false

/-- loop.example/g01158/spec.l4Told -/
def spec_l4Told.F (n : Nat) (x0 : Int) : Option (Int × Bool) :=
  (spec_l1Most.F n x0 (0 : Int)).bind fun r1 =>
  some (r1, (decide (x0 ≥ (0 : Int))))

/-- loop.example/g01158/spec.FewestFrom -/
def spec_FewestFrom.F (n : Nat) (x0_0 : Int) (x0_1 : List (Int × Int × Int)) (x0_2 : List (Int)) (x1 : Int) (x2 : Int) : Option (Int × Bool) :=
  (spec_l2Node.F n x0_0 x0_1 x0_2 x1).bind fun r1 =>
  if (!r1) = true then
    some ((0 : Int), false)
  else
    (spec_l2Set.F n x2).bind fun r2 =>
    if (!r2) = true then
      some ((0 : Int), false)
    else
      (spec_l4Remain.F n x0_0 x0_1 x0_2).bind fun r3 =>
      (spec_l4Id.F n x1 x2).bind fun r4 =>
      if 0 ≤ r4 ∧ r4 < (r3.length : Int) then ((spec_l4Told.F n (r3.getD r4.toNat (0 : Int))).bind fun r5 =>
      some (r5.1, r5.2)) else none

/-- loop.example/g01158/spec.DrawFewestWith -/
def spec_DrawFewestWith.F (n : Nat) (x0 : List (Int)) : Option (Int × (List (Int × Int × Int)) × (List (Int)) × Int) :=
  (spec_l1Cur_maze.F n x0 (0 : Int) (0 : Int)).bind fun r1 =>
  (spec_l1Cur_one.F n r1.1 r1.2.1 r1.2.2.1 (8 : Int)).bind fun r2 =>
  if r2.2.2.2 = true then
    (spec_l1Cur_colours.F n r2.1 r2.2.1 r2.2.2.1).bind fun r3 =>
    some (r1.2.2.2.1, r1.2.2.2.2.1, r1.2.2.2.2.2, r3.2.2.2)
  else
    (spec_l1Cur_few.F n r2.1 r2.2.1 r2.2.2.1 (6 : Int)).bind fun r4 =>
    some (r1.2.2.2.1, r1.2.2.2.2.1, r1.2.2.2.2.2, r4.2.2.2)

/-- loop.example/g01158/impl.asked -/
def impl_asked.F (n : Nat) (x0_0 : Int) (x0_1 : List (Int × Int × Int)) (x0_2 : List (Int)) (x1 : Int) : Option (Bool) :=
  (impl_IsMaze.F n x0_0 x0_1 x0_2).bind fun r1 =>
  if r1 = true then
    (impl_isSet.F n x1).bind fun r2 =>
    some r2
  else
    some false

/-- loop.example/g01158/impl.FewestWith$1 -/
def impl_FewestWith_1_c0.F (n : Nat) (x0 : Int) (x1 : Int) : Option (Bool) :=
  (impl_has.F n x0 x1).bind fun r1 =>
  some r1

/-- (loop.example/g01158/impl.grid).least -/
def impl_grid_least_cFewestWith_1.l0 (n : Nat) (K : Int → Option (Int)) : Nat → Int → Int → (List Int) → Int → Option (Int)
  | 0, _, _, _, _ => none
  | k + 1, x2, x7, x12, x13 =>
    if (decide (x13 < (64 : Int))) = true then
      if 0 ≤ x13 ∧ x13 < (64 : Int) then ((impl_FewestWith_1_c0.F n x13 x2).bind fun r1 =>
      if r1 = true then
        (impl_better.F n (x12.getD x13.toNat 0) x7).bind fun r2 =>
        if r2 = true then
          impl_grid_least_cFewestWith_1.l0 n K k x2 (x12.getD x13.toNat 0) x12 (IntKind.wrap .i64 (x13 + (1 : Int)))
        else
          impl_grid_least_cFewestWith_1.l0 n K k x2 x7 x12 (IntKind.wrap .i64 (x13 + (1 : Int)))
      else
        impl_grid_least_cFewestWith_1.l0 n K k x2 x7 x12 (IntKind.wrap .i64 (x13 + (1 : Int)))) else none
    else
      K x7
def impl_grid_least_cFewestWith_1.F (n : Nat) (x0 : List Int) (x1 : Int) (x2 : Int) : Option (Int) :=
  if 0 ≤ x1 ∧ x1 < (12 : Int) ∧ (0 + (x1.toNat * 64)) < 768 then (if (0 + (x1.toNat * 64)) + 64 ≤ 768 then (impl_grid_least_cFewestWith_1.l0 n (fun y3 =>
    some y3) n x2 (-1 : Int) ((x0.drop (0 + (x1.toNat * 64))).take 64) (0 : Int)) else none) else none

/-- loop.example/g01158/impl.FewestWith -/
def impl_FewestWith.F (n : Nat) (x0_0 : Int) (x0_1 : List (Int × Int × Int)) (x0_2 : List (Int)) (x1 : Int) : Option (Int × Bool) :=
  (impl_asked.F n x0_0 x0_1 x0_2 x1).bind fun r1 =>
  if (!r1) = true then
    some ((0 : Int), false)
  else
    (impl_fromStart.F n x0_0 x0_1 x0_2).bind fun r2 =>
    (impl_grid_least_cFewestWith_1.F n r2 (IntKind.wrap .i64 (x0_0 - (1 : Int))) x1).bind fun r3 =>
    (impl_told.F n r3).bind fun r4 =>
    some (r4.1, r4.2)

/-- loop.example/g01158/spec.FewestWith -/
def spec_FewestWith.F (n : Nat) (x0_0 : Int) (x0_1 : List (Int × Int × Int)) (x0_2 : List (Int)) (x1 : Int) : Option (Int × Bool) :=
  (spec_l2Maze.F n x0_0 x0_1 x0_2).bind fun r1 =>
  if (!r1) = true then
    some ((0 : Int), false)
  else
    (spec_l2Set.F n x1).bind fun r2 =>
    if (!r2) = true then
      some ((0 : Int), false)
    else
      (spec_l4First.F n x0_0 x0_1 x0_2).bind fun r3 =>
      (spec_l4Least.F n r3 (IntKind.wrap .i64 (x0_0 - (1 : Int))) x1 (6 : Int)).bind fun r4 =>
      (spec_l4Told.F n r4).bind fun r5 =>
      some (r5.1, r5.2)

/-- loop.example/g01158/impl.anySet -/
def impl_anySet.F (n : Nat) (x0 : Int) : Option (Bool) :=
  some true

/-- (loop.example/g01158/impl.grid).least -/
def impl_grid_least_canySet.l0 (n : Nat) (K : Int → Option (Int)) : Nat → Int → (List Int) → Int → Option (Int)
  | 0, _, _, _ => none
  | k + 1, x7, x12, x13 =>
    if (decide (x13 < (64 : Int))) = true then
      if 0 ≤ x13 ∧ x13 < (64 : Int) then ((impl_anySet.F n x13).bind fun r1 =>
      if r1 = true then
        (impl_better.F n (x12.getD x13.toNat 0) x7).bind fun r2 =>
        if r2 = true then
          impl_grid_least_canySet.l0 n K k (x12.getD x13.toNat 0) x12 (IntKind.wrap .i64 (x13 + (1 : Int)))
        else
          impl_grid_least_canySet.l0 n K k x7 x12 (IntKind.wrap .i64 (x13 + (1 : Int)))
      else
        impl_grid_least_canySet.l0 n K k x7 x12 (IntKind.wrap .i64 (x13 + (1 : Int)))) else none
    else
      K x7
def impl_grid_least_canySet.F (n : Nat) (x0 : List Int) (x1 : Int) : Option (Int) :=
  if 0 ≤ x1 ∧ x1 < (12 : Int) ∧ (0 + (x1.toNat * 64)) < 768 then (if (0 + (x1.toNat * 64)) + 64 ≤ 768 then (impl_grid_least_canySet.l0 n (fun y3 =>
    some y3) n (-1 : Int) ((x0.drop (0 + (x1.toNat * 64))).take 64) (0 : Int)) else none) else none

/-- loop.example/g01158/impl.FewestSteps -/
def impl_FewestSteps.F (n : Nat) (x0_0 : Int) (x0_1 : List (Int × Int × Int)) (x0_2 : List (Int)) : Option (Int × Bool) :=
  (impl_IsMaze.F n x0_0 x0_1 x0_2).bind fun r1 =>
  if (!r1) = true then
    some ((0 : Int), false)
  else
    (impl_fromStart.F n x0_0 x0_1 x0_2).bind fun r2 =>
    (impl_grid_least_canySet.F n r2 (IntKind.wrap .i64 (x0_0 - (1 : Int)))).bind fun r3 =>
    (impl_told.F n r3).bind fun r4 =>
    some (r4.1, r4.2)

/-- loop.example/g01158/spec.FewestSteps -/
def spec_FewestSteps.F (n : Nat) (x0_0 : Int) (x0_1 : List (Int × Int × Int)) (x0_2 : List (Int)) : Option (Int × Bool) :=
  (spec_l2Maze.F n x0_0 x0_1 x0_2).bind fun r1 =>
  if (!r1) = true then
    some ((0 : Int), false)
  else
    (spec_l4First.F n x0_0 x0_1 x0_2).bind fun r2 =>
    (spec_l4Least.F n r2 (IntKind.wrap .i64 (x0_0 - (1 : Int))) (0 : Int) (6 : Int)).bind fun r3 =>
    (spec_l4Told.F n r3).bind fun r4 =>
    some (r4.1, r4.2)

/-- loop.example/g01158/laws.FnRemaining -/
def laws_FnRemaining.l4 (n : Nat) (K : Int → (List (Int × Int × Int)) → (List (Int)) → (List (List Int)) → Int → Int → Option (Bool)) : Nat → Int → (List (Int × Int × Int)) → (List (Int)) → (List (List Int)) → Int → Int → Int → Option (Bool)
  | 0, _, _, _, _, _, _, _ => none
  | k + 1, x3_0, x3_1, x3_2, x4, x35, x36, x37 =>
    if (decide (x37 < (6 : Int))) = true then
      if 0 ≤ x35 ∧ x35 < (x4.length : Int) then (if x35.toNat < x4.length then (if x37 < 0 then none else (if 0 ≤ (bitOr .i64 x36 (shL .i64 1 x37)) ∧ (bitOr .i64 x36 (shL .i64 1 x37)) < ((x4.getD x35.toNat []).length : Int) then (if 0 ≤ x35 ∧ x35 < (x4.length : Int) then (if x35.toNat < x4.length then (if 0 ≤ x36 ∧ x36 < ((x4.getD x35.toNat []).length : Int) then (if (decide (((x4.getD x35.toNat []).getD x36.toNat (0 : Int)) ≥ (0 : Int))) = true then
        if (decide (((x4.getD x35.toNat []).getD ((bitOr .i64 x36 (shL .i64 1 x37)).toNat) (0 : Int)) < (0 : Int))) = true then
          some false
        else
          if 0 ≤ x35 ∧ x35 < (x4.length : Int) then (if x35.toNat < x4.length then (if 0 ≤ x36 ∧ x36 < ((x4.getD x35.toNat []).length : Int) then (if (decide (((x4.getD x35.toNat []).getD ((bitOr .i64 x36 (shL .i64 1 x37)).toNat) (0 : Int)) > ((x4.getD x35.toNat []).getD x36.toNat (0 : Int)))) = true then
            some false
          else
            laws_FnRemaining.l4 n K k x3_0 x3_1 x3_2 x4 x35 x36 (IntKind.wrap .i64 (x37 + (1 : Int)))) else none) else none) else none
      else
        laws_FnRemaining.l4 n K k x3_0 x3_1 x3_2 x4 x35 x36 (IntKind.wrap .i64 (x37 + (1 : Int)))) else none) else none) else none) else none)) else none) else none
    else
      K x3_0 x3_1 x3_2 x4 x35 x36
def laws_FnRemaining.l2 (n : Nat) (K : Int → (List (Int × Int × Int)) → (List (Int)) → (List (List Int)) → Int → Option (Bool)) : Nat → Int → (List (Int × Int × Int)) → (List (Int)) → (List (List Int)) → Int → Int → Option (Bool)
  | 0, _, _, _, _, _, _ => none
  | k + 1, x3_0, x3_1, x3_2, x4, x35, x36 =>
    if (decide (x36 < (64 : Int))) = true then
      laws_FnRemaining.l4 n (fun y21 y22 y23 y24 y25 y26 =>
        laws_FnRemaining.l2 n K k y21 y22 y23 y24 y25 (IntKind.wrap .i64 (y26 + (1 : Int)))) n x3_0 x3_1 x3_2 x4 x35 x36 (0 : Int)
    else
      K x3_0 x3_1 x3_2 x4 x35
def laws_FnRemaining.l0 (n : Nat) (K : Unit → Option (Bool)) : Nat → Int → (List (Int × Int × Int)) → (List (Int)) → (List (List Int)) → Int → Option (Bool)
  | 0, _, _, _, _, _ => none
  | k + 1, x3_0, x3_1, x3_2, x4, x35 =>
    if (decide (x35 < x3_0)) = true then
      laws_FnRemaining.l2 n (fun y27 y28 y29 y30 y31 =>
        laws_FnRemaining.l0 n K k y27 y28 y29 y30 (IntKind.wrap .i64 (y31 + (1 : Int)))) n x3_0 x3_1 x3_2 x4 x35 (0 : Int)
    else
      K ()
def laws_FnRemaining.c38 (n : Nat) (x3_0 : Int) (x3_1 : List (Int × Int × Int)) (x3_2 : List (Int)) (x4 : List (List Int)) : Option (Bool) :=
  laws_FnRemaining.l0 n (fun _ =>
    some true) n x3_0 x3_1 x3_2 x4 (0 : Int)
def laws_FnRemaining.c36 (n : Nat) (x3_0 : Int) (x3_1 : List (Int × Int × Int)) (x3_2 : List (Int)) (x4 : List (List Int)) (x8 : List (Int)) (x12 : Int) (x31 : Int) (x32 : Bool) : Option (Bool) :=
  if 0 ≤ (0 : Int) ∧ (0 : Int) < (x4.length : Int) then (if 0 < x4.length then (if 0 ≤ (0 : Int) ∧ (0 : Int) < ((x4.getD 0 []).length : Int) then (if (!(x32 == (decide (((x4.getD 0 []).getD 0 (0 : Int)) ≥ (0 : Int))))) = true then
    some false
  else
    if x32 = true then
      if 0 ≤ (0 : Int) ∧ (0 : Int) < (x4.length : Int) then (if 0 < x4.length then (if 0 ≤ (0 : Int) ∧ (0 : Int) < ((x4.getD 0 []).length : Int) then (if (!decide (((x4.getD 0 []).getD 0 (0 : Int)) = x31)) = true then
        some false
      else
        if x32 = true then
          if 0 ≤ (6 : Int) ∧ (6 : Int) < (x8.length : Int) then (if (!decide ((x8.getD 6 (0 : Int)) = x31)) = true then
            some false
          else
            if 0 ≤ x12 ∧ x12 < (x8.length : Int) then (if (decide ((x8.getD x12.toNat (0 : Int)) < (0 : Int))) = true then
              some false
            else
              if (decide (x12 > (0 : Int))) = true then
                if 0 ≤ (IntKind.wrap .i64 (x12 - (1 : Int))) ∧ (IntKind.wrap .i64 (x12 - (1 : Int))) < (x8.length : Int) then (if (decide ((x8.getD ((IntKind.wrap .i64 (x12 - (1 : Int))).toNat) (0 : Int)) ≥ (0 : Int))) = true then
                  some false
                else
                  laws_FnRemaining.c38 n x3_0 x3_1 x3_2 x4) else none
              else
                laws_FnRemaining.c38 n x3_0 x3_1 x3_2 x4) else none) else none
        else
          laws_FnRemaining.c38 n x3_0 x3_1 x3_2 x4) else none) else none) else none
    else
      if x32 = true then
        if 0 ≤ (6 : Int) ∧ (6 : Int) < (x8.length : Int) then (if (!decide ((x8.getD 6 (0 : Int)) = x31)) = true then
          some false
        else
          if 0 ≤ x12 ∧ x12 < (x8.length : Int) then (if (decide ((x8.getD x12.toNat (0 : Int)) < (0 : Int))) = true then
            some false
          else
            if (decide (x12 > (0 : Int))) = true then
              if 0 ≤ (IntKind.wrap .i64 (x12 - (1 : Int))) ∧ (IntKind.wrap .i64 (x12 - (1 : Int))) < (x8.length : Int) then (if (decide ((x8.getD ((IntKind.wrap .i64 (x12 - (1 : Int))).toNat) (0 : Int)) ≥ (0 : Int))) = true then
                some false
              else
                laws_FnRemaining.c38 n x3_0 x3_1 x3_2 x4) else none
            else
              laws_FnRemaining.c38 n x3_0 x3_1 x3_2 x4) else none) else none
      else
        laws_FnRemaining.c38 n x3_0 x3_1 x3_2 x4) else none) else none) else none
def laws_FnRemaining.c30 (n : Nat) (x3_0 : Int) (x3_1 : List (Int × Int × Int)) (x3_2 : List (Int)) (x4 : List (List Int)) (x5 : Bool) (x8 : List (Int)) (x12 : Int) (x13 : Bool) : Option (Bool) :=
  if (!x5) = true then
    some true
  else
    (impl_FewestSteps.F n x3_0 x3_1 x3_2).bind fun r19 =>
    (spec_FewestSteps.F n x3_0 x3_1 x3_2).bind fun r20 =>
    if (!decide (r19.1 = r20.1)) = true then
      some false
    else
      if (!(r19.2 == r20.2)) = true then
        some false
      else
        if (!(r19.2 == x13)) = true then
          some false
        else
          laws_FnRemaining.c36 n x3_0 x3_1 x3_2 x4 x8 x12 r19.1 r19.2
def laws_FnRemaining.c26 (n : Nat) (x3_0 : Int) (x3_1 : List (Int × Int × Int)) (x3_2 : List (Int)) (x4 : List (List Int)) (x5 : Bool) (x8 : List (Int)) (x12 : Int) (x13 : Bool) (x23_0 : Int) (x23_1 : List (Int × Int × Int)) (x23_2 : List (Int)) (x25 : Int) (x26 : Bool) : Option (Bool) :=
  if x26 = true then
    (impl_FewestSteps.F n x23_0 x23_1 x23_2).bind fun r18 =>
    if (!r18.2) = true then
      some false
    else
      if (decide (r18.1 > x25)) = true then
        some false
      else
        laws_FnRemaining.c30 n x3_0 x3_1 x3_2 x4 x5 x8 x12 x13
  else
    laws_FnRemaining.c30 n x3_0 x3_1 x3_2 x4 x5 x8 x12 x13
def laws_FnRemaining.c21 (n : Nat) (x0 : List (Int)) (x3_0 : Int) (x3_1 : List (Int × Int × Int)) (x3_2 : List (Int)) (x4 : List (List Int)) (x5 : Bool) (x8 : List (Int)) (x12 : Int) (x13 : Bool) : Option (Bool) :=
  (spec_DrawFewestWith.F n x0).bind fun r15 =>
  (impl_FewestWith.F n r15.1 r15.2.1 r15.2.2.1 r15.2.2.2).bind fun r16 =>
  (spec_FewestWith.F n r15.1 r15.2.1 r15.2.2.1 r15.2.2.2).bind fun r17 =>
  if (!decide (r16.1 = r17.1)) = true then
    some false
  else
    if (!(r16.2 == r17.2)) = true then
      some false
    else
      laws_FnRemaining.c26 n x3_0 x3_1 x3_2 x4 x5 x8 x12 x13 r15.1 r15.2.1 r15.2.2.1 r16.1 r16.2
def laws_FnRemaining.c16 (n : Nat) (x0 : List (Int)) (x3_0 : Int) (x3_1 : List (Int × Int × Int)) (x3_2 : List (Int)) (x4 : List (List Int)) (x5 : Bool) (x8 : List (Int)) (x12 : Int) (x13 : Bool) : Option (Bool) :=
  (spec_DrawFewestFrom.F n x0).bind fun r12 =>
  (impl_FewestFrom.F n r12.1 r12.2.1 r12.2.2.1 r12.2.2.2.1 r12.2.2.2.2).bind fun r13 =>
  (spec_FewestFrom.F n r12.1 r12.2.1 r12.2.2.1 r12.2.2.2.1 r12.2.2.2.2).bind fun r14 =>
  if (!decide (r13.1 = r14.1)) = true then
    some false
  else
    if (!(r13.2 == r14.2)) = true then
      some false
    else
      laws_FnRemaining.c21 n x0 x3_0 x3_1 x3_2 x4 x5 x8 x12 x13
def laws_FnRemaining.c12 (n : Nat) (x0 : List (Int)) (x3_0 : Int) (x3_1 : List (Int × Int × Int)) (x3_2 : List (Int)) (x4 : List (List Int)) (x5 : Bool) (x8 : List (Int)) : Option (Bool) :=
  (impl_FewestKeys.F n x3_0 x3_1 x3_2).bind fun r10 =>
  (spec_FewestKeys.F n x3_0 x3_1 x3_2).bind fun r11 =>
  if (!decide (r10.1 = r11.1)) = true then
    some false
  else
    if (!(r10.2 == r11.2)) = true then
      some false
    else
      laws_FnRemaining.c16 n x0 x3_0 x3_1 x3_2 x4 x5 x8 r10.1 r10.2
def laws_FnRemaining.c8 (n : Nat) (x0 : List (Int)) (x3_0 : Int) (x3_1 : List (Int × Int × Int)) (x3_2 : List (Int)) (x4 : List (List Int)) (x5 : Bool) : Option (Bool) :=
  (impl_StepsAndKeys.F n x3_0 x3_1 x3_2).bind fun r7 =>
  (spec_StepsAndKeys.F n x3_0 x3_1 x3_2).bind fun r8 =>
  if (!(r7.2 == r8.2)) = true then
    some false
  else
    if (!(r7.2 == x5)) = true then
      some false
    else
      (laws_rInts.F n r7.1 r8.1).bind fun r9 =>
      if (!r9) = true then
        some false
      else
        laws_FnRemaining.c12 n x0 x3_0 x3_1 x3_2 x4 x5 r7.1
def laws_FnRemaining.F (n : Nat) (x0 : List (Int)) : Option (Bool) :=
  (laws_rBig.F n x0).bind fun r1 =>
  if r1 = true then
    some true
  else
    (spec_DrawRemainTable.F n x0).bind fun r2 =>
    (impl_RemainTable.F n r2.1 r2.2.1 r2.2.2).bind fun r3 =>
    (spec_RemainTable.F n r2.1 r2.2.1 r2.2.2).bind fun r4 =>
    if (!(r3.2 == r4.2)) = true then
      some false
    else
      (impl_IsMaze.F n r2.1 r2.2.1 r2.2.2).bind fun r5 =>
      if (!(r3.2 == r5)) = true then
        some false
      else
        (laws_rTable.F n r3.1 r4.1).bind fun r6 =>
        if (!r6) = true then
          some false
        else
          laws_FnRemaining.c8 n x0 r2.1 r2.2.1 r2.2.2 r3.1 r3.2

end
end Go.Pf
