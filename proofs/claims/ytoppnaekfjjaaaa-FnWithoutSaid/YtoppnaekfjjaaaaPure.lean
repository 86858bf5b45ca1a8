/- The pure functions of this seat's Go functions, as a program of mine (mach.py) printed them. -/
import Derived.Test.YtoppnaekfjjaaaaGwA
set_option linter.unusedVariables false
set_option autoImplicit false
namespace Go.Pf
open Go Go.Fx

/-- loop.example/g01158/laws.vBig -/
def laws_vBig.F (n : Nat) (x0 : List (Int)) : Option (Bool) :=
  some (decide ((x0.length : Int) > (65536 : Int)))

/-- (*loop.example/g01158/spec.l1Cur).next -/
def spec_l1Cur_next.F (n : Nat) (x0_0 : List (Int)) (x0_1 : Int) (x0_2 : Int) : Option ((List (Int)) × Int × Int × Int) :=
  let j4 : (List (Int)) → (Int) → (Int) → (Int) → Option ((List (Int)) × Int × Int × Int) := fun j4_x0_0 j4_x0_1 j4_x0_2 j4_x3 =>
    if (decide ((IntKind.wrap .i64 (j4_x0_1 + (1 : Int))) ≤ (j4_x0_0.length : Int))) = true then
      some (j4_x0_0, IntKind.wrap .i64 (j4_x0_1 + (1 : Int)), IntKind.wrap .u64 ((IntKind.wrap .u64 ((IntKind.wrap .u64 (j4_x0_2 * (6364136223846793005 : Int))) + (IntKind.wrap .u64 j4_x3))) + (462197 : Int)), j4_x3)
    else
      some (j4_x0_0, IntKind.wrap .i64 (j4_x0_1 + (1 : Int)), IntKind.wrap .u64 ((IntKind.wrap .u64 ((IntKind.wrap .u64 (j4_x0_2 * (6364136223846793005 : Int))) + (IntKind.wrap .u64 j4_x3))) + (462197 : Int)), IntKind.wrap .i64 (bitAnd .u64 (shR .u64 (IntKind.wrap .u64 ((IntKind.wrap .u64 ((IntKind.wrap .u64 (j4_x0_2 * (6364136223846793005 : Int))) + (IntKind.wrap .u64 j4_x3))) + (462197 : Int))) 40) 255))
  if (decide (x0_1 < (x0_0.length : Int))) = true then
    if 0 ≤ x0_1 ∧ x0_1 < (x0_0.length : Int) then (j4 x0_0 x0_1 x0_2 (IntKind.wrap .i64 (x0_0.getD x0_1.toNat (0 : Int)))) else none
  else
    j4 x0_0 x0_1 x0_2 (0 : Int)

/-- (*loop.example/g01158/spec.l1Cur).pick -/
def spec_l1Cur_pick.F (n : Nat) (x0_0 : List (Int)) (x0_1 : Int) (x0_2 : Int) (x1 : Int) : Option ((List (Int)) × Int × Int × Int) :=
  if (decide (x1 ≤ (1 : Int))) = true then
    some (x0_0, x0_1, x0_2, (0 : Int))
  else
    (spec_l1Cur_next.F n x0_0 x0_1 x0_2).bind fun r1 =>
    if (decide (x1 > (200 : Int))) = true then
      (spec_l1Cur_next.F n r1.1 r1.2.1 r1.2.2.1).bind fun r2 =>
      if x1 = 0 then none else (some (r2.1, r2.2.1, r2.2.2.1, Int.tmod (IntKind.wrap .i64 ((IntKind.wrap .i64 (r1.2.2.2 * (256 : Int))) + r2.2.2.2)) x1))
    else
      if x1 = 0 then none else (some (r1.1, r1.2.1, r1.2.2.1, Int.tmod r1.2.2.2 x1))

/-- (*loop.example/g01158/spec.l1Cur).among -/
def spec_l1Cur_among.F (n : Nat) (x0_0 : List (Int)) (x0_1 : Int) (x0_2 : Int) (x1 : List (Int)) : Option ((List (Int)) × Int × Int × Int) :=
  (spec_l1Cur_pick.F n x0_0 x0_1 x0_2 (x1.length : Int)).bind fun r1 =>
  if 0 ≤ r1.2.2.2 ∧ r1.2.2.2 < (x1.length : Int) then (some (r1.1, r1.2.1, r1.2.2.1, x1.getD r1.2.2.2.toNat (0 : Int))) else none

/-- (*loop.example/g01158/spec.l1Cur).one -/
def spec_l1Cur_one.F (n : Nat) (x0_0 : List (Int)) (x0_1 : Int) (x0_2 : Int) (x1 : Int) : Option ((List (Int)) × Int × Int × Bool) :=
  (spec_l1Cur_pick.F n x0_0 x0_1 x0_2 x1).bind fun r1 =>
  some (r1.1, r1.2.1, r1.2.2.1, (decide (r1.2.2.2 = (0 : Int))))

/-- (*loop.example/g01158/spec.l1Cur).few -/
def spec_l1Cur_few.l0 (n : Nat) (K : (List (Int)) → Int → Int → Int → Option ((List (Int)) × Int × Int × Int)) : Nat → (List (Int)) → Int → Int → Int → Int → Int → Option ((List (Int)) × Int × Int × Int)
  | 0, _, _, _, _, _, _ => none
  | k + 1, x0_0, x0_1, x0_2, x1, x5, x6 =>
    if (decide (x6 > (0 : Int))) = true then
      (spec_l1Cur_pick.F n x0_0 x0_1 x0_2 x1).bind fun r2 =>
      if r2.2.2.2 < 0 then none else (spec_l1Cur_few.l0 n K k r2.1 r2.2.1 r2.2.2.1 x1 (bitOr .i64 x5 (shL .i64 1 r2.2.2.2)) (IntKind.wrap .i64 (x6 - (1 : Int))))
    else
      K x0_0 x0_1 x0_2 x5
def spec_l1Cur_few.F (n : Nat) (x0_0 : List (Int)) (x0_1 : Int) (x0_2 : Int) (x1 : Int) : Option ((List (Int)) × Int × Int × Int) :=
  (spec_l1Cur_among.F n x0_0 x0_1 x0_2 ([(0 : Int), (1 : Int), (1 : Int), (1 : Int), (2 : Int)] : List (Int))).bind fun r1 =>
  spec_l1Cur_few.l0 n (fun y3 y4 y5 y6 =>
    some (y3, y4, y5, y6)) n r1.1 r1.2.1 r1.2.2.1 x1 (0 : Int) r1.2.2.2

/-- loop.example/g01158/spec.l1Least -/
def spec_l1Least.F (n : Nat) (x0 : Int) (x1 : Int) : Option (Int) :=
  if (decide (x0 < x1)) = true then
    some x0
  else
    some x1

/-- loop.example/g01158/spec.l1Most -/
def spec_l1Most.F (n : Nat) (x0 : Int) (x1 : Int) : Option (Int) :=
  if (decide (x0 > x1)) = true then
    some x0
  else
    some x1

/-- loop.example/g01158/spec.l2Before -/
def spec_l2Before.F (n : Nat) (x0_0 : Int) (x0_1 : Int) (x0_2 : Int) (x1_0 : Int) (x1_1 : Int) (x1_2 : Int) : Option (Bool) :=
  if (!decide (x0_0 = x1_0)) = true then
    some (decide (x0_0 < x1_0))
  else
    if (!decide (x0_1 = x1_1)) = true then
      some (decide (x0_1 < x1_1))
    else
      if (!decide (x0_2 = x1_2)) = true then
        some (decide (x0_2 < x1_2))
      else
        some false

/-- loop.example/g01158/spec.l2Put -/
def spec_l2Put.l0 (n : Nat) (K : (List (Int × Int × Int)) → Int → Int → Int → Int → Option ((List (Int × Int × Int)))) : Nat → (List (Int × Int × Int)) → Int → Int → Int → Int → Option ((List (Int × Int × Int)))
  | 0, _, _, _, _, _ => none
  | k + 1, x0, x9_0, x9_1, x9_2, x10 =>
    if (decide (x10 < (x0.length : Int))) = true then
      if 0 ≤ x10 ∧ x10 < (x0.length : Int) then ((spec_l2Before.F n ((x0.getD x10.toNat ((0 : Int), (0 : Int), (0 : Int))).1) ((x0.getD x10.toNat ((0 : Int), (0 : Int), (0 : Int))).2.1) ((x0.getD x10.toNat ((0 : Int), (0 : Int), (0 : Int))).2.2) x9_0 x9_1 x9_2).bind fun r3 =>
      if r3 = true then
        spec_l2Put.l0 n K k x0 x9_0 x9_1 x9_2 (IntKind.wrap .i64 (x10 + (1 : Int)))
      else
        K x0 x9_0 x9_1 x9_2 x10) else none
    else
      K x0 x9_0 x9_1 x9_2 x10
def spec_l2Put.F (n : Nat) (x0 : List (Int × Int × Int)) (x1 : Int) (x2 : Int) (x3 : Int) : Option ((List (Int × Int × Int))) :=
  (spec_l1Least.F n x1 x2).bind fun r1 =>
  (spec_l1Most.F n x1 x2).bind fun r2 =>
  spec_l2Put.l0 n (fun y4 y5 y6 y7 y8 =>
    if (decide (y8 < (y4.length : Int))) = true then
      if 0 ≤ y8 ∧ y8 < (y4.length : Int) then (if (decide (((y4.getD y8.toNat ((0 : Int), (0 : Int), (0 : Int))).1) = y5) && (decide (((y4.getD y8.toNat ((0 : Int), (0 : Int), (0 : Int))).2.1) = y6) && (decide (((y4.getD y8.toNat ((0 : Int), (0 : Int), (0 : Int))).2.2) = y7) && true))) = true then
        some y4
      else
        if 0 ≤ y8 ∧ y8 ≤ (y4.length : Int) then (if ([] : List (Int × Int × Int)).length + (y4.take y8.toNat).length ≤ 4398046511104 then (if (([] : List (Int × Int × Int)) ++ (y4.take y8.toNat)).length + ([(y5, y6, y7)] : List (Int × Int × Int)).length ≤ 4398046511104 then (if 0 ≤ y8 ∧ y8 ≤ (y4.length : Int) then (if ((([] : List (Int × Int × Int)) ++ (y4.take y8.toNat)) ++ ([(y5, y6, y7)] : List (Int × Int × Int))).length + (y4.drop y8.toNat).length ≤ 4398046511104 then (some (((([] : List (Int × Int × Int)) ++ (y4.take y8.toNat)) ++ ([(y5, y6, y7)] : List (Int × Int × Int))) ++ (y4.drop y8.toNat))) else none) else none) else none) else none) else none) else none
    else
      if 0 ≤ y8 ∧ y8 ≤ (y4.length : Int) then (if ([] : List (Int × Int × Int)).length + (y4.take y8.toNat).length ≤ 4398046511104 then (if (([] : List (Int × Int × Int)) ++ (y4.take y8.toNat)).length + ([(y5, y6, y7)] : List (Int × Int × Int)).length ≤ 4398046511104 then (if 0 ≤ y8 ∧ y8 ≤ (y4.length : Int) then (if ((([] : List (Int × Int × Int)) ++ (y4.take y8.toNat)) ++ ([(y5, y6, y7)] : List (Int × Int × Int))).length + (y4.drop y8.toNat).length ≤ 4398046511104 then (some (((([] : List (Int × Int × Int)) ++ (y4.take y8.toNat)) ++ ([(y5, y6, y7)] : List (Int × Int × Int))) ++ (y4.drop y8.toNat))) else none) else none) else none) else none) else none) n x0 r1 r2 x3 (0 : Int)

/-- (*loop.example/g01158/spec.l1Cur).someMaze -/
def spec_l1Cur_someMaze.l2 (n : Nat) (K : (List (Int)) → Int → Int → Int → (List (Int × Int × Int)) → (List (Int)) → Int → (List (Int × Int × Int)) → (List (Int)) → Option ((List (Int)) × Int × Int × Int × (List (Int × Int × Int)) × (List (Int)))) : Nat → (List (Int)) → Int → Int → Int → Int → (List (Int × Int × Int)) → (List (Int)) → Int → (List (Int × Int × Int)) → (List (Int)) → Int → Int → Option ((List (Int)) × Int × Int × Int × (List (Int × Int × Int)) × (List (Int)))
  | 0, _, _, _, _, _, _, _, _, _, _, _, _ => none
  | k + 1, x0_0, x0_1, x0_2, x1, x4_0, x4_1, x4_2, x5_0, x5_1, x5_2, x6, x11 =>
    if (decide (x11 > (0 : Int))) = true then
      if (decide (x1 > (1 : Int))) = true then
        if (decide (x1 < (13 : Int))) = true then
          (spec_l1Cur_pick.F n x0_0 x0_1 x0_2 x1).bind fun r28 =>
          (spec_l1Cur_pick.F n r28.1 r28.2.1 r28.2.2.1 x1).bind fun r29 =>
          if (!decide (r28.2.2.2 = r29.2.2.2)) = true then
            (spec_l1Cur_few.F n r29.1 r29.2.1 r29.2.2.1 x6).bind fun r30 =>
            (spec_l2Put.F n x5_1 r28.2.2.2 r29.2.2.2 r30.2.2.2).bind fun r31 =>
            spec_l1Cur_someMaze.l2 n K k r30.1 r30.2.1 r30.2.2.1 x1 x4_0 x4_1 x4_2 x5_0 r31 x5_2 x6 (IntKind.wrap .i64 (x11 - (1 : Int)))
          else
            spec_l1Cur_someMaze.l2 n K k r29.1 r29.2.1 r29.2.2.1 x1 x4_0 x4_1 x4_2 x5_0 x5_1 x5_2 x6 (IntKind.wrap .i64 (x11 - (1 : Int)))
        else
          K x0_0 x0_1 x0_2 x4_0 x4_1 x4_2 x5_0 x5_1 x5_2
      else
        K x0_0 x0_1 x0_2 x4_0 x4_1 x4_2 x5_0 x5_1 x5_2
    else
      K x0_0 x0_1 x0_2 x4_0 x4_1 x4_2 x5_0 x5_1 x5_2
def spec_l1Cur_someMaze.l0 (n : Nat) (K : (List (Int)) → Int → Int → Int → Int → (List (Int × Int × Int)) → (List (Int)) → Int → (List (Int × Int × Int)) → (List (Int)) → Int → Option ((List (Int)) × Int × Int × Int × (List (Int × Int × Int)) × (List (Int)))) : Nat → (List (Int)) → Int → Int → Int → Int → (List (Int × Int × Int)) → (List (Int)) → Int → (List (Int × Int × Int)) → (List (Int)) → Int → Int → Int → Option ((List (Int)) × Int × Int × Int × (List (Int × Int × Int)) × (List (Int)))
  | 0, _, _, _, _, _, _, _, _, _, _, _, _, _ => none
  | k + 1, x0_0, x0_1, x0_2, x1, x4_0, x4_1, x4_2, x5_0, x5_1, x5_2, x6, x7, x8 =>
    let j6 : (List (Int)) → (Int) → (Int) → (Int) → (Int) → (List (Int × Int × Int)) → (List (Int)) → (Int) → (List (Int × Int × Int)) → (List (Int)) → (Int) → (Int) → (Int) → Option ((List (Int)) × Int × Int × Int × (List (Int × Int × Int)) × (List (Int))) := fun j6_x0_0 j6_x0_1 j6_x0_2 j6_x1 j6_x4_0 j6_x4_1 j6_x4_2 j6_x5_0 j6_x5_1 j6_x5_2 j6_x6 j6_x7 j6_x8 =>
      (spec_l1Cur_one.F n j6_x0_0 j6_x0_1 j6_x0_2 (2 : Int)).bind fun r2 =>
      if r2.2.2.2 = true then
        (spec_l1Cur_pick.F n r2.1 r2.2.1 r2.2.2.1 j6_x6).bind fun r3 =>
        if r3.2.2.2 < 0 then none else (if j6_x5_2.length + ([shL .i64 1 r3.2.2.2] : List (Int)).length ≤ 4398046511104 then (if (decide (j6_x8 > (0 : Int))) = true then
          (spec_l1Cur_few.F n r3.1 r3.2.1 r3.2.2.1 j6_x6).bind fun r4 =>
          (spec_l1Cur_one.F n r4.1 r4.2.1 r4.2.2.1 (3 : Int)).bind fun r5 =>
          if (!r5.2.2.2) = true then
            (spec_l1Cur_pick.F n r5.1 r5.2.1 r5.2.2.1 j6_x8).bind fun r6 =>
            (spec_l2Put.F n j6_x5_1 r6.2.2.2 j6_x8 (bitAnd .i64 r4.2.2.2 j6_x7)).bind fun r7 =>
            spec_l1Cur_someMaze.l0 n K k r6.1 r6.2.1 r6.2.2.1 j6_x1 j6_x4_0 j6_x4_1 j6_x4_2 j6_x5_0 r7 (j6_x5_2 ++ ([shL .i64 1 r3.2.2.2] : List (Int))) j6_x6 (bitOr .i64 j6_x7 (shL .i64 1 r3.2.2.2)) (IntKind.wrap .i64 (j6_x8 + (1 : Int)))
          else
            (spec_l1Cur_pick.F n r5.1 r5.2.1 r5.2.2.1 j6_x8).bind fun r8 =>
            (spec_l2Put.F n j6_x5_1 r8.2.2.2 j6_x8 r4.2.2.2).bind fun r9 =>
            spec_l1Cur_someMaze.l0 n K k r8.1 r8.2.1 r8.2.2.1 j6_x1 j6_x4_0 j6_x4_1 j6_x4_2 j6_x5_0 r9 (j6_x5_2 ++ ([shL .i64 1 r3.2.2.2] : List (Int))) j6_x6 (bitOr .i64 j6_x7 (shL .i64 1 r3.2.2.2)) (IntKind.wrap .i64 (j6_x8 + (1 : Int)))
        else
          spec_l1Cur_someMaze.l0 n K k r3.1 r3.2.1 r3.2.2.1 j6_x1 j6_x4_0 j6_x4_1 j6_x4_2 j6_x5_0 j6_x5_1 (j6_x5_2 ++ ([shL .i64 1 r3.2.2.2] : List (Int))) j6_x6 (bitOr .i64 j6_x7 (shL .i64 1 r3.2.2.2)) (IntKind.wrap .i64 (j6_x8 + (1 : Int)))) else none)
      else
        if j6_x5_2.length + ([(0 : Int)] : List (Int)).length ≤ 4398046511104 then (if (decide (j6_x8 > (0 : Int))) = true then
          (spec_l1Cur_few.F n r2.1 r2.2.1 r2.2.2.1 j6_x6).bind fun r10 =>
          (spec_l1Cur_one.F n r10.1 r10.2.1 r10.2.2.1 (3 : Int)).bind fun r11 =>
          if (!r11.2.2.2) = true then
            (spec_l1Cur_pick.F n r11.1 r11.2.1 r11.2.2.1 j6_x8).bind fun r12 =>
            (spec_l2Put.F n j6_x5_1 r12.2.2.2 j6_x8 (bitAnd .i64 r10.2.2.2 j6_x7)).bind fun r13 =>
            spec_l1Cur_someMaze.l0 n K k r12.1 r12.2.1 r12.2.2.1 j6_x1 j6_x4_0 j6_x4_1 j6_x4_2 j6_x5_0 r13 (j6_x5_2 ++ ([(0 : Int)] : List (Int))) j6_x6 (bitOr .i64 j6_x7 0) (IntKind.wrap .i64 (j6_x8 + (1 : Int)))
          else
            (spec_l1Cur_pick.F n r11.1 r11.2.1 r11.2.2.1 j6_x8).bind fun r14 =>
            (spec_l2Put.F n j6_x5_1 r14.2.2.2 j6_x8 r10.2.2.2).bind fun r15 =>
            spec_l1Cur_someMaze.l0 n K k r14.1 r14.2.1 r14.2.2.1 j6_x1 j6_x4_0 j6_x4_1 j6_x4_2 j6_x5_0 r15 (j6_x5_2 ++ ([(0 : Int)] : List (Int))) j6_x6 (bitOr .i64 j6_x7 0) (IntKind.wrap .i64 (j6_x8 + (1 : Int)))
        else
          spec_l1Cur_someMaze.l0 n K k r2.1 r2.2.1 r2.2.2.1 j6_x1 j6_x4_0 j6_x4_1 j6_x4_2 j6_x5_0 j6_x5_1 (j6_x5_2 ++ ([(0 : Int)] : List (Int))) j6_x6 (bitOr .i64 j6_x7 0) (IntKind.wrap .i64 (j6_x8 + (1 : Int)))) else none
    if (decide (x8 < x1)) = true then
      if (decide (x8 < (13 : Int))) = true then
        j6 x0_0 x0_1 x0_2 x1 x4_0 x4_1 x4_2 x5_0 x5_1 x5_2 x6 x7 x8
      else
        K x0_0 x0_1 x0_2 x1 x4_0 x4_1 x4_2 x5_0 x5_1 x5_2 x6
    else
      K x0_0 x0_1 x0_2 x1 x4_0 x4_1 x4_2 x5_0 x5_1 x5_2 x6
def spec_l1Cur_someMaze.c22 (n : Nat) (x0_0 : List (Int)) (x0_1 : Int) (x0_2 : Int) (x4_0 : Int) (x4_1 : List (Int × Int × Int)) (x4_2 : List (Int)) (x5_0 : Int) (x5_1 : List (Int × Int × Int)) (x5_2 : List (Int)) : Option ((List (Int)) × Int × Int × Int × (List (Int × Int × Int)) × (List (Int))) :=
  (spec_l1Cur_pick.F n x0_0 x0_1 x0_2 (60 : Int)).bind fun r41 =>
  if (decide (r41.2.2.2 = (0 : Int))) = true then
    (spec_l1Cur_among.F n r41.1 r41.2.1 r41.2.2.1 ([(0 : Int), (13 : Int), IntKind.wrap .i64 (x5_0 + (1 : Int))] : List (Int))).bind fun r42 =>
    some (r42.1, r42.2.1, r42.2.2.1, r42.2.2.2, x5_1, x5_2)
  else
    if (decide (r41.2.2.2 = (1 : Int))) = true then
      if (decide ((x5_1.length : Int) > (0 : Int))) = true then
        (spec_l1Cur_pick.F n r41.1 r41.2.1 r41.2.2.1 (x5_1.length : Int)).bind fun r43 =>
        if 0 ≤ r43.2.2.2 ∧ r43.2.2.2 < (x5_1.length : Int) then (if 0 ≤ r43.2.2.2 ∧ r43.2.2.2 < (x5_1.length : Int) then (if 0 ≤ r43.2.2.2 ∧ r43.2.2.2 < (x5_1.length : Int) then (some (r43.1, r43.2.1, r43.2.2.1, x5_0, x5_1.set r43.2.2.2.toNat ((x5_1.getD r43.2.2.2.toNat ((0 : Int), (0 : Int), (0 : Int))).2.1, (x5_1.getD r43.2.2.2.toNat ((0 : Int), (0 : Int), (0 : Int))).1, (0 : Int)), x5_2)) else none) else none) else none
      else
        some (r41.1, r41.2.1, r41.2.2.1, x5_0, x5_1, x5_2)
    else
      if (decide (r41.2.2.2 = (2 : Int))) = true then
        if (decide ((x5_2.length : Int) > (0 : Int))) = true then
          (spec_l1Cur_pick.F n r41.1 r41.2.1 r41.2.2.1 (x5_2.length : Int)).bind fun r44 =>
          (spec_l1Cur_among.F n r44.1 r44.2.1 r44.2.2.1 ([(64 : Int), (-1 : Int), (63 : Int)] : List (Int))).bind fun r45 =>
          if 0 ≤ r44.2.2.2 ∧ r44.2.2.2 < (x5_2.length : Int) then (some (r45.1, r45.2.1, r45.2.2.1, x5_0, x5_1, x5_2.set r44.2.2.2.toNat r45.2.2.2)) else none
        else
          some (r41.1, r41.2.1, r41.2.2.1, x5_0, x5_1, x5_2)
      else
        if (decide (r41.2.2.2 = (3 : Int))) = true then
          if (decide ((x5_1.length : Int) > (0 : Int))) = true then
            if 0 ≤ (0 : Int) ∧ (0 : Int) < (x5_1.length : Int) then (if x5_1.length + ([(x5_1.getD 0 ((0 : Int), (0 : Int), (0 : Int)))] : List (Int × Int × Int)).length ≤ 4398046511104 then (some (r41.1, r41.2.1, r41.2.2.1, x5_0, x5_1 ++ ([(x5_1.getD 0 ((0 : Int), (0 : Int), (0 : Int)))] : List (Int × Int × Int)), x5_2)) else none) else none
          else
            some (r41.1, r41.2.1, r41.2.2.1, x5_0, x5_1, x5_2)
        else
          if (decide (r41.2.2.2 = (4 : Int))) = true then
            some (r41.1, r41.2.1, r41.2.2.1, (0 : Int), ([] : List (Int × Int × Int)), ([] : List (Int)))
          else
            some (r41.1, r41.2.1, r41.2.2.1, x5_0, x5_1, x5_2)
def spec_l1Cur_someMaze.c16 (n : Nat) (x0_0 : List (Int)) (x0_1 : Int) (x0_2 : Int) (x1 : Int) (x4_0 : Int) (x4_1 : List (Int × Int × Int)) (x4_2 : List (Int)) (x5_0 : Int) (x5_1 : List (Int × Int × Int)) (x5_2 : List (Int)) (x6 : Int) : Option ((List (Int)) × Int × Int × Int × (List (Int × Int × Int)) × (List (Int))) :=
  (spec_l1Cur_pick.F n x0_0 x0_1 x0_2 (6 : Int)).bind fun r27 =>
  spec_l1Cur_someMaze.l2 n (fun y32 y33 y34 y35 y36 y37 y38 y39 y40 =>
    spec_l1Cur_someMaze.c22 n y32 y33 y34 y35 y36 y37 y38 y39 y40) n r27.1 r27.2.1 r27.2.2.1 x1 x4_0 x4_1 x4_2 x5_0 x5_1 x5_2 x6 r27.2.2.2
def spec_l1Cur_someMaze.F (n : Nat) (x0_0 : List (Int)) (x0_1 : Int) (x0_2 : Int) (x1 : Int) : Option ((List (Int)) × Int × Int × Int × (List (Int × Int × Int)) × (List (Int))) :=
  (spec_l1Cur_pick.F n x0_0 x0_1 x0_2 (6 : Int)).bind fun r1 =>
  spec_l1Cur_someMaze.l0 n (fun y16 y17 y18 y19 y20 y21 y22 y23 y24 y25 y26 =>
    spec_l1Cur_someMaze.c16 n y16 y17 y18 y19 y20 y21 y22 y23 y24 y25 y26) n r1.1 r1.2.1 r1.2.2.1 x1 (0 : Int) ([] : List (Int × Int × Int)) ([] : List (Int)) x1 ([] : List (Int × Int × Int)) ([] : List (Int)) (IntKind.wrap .i64 ((1 : Int) + r1.2.2.2)) (0 : Int) (0 : Int)

/-- (*loop.example/g01158/spec.l1Cur).maze -/
def spec_l1Cur_maze.F (n : Nat) (x0_0 : List (Int)) (x0_1 : Int) (x0_2 : Int) : Option ((List (Int)) × Int × Int × Int × (List (Int × Int × Int)) × (List (Int))) :=
  (spec_l1Cur_among.F n x0_0 x0_1 x0_2 ([(5 : Int), (6 : Int), (4 : Int), (7 : Int), (3 : Int), (8 : Int), (2 : Int), (10 : Int), (1 : Int), (12 : Int)] : List (Int))).bind fun r1 =>
  (spec_l1Cur_someMaze.F n r1.1 r1.2.1 r1.2.2.1 r1.2.2.2).bind fun r2 =>
  some (r2.1, r2.2.1, r2.2.2.1, r2.2.2.2.1, r2.2.2.2.2.1, r2.2.2.2.2.2)

/-- (*loop.example/g01158/spec.l1Cur).nodeOf -/
def spec_l1Cur_nodeOf.F (n : Nat) (x0_0 : List (Int)) (x0_1 : Int) (x0_2 : Int) (x1_0 : Int) (x1_1 : List (Int × Int × Int)) (x1_2 : List (Int)) : Option ((List (Int)) × Int × Int × Int) :=
  (spec_l1Cur_one.F n x0_0 x0_1 x0_2 (30 : Int)).bind fun r1 =>
  if r1.2.2.2 = true then
    (spec_l1Cur_among.F n r1.1 r1.2.1 r1.2.2.1 ([(-1 : Int), (0 : Int), x1_0, (4611686018427387904 : Int)] : List (Int))).bind fun r2 =>
    some (r2.1, r2.2.1, r2.2.2.1, r2.2.2.2)
  else
    (spec_l1Least.F n x1_0 (12 : Int)).bind fun r3 =>
    (spec_l1Most.F n r3 (1 : Int)).bind fun r4 =>
    (spec_l1Cur_pick.F n r1.1 r1.2.1 r1.2.2.1 r4).bind fun r5 =>
    some (r5.1, r5.2.1, r5.2.2.1, r5.2.2.2)

/-- loop.example/g01158/spec.DrawWithoutNode -/
def spec_DrawWithoutNode.F (n : Nat) (x0 : List (Int)) : Option (Int × (List (Int × Int × Int)) × (List (Int)) × Int) :=
  (spec_l1Cur_maze.F n x0 (0 : Int) (0 : Int)).bind fun r1 =>
  (spec_l1Cur_nodeOf.F n r1.1 r1.2.1 r1.2.2.1 r1.2.2.2.1 r1.2.2.2.2.1 r1.2.2.2.2.2).bind fun r2 =>
  some (r1.2.2.2.1, r1.2.2.2.2.1, r1.2.2.2.2.2, r2.2.2.2)

/-- loop.example/g01158/impl.within -/
def impl_within.F (n : Nat) (x0 : Int) (x1 : Int) (x2 : Int) : Option (Bool) :=
  if (decide (x1 ≤ x0)) = true then
    some (decide (x0 ≤ x2))
  else
    some false

/-- loop.example/g01158/impl.isSet -/
def impl_isSet.F (n : Nat) (x0 : Int) : Option (Bool) :=
  (impl_within.F n x0 (0 : Int) (63 : Int)).bind fun r1 =>
  some r1

/-- cmp.isNaN[int] -/
def cmp_isNaN_int.F (n : Nat) (x0 : Int) : Option (Bool) :=
  some (!decide (x0 = x0))

/-- cmp.Compare[int] -/
def cmp_Compare_int.F (n : Nat) (x0 : Int) (x1 : Int) : Option (Int) :=
  (cmp_isNaN_int.F n x0).bind fun r1 =>
  (cmp_isNaN_int.F n x1).bind fun r2 =>
  if r1 = true then
    if r2 = true then
      some (0 : Int)
    else
      some (-1 : Int)
  else
    if r2 = true then
      some (1 : Int)
    else
      if (decide (x0 < x1)) = true then
        some (-1 : Int)
      else
        if (decide (x0 > x1)) = true then
          some (1 : Int)
        else
          some (0 : Int)

/-- cmp.Or[int] -/
def cmp_Or_int.l0 (n : Nat) (K : Int → Option (Int)) : Nat → Int → (List (Int)) → Int → Int → Option (Int)
  | 0, _, _, _, _ => none
  | k + 1, x3, x6, x7, x8 =>
    if (decide (x8 < x7)) = true then
      if 0 ≤ x8 ∧ x8 < (x6.length : Int) then (if (!decide ((x6.getD x8.toNat (0 : Int)) = x3)) = true then
        some (x6.getD x8.toNat (0 : Int))
      else
        cmp_Or_int.l0 n K k x3 x6 x7 (IntKind.wrap .i64 (x8 + (1 : Int)))) else none
    else
      K x3
def cmp_Or_int.F (n : Nat) (x0 : List (Int)) : Option (Int) :=
  cmp_Or_int.l0 n (fun y1 =>
    some y1) n (0 : Int) x0 (x0.length : Int) (0 : Int)

/-- loop.example/g01158/impl.compareDoors -/
def impl_compareDoors.F (n : Nat) (x0_0 : Int) (x0_1 : Int) (x0_2 : Int) (x1_0 : Int) (x1_1 : Int) (x1_2 : Int) : Option (Int) :=
  (cmp_Compare_int.F n x0_0 x1_0).bind fun r1 =>
  (cmp_Compare_int.F n x0_1 x1_1).bind fun r2 =>
  (cmp_Compare_int.F n x0_2 x1_2).bind fun r3 =>
  (cmp_Or_int.F n ([r1, r2, r3] : List (Int))).bind fun r4 =>
  some r4

/-- loop.example/g01158/impl.IsMaze$1 -/
def impl_IsMaze_1.F (n : Nat) (x0 : Int) : Option (Bool) :=
  (impl_isSet.F n x0).bind fun r1 =>
  some (!r1)

/-- slices.IndexFunc[[]int,int] -/
def slices_IndexFunc_int_int_cIsMaze_1.l0 (n : Nat) (K : Unit → Option (Int)) : Nat → (List (Int)) → Int → Int → Option (Int)
  | 0, _, _, _ => none
  | k + 1, x0, x7, x8 =>
    if (decide (x8 < x7)) = true then
      if 0 ≤ x8 ∧ x8 < (x0.length : Int) then ((impl_IsMaze_1.F n (x0.getD x8.toNat (0 : Int))).bind fun r1 =>
      if r1 = true then
        some x8
      else
        slices_IndexFunc_int_int_cIsMaze_1.l0 n K k x0 x7 (IntKind.wrap .i64 (x8 + (1 : Int)))) else none
    else
      K ()
def slices_IndexFunc_int_int_cIsMaze_1.F (n : Nat) (x0 : List (Int)) : Option (Int) :=
  slices_IndexFunc_int_int_cIsMaze_1.l0 n (fun _ =>
    some (-1 : Int)) n x0 (x0.length : Int) (0 : Int)

/-- slices.ContainsFunc[[]int,int] -/
def slices_ContainsFunc_int_int_cIsMaze_1.F (n : Nat) (x0 : List (Int)) : Option (Bool) :=
  (slices_IndexFunc_int_int_cIsMaze_1.F n x0).bind fun r1 =>
  some (decide (r1 ≥ (0 : Int)))

/-- loop.example/g01158/impl.IsMaze -/
def impl_IsMaze.l0 (n : Nat) (K : Int → (List (Int × Int × Int)) → (List (Int)) → Option (Bool)) : Nat → Int → (List (Int × Int × Int)) → (List (Int)) → Int → Int → Option (Bool)
  | 0, _, _, _, _, _ => none
  | k + 1, x1_0, x1_1, x1_2, x25, x26 =>
    if (decide (x26 < x25)) = true then
      if 0 ≤ x26 ∧ x26 < (x1_1.length : Int) then (if (decide (((x1_1.getD x26.toNat ((0 : Int), (0 : Int), (0 : Int))).1) < (0 : Int))) = true then
        some false
      else
        if (decide (((x1_1.getD x26.toNat ((0 : Int), (0 : Int), (0 : Int))).1) ≥ ((x1_1.getD x26.toNat ((0 : Int), (0 : Int), (0 : Int))).2.1))) = true then
          some false
        else
          if (decide (((x1_1.getD x26.toNat ((0 : Int), (0 : Int), (0 : Int))).2.1) ≥ x1_0)) = true then
            some false
          else
            (impl_isSet.F n ((x1_1.getD x26.toNat ((0 : Int), (0 : Int), (0 : Int))).2.2)).bind fun r2 =>
            if (!r2) = true then
              some false
            else
              if (decide (x26 > (0 : Int))) = true then
                if 0 ≤ (IntKind.wrap .i64 (x26 - (1 : Int))) ∧ (IntKind.wrap .i64 (x26 - (1 : Int))) < (x1_1.length : Int) then ((impl_compareDoors.F n ((x1_1.getD ((IntKind.wrap .i64 (x26 - (1 : Int))).toNat) ((0 : Int), (0 : Int), (0 : Int))).1) ((x1_1.getD ((IntKind.wrap .i64 (x26 - (1 : Int))).toNat) ((0 : Int), (0 : Int), (0 : Int))).2.1) ((x1_1.getD ((IntKind.wrap .i64 (x26 - (1 : Int))).toNat) ((0 : Int), (0 : Int), (0 : Int))).2.2) ((x1_1.getD x26.toNat ((0 : Int), (0 : Int), (0 : Int))).1) ((x1_1.getD x26.toNat ((0 : Int), (0 : Int), (0 : Int))).2.1) ((x1_1.getD x26.toNat ((0 : Int), (0 : Int), (0 : Int))).2.2)).bind fun r3 =>
                if (decide (r3 ≥ (0 : Int))) = true then
                  some false
                else
                  impl_IsMaze.l0 n K k x1_0 x1_1 x1_2 x25 (IntKind.wrap .i64 (x26 + (1 : Int)))) else none
              else
                impl_IsMaze.l0 n K k x1_0 x1_1 x1_2 x25 (IntKind.wrap .i64 (x26 + (1 : Int)))) else none
    else
      K x1_0 x1_1 x1_2
def impl_IsMaze.F (n : Nat) (x0_0 : Int) (x0_1 : List (Int × Int × Int)) (x0_2 : List (Int)) : Option (Bool) :=
  let j3 : (Int) → (List (Int × Int × Int)) → (List (Int)) → Option (Bool) := fun j3_x1_0 j3_x1_1 j3_x1_2 =>
    impl_IsMaze.l0 n (fun y4 y5 y6 =>
      (slices_ContainsFunc_int_int_cIsMaze_1.F n y6).bind fun r7 =>
      some (!r7)) n j3_x1_0 j3_x1_1 j3_x1_2 (j3_x1_1.length : Int) (0 : Int)
  (impl_within.F n x0_0 (1 : Int) (12 : Int)).bind fun r1 =>
  if (!r1) = true then
    some false
  else
    if (decide ((x0_1.length : Int) > (30 : Int))) = true then
      some false
    else
      if (!decide ((x0_2.length : Int) = x0_0)) = true then
        some false
      else
        j3 x0_0 x0_1 x0_2

/-- loop.example/g01158/impl.isNode$1 -/
def impl_isNode_1_c0.F (n : Nat) (x0 : Int) (x1_0 : Int) (x1_1 : List (Int × Int × Int)) (x1_2 : List (Int)) : Option (Bool) :=
  (impl_within.F n x0 (0 : Int) (IntKind.wrap .i64 (x1_0 - (1 : Int)))).bind fun r1 =>
  some (!r1)

/-- slices.IndexFunc[[]int,int] -/
def slices_IndexFunc_int_int_cisNode_1.l0 (n : Nat) (K : Unit → Option (Int)) : Nat → (List (Int)) → Int → (List (Int × Int × Int)) → (List (Int)) → Int → Int → Option (Int)
  | 0, _, _, _, _, _, _ => none
  | k + 1, x0, x1_0, x1_1, x1_2, x7, x8 =>
    if (decide (x8 < x7)) = true then
      if 0 ≤ x8 ∧ x8 < (x0.length : Int) then ((impl_isNode_1_c0.F n (x0.getD x8.toNat (0 : Int)) x1_0 x1_1 x1_2).bind fun r1 =>
      if r1 = true then
        some x8
      else
        slices_IndexFunc_int_int_cisNode_1.l0 n K k x0 x1_0 x1_1 x1_2 x7 (IntKind.wrap .i64 (x8 + (1 : Int)))) else none
    else
      K ()
def slices_IndexFunc_int_int_cisNode_1.F (n : Nat) (x0 : List (Int)) (x1_0 : Int) (x1_1 : List (Int × Int × Int)) (x1_2 : List (Int)) : Option (Int) :=
  slices_IndexFunc_int_int_cisNode_1.l0 n (fun _ =>
    some (-1 : Int)) n x0 x1_0 x1_1 x1_2 (x0.length : Int) (0 : Int)

/-- slices.ContainsFunc[[]int,int] -/
def slices_ContainsFunc_int_int_cisNode_1.F (n : Nat) (x0 : List (Int)) (x1_0 : Int) (x1_1 : List (Int × Int × Int)) (x1_2 : List (Int)) : Option (Bool) :=
  (slices_IndexFunc_int_int_cisNode_1.F n x0 x1_0 x1_1 x1_2).bind fun r1 =>
  some (decide (r1 ≥ (0 : Int)))

/-- loop.example/g01158/impl.isNode -/
def impl_isNode.F (n : Nat) (x0_0 : Int) (x0_1 : List (Int × Int × Int)) (x0_2 : List (Int)) (x1 : List (Int)) : Option (Bool) :=
  (impl_IsMaze.F n x0_0 x0_1 x0_2).bind fun r1 =>
  if r1 = true then
    (slices_ContainsFunc_int_int_cisNode_1.F n x1 x0_0 x0_1 x0_2).bind fun r2 =>
    some (!r2)
  else
    some false

/-- slices.Clone[[][3]int,[3]int] -/
def slices_Clone_3_int_3_int.F (n : Nat) (x0 : List (Int × Int × Int)) : Option ((List (Int × Int × Int))) :=
  if ([] : List (Int × Int × Int)).length + x0.length ≤ 4398046511104 then (some (([] : List (Int × Int × Int)) ++ x0)) else none

/-- slices.Clone[[]int,int] -/
def slices_Clone_int_int.F (n : Nat) (x0 : List (Int)) : Option ((List (Int))) :=
  if ([] : List (Int)).length + x0.length ≤ 4398046511104 then (some (([] : List (Int)) ++ x0)) else none

/-- loop.example/g01158/impl.own -/
def impl_own.F (n : Nat) (x0_0 : Int) (x0_1 : List (Int × Int × Int)) (x0_2 : List (Int)) : Option (Int × (List (Int × Int × Int)) × (List (Int))) :=
  (slices_Clone_3_int_3_int.F n x0_1).bind fun r1 =>
  (slices_Clone_int_int.F n x0_2).bind fun r2 =>
  some (x0_0, r1, r2)

/-- loop.example/g01158/impl.withoutNode$1 -/
def impl_withoutNode_1_c0.F (n : Nat) (x0_0 : Int) (x0_1 : Int) (x0_2 : Int) (x1 : Int) : Option (Bool) :=
  if (decide (x0_0 = x1)) = true then
    some true
  else
    some (decide (x0_1 = x1))

/-- slices.IndexFunc[[][3]int,[3]int] -/
def slices_IndexFunc_3_int_3_int_cwithoutNode_1.l0 (n : Nat) (K : Unit → Option (Int)) : Nat → (List (Int × Int × Int)) → Int → Int → Int → Option (Int)
  | 0, _, _, _, _ => none
  | k + 1, x0, x1, x7, x8 =>
    if (decide (x8 < x7)) = true then
      if 0 ≤ x8 ∧ x8 < (x0.length : Int) then ((impl_withoutNode_1_c0.F n ((x0.getD x8.toNat ((0 : Int), (0 : Int), (0 : Int))).1) ((x0.getD x8.toNat ((0 : Int), (0 : Int), (0 : Int))).2.1) ((x0.getD x8.toNat ((0 : Int), (0 : Int), (0 : Int))).2.2) x1).bind fun r1 =>
      if r1 = true then
        some x8
      else
        slices_IndexFunc_3_int_3_int_cwithoutNode_1.l0 n K k x0 x1 x7 (IntKind.wrap .i64 (x8 + (1 : Int)))) else none
    else
      K ()
def slices_IndexFunc_3_int_3_int_cwithoutNode_1.F (n : Nat) (x0 : List (Int × Int × Int)) (x1 : Int) : Option (Int) :=
  slices_IndexFunc_3_int_3_int_cwithoutNode_1.l0 n (fun _ =>
    some (-1 : Int)) n x0 x1 (x0.length : Int) (0 : Int)

/-- slices.DeleteFunc[[][3]int,[3]int] -/
def slices_DeleteFunc_3_int_3_int_cwithoutNode_1.l0 (n : Nat) (K : (List (Int × Int × Int)) → Int → Option ((List (Int × Int × Int)))) : Nat → (List (Int × Int × Int)) → Int → Int → Int → Option ((List (Int × Int × Int)))
  | 0, _, _, _, _ => none
  | k + 1, x0, x1, x5, x6 =>
    if (decide (x6 < (x0.length : Int))) = true then
      if 0 ≤ x6 ∧ x6 < (x0.length : Int) then ((impl_withoutNode_1_c0.F n ((x0.getD x6.toNat ((0 : Int), (0 : Int), (0 : Int))).1) ((x0.getD x6.toNat ((0 : Int), (0 : Int), (0 : Int))).2.1) ((x0.getD x6.toNat ((0 : Int), (0 : Int), (0 : Int))).2.2) x1).bind fun r2 =>
      if (!r2) = true then
        if 0 ≤ x5 ∧ x5 < (x0.length : Int) then (slices_DeleteFunc_3_int_3_int_cwithoutNode_1.l0 n K k (x0.set x5.toNat (x0.getD x6.toNat ((0 : Int), (0 : Int), (0 : Int)))) x1 (IntKind.wrap .i64 (x5 + (1 : Int))) (IntKind.wrap .i64 (x6 + (1 : Int)))) else none
      else
        slices_DeleteFunc_3_int_3_int_cwithoutNode_1.l0 n K k x0 x1 x5 (IntKind.wrap .i64 (x6 + (1 : Int)))) else none
    else
      K x0 x5
def slices_DeleteFunc_3_int_3_int_cwithoutNode_1.F (n : Nat) (x0 : List (Int × Int × Int)) (x1 : Int) : Option ((List (Int × Int × Int))) :=
  (slices_IndexFunc_3_int_3_int_cwithoutNode_1.F n x0 x1).bind fun r1 =>
  if (decide (r1 = (-1 : Int))) = true then
    some x0
  else
    slices_DeleteFunc_3_int_3_int_cwithoutNode_1.l0 n (fun y3 y4 =>
      if 0 ≤ y4 ∧ y4 ≤ (y3.length : Int) then (if 0 ≤ y4 ∧ y4 ≤ ((y3.take y4.toNat ++ List.replicate (y3.length - y4.toNat) ((0 : Int), (0 : Int), (0 : Int))).length : Int) then (some ((y3.take y4.toNat ++ List.replicate (y3.length - y4.toNat) ((0 : Int), (0 : Int), (0 : Int))).take y4.toNat)) else none) else none) n x0 x1 r1 (IntKind.wrap .i64 (r1 + (1 : Int)))

/-- loop.example/g01158/impl.withoutNode -/
def impl_withoutNode.F (n : Nat) (x0_0 : Int) (x0_1 : List (Int × Int × Int)) (x0_2 : List (Int)) (x1 : Int) : Option (Int × (List (Int × Int × Int)) × (List (Int))) :=
  (impl_own.F n x0_0 x0_1 x0_2).bind fun r1 =>
  (slices_DeleteFunc_3_int_3_int_cwithoutNode_1.F n r1.2.1 x1).bind fun r2 =>
  some (r1.1, r2, r1.2.2)

/-- loop.example/g01158/impl.WithoutNode -/
def impl_WithoutNode.F (n : Nat) (x0_0 : Int) (x0_1 : List (Int × Int × Int)) (x0_2 : List (Int)) (x1 : Int) : Option (Int × (List (Int × Int × Int)) × (List (Int)) × Bool) :=
  (impl_isNode.F n x0_0 x0_1 x0_2 ([x1] : List (Int))).bind fun r1 =>
  if (!r1) = true then
    some ((0 : Int), ([] : List (Int × Int × Int)), ([] : List (Int)), false)
  else
    (impl_withoutNode.F n x0_0 x0_1 x0_2 x1).bind fun r2 =>
    some (r2.1, r2.2.1, r2.2.2, true)

/-- loop.example/g01158/spec.l1In -/
def spec_l1In.F (n : Nat) (x0 : Int) (x1 : Int) (x2 : Int) : Option (Bool) :=
  if (decide (x0 ≥ x1)) = true then
    some (decide (x0 ≤ x2))
  else
    some false

/-- loop.example/g01158/spec.l2Set -/
def spec_l2Set.F (n : Nat) (x0 : Int) : Option (Bool) :=
  (spec_l1In.F n x0 (0 : Int) (63 : Int)).bind fun r1 =>
  some r1

/-- loop.example/g01158/spec.l2Maze -/
def spec_l2Maze.l0 (n : Nat) (K : Int → (List (Int × Int × Int)) → (List (Int)) → Option (Bool)) : Nat → Int → (List (Int × Int × Int)) → (List (Int)) → Int → Option (Bool)
  | 0, _, _, _, _ => none
  | k + 1, x1_0, x1_1, x1_2, x3 =>
    if (decide (x3 < (x1_1.length : Int))) = true then
      if 0 ≤ x3 ∧ x3 < (x1_1.length : Int) then ((spec_l1In.F n ((x1_1.getD x3.toNat ((0 : Int), (0 : Int), (0 : Int))).1) (0 : Int) (IntKind.wrap .i64 (x1_0 - (1 : Int)))).bind fun r2 =>
      if (!r2) = true then
        some false
      else
        (spec_l1In.F n ((x1_1.getD x3.toNat ((0 : Int), (0 : Int), (0 : Int))).2.1) (IntKind.wrap .i64 (((x1_1.getD x3.toNat ((0 : Int), (0 : Int), (0 : Int))).1) + (1 : Int))) (IntKind.wrap .i64 (x1_0 - (1 : Int)))).bind fun r3 =>
        if (!r3) = true then
          some false
        else
          (spec_l2Set.F n ((x1_1.getD x3.toNat ((0 : Int), (0 : Int), (0 : Int))).2.2)).bind fun r4 =>
          if (!r4) = true then
            some false
          else
            if (decide (x3 > (0 : Int))) = true then
              if 0 ≤ (IntKind.wrap .i64 (x3 - (1 : Int))) ∧ (IntKind.wrap .i64 (x3 - (1 : Int))) < (x1_1.length : Int) then ((spec_l2Before.F n ((x1_1.getD ((IntKind.wrap .i64 (x3 - (1 : Int))).toNat) ((0 : Int), (0 : Int), (0 : Int))).1) ((x1_1.getD ((IntKind.wrap .i64 (x3 - (1 : Int))).toNat) ((0 : Int), (0 : Int), (0 : Int))).2.1) ((x1_1.getD ((IntKind.wrap .i64 (x3 - (1 : Int))).toNat) ((0 : Int), (0 : Int), (0 : Int))).2.2) ((x1_1.getD x3.toNat ((0 : Int), (0 : Int), (0 : Int))).1) ((x1_1.getD x3.toNat ((0 : Int), (0 : Int), (0 : Int))).2.1) ((x1_1.getD x3.toNat ((0 : Int), (0 : Int), (0 : Int))).2.2)).bind fun r5 =>
              if (!r5) = true then
                some false
              else
                spec_l2Maze.l0 n K k x1_0 x1_1 x1_2 (IntKind.wrap .i64 (x3 + (1 : Int)))) else none
            else
              spec_l2Maze.l0 n K k x1_0 x1_1 x1_2 (IntKind.wrap .i64 (x3 + (1 : Int)))) else none
    else
      K x1_0 x1_1 x1_2
def spec_l2Maze.l2 (n : Nat) (K : Unit → Option (Bool)) : Nat → Int → (List (Int × Int × Int)) → (List (Int)) → Int → Option (Bool)
  | 0, _, _, _, _ => none
  | k + 1, x1_0, x1_1, x1_2, x5 =>
    if (decide (x5 < x1_0)) = true then
      if 0 ≤ x5 ∧ x5 < (x1_2.length : Int) then ((spec_l2Set.F n (x1_2.getD x5.toNat (0 : Int))).bind fun r9 =>
      if (!r9) = true then
        some false
      else
        spec_l2Maze.l2 n K k x1_0 x1_1 x1_2 (IntKind.wrap .i64 (x5 + (1 : Int)))) else none
    else
      K ()
def spec_l2Maze.F (n : Nat) (x0_0 : Int) (x0_1 : List (Int × Int × Int)) (x0_2 : List (Int)) : Option (Bool) :=
  let j3 : (Int) → (List (Int × Int × Int)) → (List (Int)) → Option (Bool) := fun j3_x1_0 j3_x1_1 j3_x1_2 =>
    spec_l2Maze.l0 n (fun y6 y7 y8 =>
      spec_l2Maze.l2 n (fun _ =>
        some true) n y6 y7 y8 (0 : Int)) n j3_x1_0 j3_x1_1 j3_x1_2 (0 : Int)
  (spec_l1In.F n x0_0 (1 : Int) (12 : Int)).bind fun r1 =>
  if (!r1) = true then
    some false
  else
    if (decide ((x0_1.length : Int) > (30 : Int))) = true then
      some false
    else
      if (!decide ((x0_2.length : Int) = x0_0)) = true then
        some false
      else
        j3 x0_0 x0_1 x0_2

/-- loop.example/g01158/spec.l2Node -/
def spec_l2Node.F (n : Nat) (x0_0 : Int) (x0_1 : List (Int × Int × Int)) (x0_2 : List (Int)) (x1 : Int) : Option (Bool) :=
  (spec_l2Maze.F n x0_0 x0_1 x0_2).bind fun r1 =>
  if r1 = true then
    (spec_l1In.F n x1 (0 : Int) (IntKind.wrap .i64 (x0_0 - (1 : Int)))).bind fun r2 =>
    some r2
  else
    some false

/-- loop.example/g01158/spec.l1Own -/
def spec_l1Own.F (n : Nat) (x0 : List (Int)) : Option ((List (Int))) :=
  if ([] : List (Int)).length + x0.length ≤ 4398046511104 then (some (([] : List (Int)) ++ x0)) else none

/-- loop.example/g01158/spec.l2Own -/
def spec_l2Own.F (n : Nat) (x0_0 : Int) (x0_1 : List (Int × Int × Int)) (x0_2 : List (Int)) : Option (Int × (List (Int × Int × Int)) × (List (Int))) :=
  if ([] : List (Int × Int × Int)).length + x0_1.length ≤ 4398046511104 then ((spec_l1Own.F n x0_2).bind fun r1 =>
  some (x0_0, ([] : List (Int × Int × Int)) ++ x0_1, r1)) else none

/-- loop.example/g01158/spec.l3Node -/
def spec_l3Node.l0 (n : Nat) (K : Int → (List (Int × Int × Int)) → (List (Int)) → Int → (List (Int × Int × Int)) → (List (Int)) → Option (Int × (List (Int × Int × Int)) × (List (Int)))) : Nat → Int → Int → (List (Int × Int × Int)) → (List (Int)) → Int → (List (Int × Int × Int)) → (List (Int)) → Int → (List (Int × Int × Int)) → (List (Int)) → Int → Option (Int × (List (Int × Int × Int)) × (List (Int)))
  | 0, _, _, _, _, _, _, _, _, _, _, _ => none
  | k + 1, x1, x2_0, x2_1, x2_2, x4_0, x4_1, x4_2, x5_0, x5_1, x5_2, x6 =>
    if (decide (x6 < (x2_1.length : Int))) = true then
      if 0 ≤ x6 ∧ x6 < (x2_1.length : Int) then (if (!decide (((x2_1.getD x6.toNat ((0 : Int), (0 : Int), (0 : Int))).1) = x1)) = true then
        if 0 ≤ x6 ∧ x6 < (x2_1.length : Int) then (if (!decide (((x2_1.getD x6.toNat ((0 : Int), (0 : Int), (0 : Int))).2.1) = x1)) = true then
          if 0 ≤ x6 ∧ x6 < (x2_1.length : Int) then (if x5_1.length + ([(x2_1.getD x6.toNat ((0 : Int), (0 : Int), (0 : Int)))] : List (Int × Int × Int)).length ≤ 4398046511104 then (spec_l3Node.l0 n K k x1 x2_0 x2_1 x2_2 x4_0 x4_1 x4_2 x5_0 (x5_1 ++ ([(x2_1.getD x6.toNat ((0 : Int), (0 : Int), (0 : Int)))] : List (Int × Int × Int))) x5_2 (IntKind.wrap .i64 (x6 + (1 : Int)))) else none) else none
        else
          spec_l3Node.l0 n K k x1 x2_0 x2_1 x2_2 x4_0 x4_1 x4_2 x5_0 x5_1 x5_2 (IntKind.wrap .i64 (x6 + (1 : Int)))) else none
      else
        spec_l3Node.l0 n K k x1 x2_0 x2_1 x2_2 x4_0 x4_1 x4_2 x5_0 x5_1 x5_2 (IntKind.wrap .i64 (x6 + (1 : Int)))) else none
    else
      K x4_0 x4_1 x4_2 x5_0 x5_1 x5_2
def spec_l3Node.F (n : Nat) (x0_0 : Int) (x0_1 : List (Int × Int × Int)) (x0_2 : List (Int)) (x1 : Int) : Option (Int × (List (Int × Int × Int)) × (List (Int))) :=
  (spec_l2Own.F n x0_0 x0_1 x0_2).bind fun r1 =>
  spec_l3Node.l0 n (fun y2 y3 y4 y5 y6 y7 =>
    some (y5, y6, y7)) n x1 x0_0 x0_1 x0_2 (0 : Int) ([] : List (Int × Int × Int)) ([] : List (Int)) r1.1 ([] : List (Int × Int × Int)) r1.2.2 (0 : Int)

/-- loop.example/g01158/spec.WithoutNode -/
def spec_WithoutNode.F (n : Nat) (x0_0 : Int) (x0_1 : List (Int × Int × Int)) (x0_2 : List (Int)) (x1 : Int) : Option (Int × (List (Int × Int × Int)) × (List (Int)) × Bool) :=
  (spec_l2Node.F n x0_0 x0_1 x0_2 x1).bind fun r1 =>
  if (!r1) = true then
    some ((0 : Int), ([] : List (Int × Int × Int)), ([] : List (Int)), false)
  else
    (spec_l3Node.F n x0_0 x0_1 x0_2 x1).bind fun r2 =>
    some (r2.1, r2.2.1, r2.2.2, true)

/-- loop.example/g01158/impl.put -/
def impl_put.F (n : Nat) (x0_0 : Int) (x0_1 : List (Int × Int × Int)) (x0_2 : List (Int)) (x1 : Int) (x2 : Int) : Option (Int × (List (Int × Int × Int)) × (List (Int))) :=
  (impl_own.F n x0_0 x0_1 x0_2).bind fun r1 =>
  if 0 ≤ x1 ∧ x1 < (r1.2.2.length : Int) then (some (r1.1, r1.2.1, r1.2.2.set x1.toNat x2)) else none

/-- loop.example/g01158/impl.PutKeys -/
def impl_PutKeys.F (n : Nat) (x0_0 : Int) (x0_1 : List (Int × Int × Int)) (x0_2 : List (Int)) (x1 : Int) (x2 : Int) : Option (Int × (List (Int × Int × Int)) × (List (Int)) × Bool) :=
  (impl_isNode.F n x0_0 x0_1 x0_2 ([x1] : List (Int))).bind fun r1 =>
  if (!r1) = true then
    some ((0 : Int), ([] : List (Int × Int × Int)), ([] : List (Int)), false)
  else
    (impl_isSet.F n x2).bind fun r2 =>
    if (!r2) = true then
      some ((0 : Int), ([] : List (Int × Int × Int)), ([] : List (Int)), false)
    else
      (impl_put.F n x0_0 x0_1 x0_2 x1 x2).bind fun r3 =>
      some (r3.1, r3.2.1, r3.2.2, true)

/-- loop.example/g01158/impl.WithoutKeys -/
def impl_WithoutKeys.F (n : Nat) (x0_0 : Int) (x0_1 : List (Int × Int × Int)) (x0_2 : List (Int)) (x1 : Int) : Option (Int × (List (Int × Int × Int)) × (List (Int)) × Bool) :=
  (impl_PutKeys.F n x0_0 x0_1 x0_2 x1 (0 : Int)).bind fun r1 =>
  some (r1.1, r1.2.1, r1.2.2.1, r1.2.2.2)

/-- loop.example/g01158/spec.l3Keys -/
def spec_l3Keys.F (n : Nat) (x0_0 : Int) (x0_1 : List (Int × Int × Int)) (x0_2 : List (Int)) (x1 : Int) : Option (Int × (List (Int × Int × Int)) × (List (Int))) :=
  (spec_l2Own.F n x0_0 x0_1 x0_2).bind fun r1 =>
  if 0 ≤ x1 ∧ x1 < (r1.2.2.length : Int) then (some (r1.1, r1.2.1, r1.2.2.set x1.toNat (0 : Int))) else none

/-- loop.example/g01158/spec.WithoutKeys -/
def spec_WithoutKeys.F (n : Nat) (x0_0 : Int) (x0_1 : List (Int × Int × Int)) (x0_2 : List (Int)) (x1 : Int) : Option (Int × (List (Int × Int × Int)) × (List (Int)) × Bool) :=
  (spec_l2Node.F n x0_0 x0_1 x0_2 x1).bind fun r1 =>
  if (!r1) = true then
    some ((0 : Int), ([] : List (Int × Int × Int)), ([] : List (Int)), false)
  else
    (spec_l3Keys.F n x0_0 x0_1 x0_2 x1).bind fun r2 =>
    some (r2.1, r2.2.1, r2.2.2, true)

/-- loop.example/g01158/laws.vCut -/
def laws_vCut.F (n : Nat) (x0 : List (Int)) (x1 : Int) : Option ((List (Int))) :=
  if (decide (x1 > (x0.length : Int))) = true then
    if 0 ≤ (x0.length : Int) ∧ (x0.length : Int) ≤ (x0.length : Int) then (if ([] : List (Int)).length + (x0.drop ((x0.length : Int).toNat)).length ≤ 4398046511104 then (if (([] : List (Int)) ++ (x0.drop ((x0.length : Int).toNat))).length + ([IntKind.wrap .u8 (x0.length : Int)] : List (Int)).length ≤ 4398046511104 then (some ((([] : List (Int)) ++ (x0.drop ((x0.length : Int).toNat))) ++ ([IntKind.wrap .u8 (x0.length : Int)] : List (Int)))) else none) else none) else none
  else
    if 0 ≤ x1 ∧ x1 ≤ (x0.length : Int) then (if ([] : List (Int)).length + (x0.drop x1.toNat).length ≤ 4398046511104 then (if (([] : List (Int)) ++ (x0.drop x1.toNat)).length + ([IntKind.wrap .u8 x1] : List (Int)).length ≤ 4398046511104 then (some ((([] : List (Int)) ++ (x0.drop x1.toNat)) ++ ([IntKind.wrap .u8 x1] : List (Int)))) else none) else none) else none

/-- loop.example/g01158/spec.DrawWithoutColour -/
def spec_DrawWithoutColour.F (n : Nat) (x0 : List (Int)) : Option (Int × (List (Int × Int × Int)) × (List (Int)) × Int) :=
  (spec_l1Cur_maze.F n x0 (0 : Int) (0 : Int)).bind fun r1 =>
  (spec_l1Cur_pick.F n r1.1 r1.2.1 r1.2.2.1 (24 : Int)).bind fun r2 =>
  if 0 ≤ (IntKind.wrap .i64 ((6 : Int) + (IntKind.wrap .i64 (Int.tdiv r2.2.2.2 11)))) ∧ (IntKind.wrap .i64 ((6 : Int) + (IntKind.wrap .i64 (Int.tdiv r2.2.2.2 11)))) ≤ (([(0 : Int), (1 : Int), (2 : Int), (3 : Int), (4 : Int), (5 : Int), (6 : Int), (-1 : Int)] : List (Int)).length : Int) then ((spec_l1Cur_among.F n r2.1 r2.2.1 r2.2.2.1 (([(0 : Int), (1 : Int), (2 : Int), (3 : Int), (4 : Int), (5 : Int), (6 : Int), (-1 : Int)] : List (Int)).take ((IntKind.wrap .i64 ((6 : Int) + (IntKind.wrap .i64 (Int.tdiv r2.2.2.2 11)))).toNat))).bind fun r3 =>
  some (r1.2.2.2.1, r1.2.2.2.2.1, r1.2.2.2.2.2, r3.2.2.2)) else none

/-- loop.example/g01158/impl.withoutColour -/
def impl_withoutColour.l0 (n : Nat) (K : Int → (List (Int × Int × Int)) → (List (Int)) → Int → (List (Int × Int × Int)) → (List (Int)) → Option (Int × (List (Int × Int × Int)) × (List (Int)))) : Nat → Int → Int → (List (Int × Int × Int)) → (List (Int)) → Int → (List (Int × Int × Int)) → (List (Int)) → Int → Int → Option (Int × (List (Int × Int × Int)) × (List (Int)))
  | 0, _, _, _, _, _, _, _, _, _ => none
  | k + 1, x1, x4_0, x4_1, x4_2, x5_0, x5_1, x5_2, x11, x12 =>
    if (decide (x12 < x11)) = true then
      if 0 ≤ x12 ∧ x12 < (x5_2.length : Int) then (if x1 < 0 then none else (if 0 ≤ x12 ∧ x12 < (x5_2.length : Int) then (impl_withoutColour.l0 n K k x1 x4_0 x4_1 x4_2 x5_0 x5_1 (x5_2.set x12.toNat (bitClr .i64 (x5_2.getD x12.toNat (0 : Int)) (shL .i64 1 x1))) x11 (IntKind.wrap .i64 (x12 + (1 : Int)))) else none)) else none
    else
      K x4_0 x4_1 x4_2 x5_0 x5_1 x5_2
def impl_withoutColour.F (n : Nat) (x0_0 : Int) (x0_1 : List (Int × Int × Int)) (x0_2 : List (Int)) (x1 : Int) : Option (Int × (List (Int × Int × Int)) × (List (Int))) :=
  (impl_own.F n x0_0 x0_1 x0_2).bind fun r1 =>
  impl_withoutColour.l0 n (fun y2 y3 y4 y5 y6 y7 =>
    some (y5, y6, y7)) n x1 (0 : Int) ([] : List (Int × Int × Int)) ([] : List (Int)) r1.1 r1.2.1 r1.2.2 (r1.2.2.length : Int) (0 : Int)

/-- loop.example/g01158/impl.WithoutColour -/
def impl_WithoutColour.F (n : Nat) (x0_0 : Int) (x0_1 : List (Int × Int × Int)) (x0_2 : List (Int)) (x1 : Int) : Option (Int × (List (Int × Int × Int)) × (List (Int)) × Bool) :=
  (impl_IsMaze.F n x0_0 x0_1 x0_2).bind fun r1 =>
  if (!r1) = true then
    some ((0 : Int), ([] : List (Int × Int × Int)), ([] : List (Int)), false)
  else
    (impl_within.F n x1 (0 : Int) (5 : Int)).bind fun r2 =>
    if (!r2) = true then
      some ((0 : Int), ([] : List (Int × Int × Int)), ([] : List (Int)), false)
    else
      (impl_withoutColour.F n x0_0 x0_1 x0_2 x1).bind fun r3 =>
      some (r3.1, r3.2.1, r3.2.2, true)

/-- loop.example/g01158/spec.l3Colour -/
def spec_l3Colour.l0 (n : Nat) (K : Int → (List (Int × Int × Int)) → (List (Int)) → Int → (List (Int × Int × Int)) → (List (Int)) → Option (Int × (List (Int × Int × Int)) × (List (Int)))) : Nat → Int → Int → (List (Int × Int × Int)) → (List (Int)) → Int → (List (Int × Int × Int)) → (List (Int)) → Int → (List (Int × Int × Int)) → (List (Int)) → Int → Option (Int × (List (Int × Int × Int)) × (List (Int)))
  | 0, _, _, _, _, _, _, _, _, _, _, _ => none
  | k + 1, x1, x2_0, x2_1, x2_2, x4_0, x4_1, x4_2, x5_0, x5_1, x5_2, x6 =>
    if (decide (x6 < x2_0)) = true then
      if 0 ≤ x6 ∧ x6 < (x2_2.length : Int) then (if x1 < 0 then none else (if 0 ≤ x6 ∧ x6 < (x5_2.length : Int) then (spec_l3Colour.l0 n K k x1 x2_0 x2_1 x2_2 x4_0 x4_1 x4_2 x5_0 x5_1 (x5_2.set x6.toNat (bitClr .i64 (x2_2.getD x6.toNat (0 : Int)) (shL .i64 1 x1))) (IntKind.wrap .i64 (x6 + (1 : Int)))) else none)) else none
    else
      K x4_0 x4_1 x4_2 x5_0 x5_1 x5_2
def spec_l3Colour.F (n : Nat) (x0_0 : Int) (x0_1 : List (Int × Int × Int)) (x0_2 : List (Int)) (x1 : Int) : Option (Int × (List (Int × Int × Int)) × (List (Int))) :=
  (spec_l2Own.F n x0_0 x0_1 x0_2).bind fun r1 =>
  spec_l3Colour.l0 n (fun y2 y3 y4 y5 y6 y7 =>
    some (y5, y6, y7)) n x1 x0_0 x0_1 x0_2 (0 : Int) ([] : List (Int × Int × Int)) ([] : List (Int)) r1.1 r1.2.1 r1.2.2 (0 : Int)

/-- loop.example/g01158/spec.WithoutColour -/
def spec_WithoutColour.F (n : Nat) (x0_0 : Int) (x0_1 : List (Int × Int × Int)) (x0_2 : List (Int)) (x1 : Int) : Option (Int × (List (Int × Int × Int)) × (List (Int)) × Bool) :=
  (spec_l2Maze.F n x0_0 x0_1 x0_2).bind fun r1 =>
  if (!r1) = true then
    some ((0 : Int), ([] : List (Int × Int × Int)), ([] : List (Int)), false)
  else
    (spec_l1In.F n x1 (0 : Int) (5 : Int)).bind fun r2 =>
    if (!r2) = true then
      some ((0 : Int), ([] : List (Int × Int × Int)), ([] : List (Int)), false)
    else
      (spec_l3Colour.F n x0_0 x0_1 x0_2 x1).bind fun r3 =>
      some (r3.1, r3.2.1, r3.2.2, true)

/-- loop.example/g01158/laws.vInts -/
def laws_vInts.l0 (n : Nat) (K : Unit → Option (Bool)) : Nat → (List (Int)) → (List (Int)) → Int → Option (Bool)
  | 0, _, _, _ => none
  | k + 1, x0, x1, x5 =>
    if (decide (x5 < (x0.length : Int))) = true then
      if 0 ≤ x5 ∧ x5 < (x0.length : Int) then (if 0 ≤ x5 ∧ x5 < (x1.length : Int) then (if (!decide ((x0.getD x5.toNat (0 : Int)) = (x1.getD x5.toNat (0 : Int)))) = true then
        some false
      else
        laws_vInts.l0 n K k x0 x1 (IntKind.wrap .i64 (x5 + (1 : Int)))) else none) else none
    else
      K ()
def laws_vInts.F (n : Nat) (x0 : List (Int)) (x1 : List (Int)) : Option (Bool) :=
  if (!decide ((x0.length : Int) = (x1.length : Int))) = true then
    some false
  else
    laws_vInts.l0 n (fun _ =>
      some true) n x0 x1 (0 : Int)

/-- loop.example/g01158/laws.vMaze -/
def laws_vMaze.l0 (n : Nat) (K : Unit → Option (Bool)) : Nat → Int → (List (Int × Int × Int)) → (List (Int)) → Int → (List (Int × Int × Int)) → (List (Int)) → Int → Option (Bool)
  | 0, _, _, _, _, _, _, _ => none
  | k + 1, x2_0, x2_1, x2_2, x3_0, x3_1, x3_2, x5 =>
    if (decide (x5 < (x2_1.length : Int))) = true then
      if 0 ≤ x5 ∧ x5 < (x2_1.length : Int) then (if 0 ≤ x5 ∧ x5 < (x3_1.length : Int) then (if (!(decide (((x2_1.getD x5.toNat ((0 : Int), (0 : Int), (0 : Int))).1) = ((x3_1.getD x5.toNat ((0 : Int), (0 : Int), (0 : Int))).1)) && (decide (((x2_1.getD x5.toNat ((0 : Int), (0 : Int), (0 : Int))).2.1) = ((x3_1.getD x5.toNat ((0 : Int), (0 : Int), (0 : Int))).2.1)) && (decide (((x2_1.getD x5.toNat ((0 : Int), (0 : Int), (0 : Int))).2.2) = ((x3_1.getD x5.toNat ((0 : Int), (0 : Int), (0 : Int))).2.2)) && true)))) = true then
        some false
      else
        laws_vMaze.l0 n K k x2_0 x2_1 x2_2 x3_0 x3_1 x3_2 (IntKind.wrap .i64 (x5 + (1 : Int)))) else none) else none
    else
      K ()
def laws_vMaze.F (n : Nat) (x0_0 : Int) (x0_1 : List (Int × Int × Int)) (x0_2 : List (Int)) (x1_0 : Int) (x1_1 : List (Int × Int × Int)) (x1_2 : List (Int)) : Option (Bool) :=
  if (!decide (x0_0 = x1_0)) = true then
    some false
  else
    if (!decide ((x0_1.length : Int) = (x1_1.length : Int))) = true then
      some false
    else
      (laws_vInts.F n x0_2 x1_2).bind fun r1 =>
      if (!r1) = true then
        some false
      else
        laws_vMaze.l0 n (fun _ =>
          some true) n x0_0 x0_1 x0_2 x1_0 x1_1 x1_2 (0 : Int)

/-- loop.example/g01158/impl.asked -/
def impl_asked.F (n : Nat) (x0_0 : Int) (x0_1 : List (Int × Int × Int)) (x0_2 : List (Int)) (x1 : Int) : Option (Bool) :=
  (impl_IsMaze.F n x0_0 x0_1 x0_2).bind fun r1 =>
  if r1 = true then
    (impl_isSet.F n x1).bind fun r2 =>
    some r2
  else
    some false

/-- loop.example/g01158/impl.has -/
def impl_has.F (n : Nat) (x0 : Int) (x1 : Int) : Option (Bool) :=
  some (decide ((bitClr .i64 x1 x0) = (0 : Int)))

/-- loop.example/g01158/impl.steps -/
def impl_steps.l0 (n : Nat) (K : Int → Option (Int)) : Nat → Int → Int → Int → (List (Int × Int × Int)) → Int → Int → Option (Int)
  | 0, _, _, _, _, _, _ => none
  | k + 1, x1, x2, x7, x11, x12, x13 =>
    if (decide (x13 < x12)) = true then
      if 0 ≤ x13 ∧ x13 < (x11.length : Int) then ((impl_has.F n x2 ((x11.getD x13.toNat ((0 : Int), (0 : Int), (0 : Int))).2.2)).bind fun r1 =>
      if (!r1) = true then
        impl_steps.l0 n K k x1 x2 x7 x11 x12 (IntKind.wrap .i64 (x13 + (1 : Int)))
      else
        if (decide (((x11.getD x13.toNat ((0 : Int), (0 : Int), (0 : Int))).1) = x1)) = true then
          if ((x11.getD x13.toNat ((0 : Int), (0 : Int), (0 : Int))).2.1) < 0 then none else (if (decide (((x11.getD x13.toNat ((0 : Int), (0 : Int), (0 : Int))).2.1) = x1)) = true then
            if ((x11.getD x13.toNat ((0 : Int), (0 : Int), (0 : Int))).1) < 0 then none else (impl_steps.l0 n K k x1 x2 (bitOr .i64 (bitOr .i64 x7 (shL .i64 1 ((x11.getD x13.toNat ((0 : Int), (0 : Int), (0 : Int))).2.1))) (shL .i64 1 ((x11.getD x13.toNat ((0 : Int), (0 : Int), (0 : Int))).1))) x11 x12 (IntKind.wrap .i64 (x13 + (1 : Int))))
          else
            impl_steps.l0 n K k x1 x2 (bitOr .i64 x7 (shL .i64 1 ((x11.getD x13.toNat ((0 : Int), (0 : Int), (0 : Int))).2.1))) x11 x12 (IntKind.wrap .i64 (x13 + (1 : Int))))
        else
          if (decide (((x11.getD x13.toNat ((0 : Int), (0 : Int), (0 : Int))).2.1) = x1)) = true then
            if ((x11.getD x13.toNat ((0 : Int), (0 : Int), (0 : Int))).1) < 0 then none else (impl_steps.l0 n K k x1 x2 (bitOr .i64 x7 (shL .i64 1 ((x11.getD x13.toNat ((0 : Int), (0 : Int), (0 : Int))).1))) x11 x12 (IntKind.wrap .i64 (x13 + (1 : Int))))
          else
            impl_steps.l0 n K k x1 x2 x7 x11 x12 (IntKind.wrap .i64 (x13 + (1 : Int)))) else none
    else
      K x7
def impl_steps.F (n : Nat) (x0_0 : Int) (x0_1 : List (Int × Int × Int)) (x0_2 : List (Int)) (x1 : Int) (x2 : Int) : Option (Int) :=
  impl_steps.l0 n (fun y2 =>
    some y2) n x1 x2 (0 : Int) x0_1 (x0_1.length : Int) (0 : Int)

/-- loop.example/g01158/impl.members -/
def impl_members.l0 (n : Nat) (K : (List (Int)) → Option ((List (Int)))) : Nat → Int → (List (Int)) → Int → Option ((List (Int)))
  | 0, _, _, _ => none
  | k + 1, x0, x3, x4 =>
    if x4 < 0 then none else (if (decide ((shR .i64 x0 x4) > (0 : Int))) = true then
      if x4 < 0 then none else (if (decide ((bitAnd .i64 (shR .i64 x0 x4) 1) = (1 : Int))) = true then
        if x3.length + ([x4] : List (Int)).length ≤ 4398046511104 then (impl_members.l0 n K k x0 (x3 ++ ([x4] : List (Int))) (IntKind.wrap .i64 (x4 + (1 : Int)))) else none
      else
        impl_members.l0 n K k x0 x3 (IntKind.wrap .i64 (x4 + (1 : Int))))
    else
      K x3)
def impl_members.F (n : Nat) (x0 : Int) : Option ((List (Int))) :=
  impl_members.l0 n (fun y1 =>
    some y1) n x0 ([] : List (Int)) (0 : Int)

/-- loop.example/g01158/impl.reach -/
def impl_reach.l0 (n : Nat) (K : Int → Option (Int)) : Nat → Int → Int → (List (Int × Int × Int)) → (List (Int)) → Int → (List (Int)) → Option (Int)
  | 0, _, _, _, _, _, _ => none
  | k + 1, x2, x3_0, x3_1, x3_2, x7, x8 =>
    if (decide ((x8.length : Int) > (0 : Int))) = true then
      if 0 ≤ (0 : Int) ∧ (0 : Int) < (x8.length : Int) then ((impl_steps.F n x3_0 x3_1 x3_2 (x8.getD 0 (0 : Int)) x2).bind fun r1 =>
      if 0 ≤ (1 : Int) ∧ (1 : Int) ≤ (x8.length : Int) then ((impl_members.F n (bitClr .i64 r1 x7)).bind fun r2 =>
      if (x8.drop 1).length + r2.length ≤ 4398046511104 then (impl_reach.l0 n K k x2 x3_0 x3_1 x3_2 (bitOr .i64 x7 (bitClr .i64 r1 x7)) ((x8.drop 1) ++ r2)) else none) else none) else none
    else
      K x7
def impl_reach.F (n : Nat) (x0_0 : Int) (x0_1 : List (Int × Int × Int)) (x0_2 : List (Int)) (x1 : Int) (x2 : Int) : Option (Int) :=
  if x1 < 0 then none else (impl_reach.l0 n (fun y3 =>
    some y3) n x2 x0_0 x0_1 x0_2 (shL .i64 1 x1) ([x1] : List (Int)))

/-- loop.example/g01158/impl.rounds -/
def impl_rounds.l2 (n : Nat) (K : Int → (List (Int × Int × Int)) → (List (Int)) → (List (Int × Int)) → Int → Int → Int → Option ((List (Int × Int)))) : Nat → Int → (List (Int × Int × Int)) → (List (Int)) → (List (Int × Int)) → Int → Int → Int → (List (Int)) → Int → Int → Option ((List (Int × Int)))
  | 0, _, _, _, _, _, _, _, _, _, _ => none
  | k + 1, x2_0, x2_1, x2_2, x5, x6, x7, x8, x18, x19, x20 =>
    if (decide (x20 < x19)) = true then
      if 0 ≤ x20 ∧ x20 < (x18.length : Int) then (if 0 ≤ (x18.getD x20.toNat (0 : Int)) ∧ (x18.getD x20.toNat (0 : Int)) < (x2_2.length : Int) then (impl_rounds.l2 n K k x2_0 x2_1 x2_2 x5 x6 x7 (bitOr .i64 x8 (x2_2.getD ((x18.getD x20.toNat (0 : Int)).toNat) (0 : Int))) x18 x19 (IntKind.wrap .i64 (x20 + (1 : Int)))) else none) else none
    else
      K x2_0 x2_1 x2_2 x5 x6 x7 x8
def impl_rounds.l0 (n : Nat) (K : Unit → Option ((List (Int × Int)))) : Nat → Int → (List (Int × Int × Int)) → (List (Int)) → (List (Int × Int)) → Int → Option ((List (Int × Int)))
  | 0, _, _, _, _, _ => none
  | k + 1, x2_0, x2_1, x2_2, x5, x6 =>
    (impl_reach.F n x2_0 x2_1 x2_2 (0 : Int) x6).bind fun r1 =>
    (impl_members.F n r1).bind fun r2 =>
    impl_rounds.l2 n (fun y3 y4 y5 y6 y7 y8 y9 =>
      if y6.length + ([(y7, y8)] : List (Int × Int)).length ≤ 4398046511104 then (if (decide (y9 = y7)) = true then
        some (y6 ++ ([(y7, y8)] : List (Int × Int)))
      else
        impl_rounds.l0 n K k y3 y4 y5 (y6 ++ ([(y7, y8)] : List (Int × Int))) y9) else none) n x2_0 x2_1 x2_2 x5 x6 r1 x6 r2 (r2.length : Int) (0 : Int)
def impl_rounds.F (n : Nat) (x0_0 : Int) (x0_1 : List (Int × Int × Int)) (x0_2 : List (Int)) (x1 : Int) : Option ((List (Int × Int))) :=
  impl_rounds.l0 n (fun _ =>
    none) n x0_0 x0_1 x0_2 ([] : List (Int × Int)) x1

/-- loop.example/g01158/impl.atLast -/
def impl_atLast.F (n : Nat) (x0_0 : Int) (x0_1 : List (Int × Int × Int)) (x0_2 : List (Int)) (x1 : Int) : Option (Int × Int) :=
  (impl_rounds.F n x0_0 x0_1 x0_2 x1).bind fun r1 =>
  if 0 ≤ (IntKind.wrap .i64 ((r1.length : Int) - (1 : Int))) ∧ (IntKind.wrap .i64 ((r1.length : Int) - (1 : Int))) < (r1.length : Int) then (some ((r1.getD ((IntKind.wrap .i64 ((r1.length : Int) - (1 : Int))).toNat) ((0 : Int), (0 : Int))).1, (r1.getD ((IntKind.wrap .i64 ((r1.length : Int) - (1 : Int))).toNat) ((0 : Int), (0 : Int))).2)) else none

/-- loop.example/g01158/impl.GainAtLast -/
def impl_GainAtLast.F (n : Nat) (x0_0 : Int) (x0_1 : List (Int × Int × Int)) (x0_2 : List (Int)) (x1 : Int) : Option (Int × (List (Int)) × Bool) :=
  (impl_asked.F n x0_0 x0_1 x0_2 x1).bind fun r1 =>
  if (!r1) = true then
    some ((0 : Int), ([] : List (Int)), false)
  else
    (impl_atLast.F n x0_0 x0_1 x0_2 x1).bind fun r2 =>
    (impl_members.F n r2.2).bind fun r3 =>
    some (r2.1, r3, true)

/-- loop.example/g01158/laws.vHas -/
def laws_vHas.l0 (n : Nat) (K : Unit → Option (Bool)) : Nat → (List (Int)) → Int → Int → Option (Bool)
  | 0, _, _, _ => none
  | k + 1, x0, x1, x5 =>
    if (decide (x5 < (x0.length : Int))) = true then
      if 0 ≤ x5 ∧ x5 < (x0.length : Int) then (if (decide ((x0.getD x5.toNat (0 : Int)) = x1)) = true then
        some true
      else
        laws_vHas.l0 n K k x0 x1 (IntKind.wrap .i64 (x5 + (1 : Int)))) else none
    else
      K ()
def laws_vHas.F (n : Nat) (x0 : List (Int)) (x1 : Int) : Option (Bool) :=
  laws_vHas.l0 n (fun _ =>
    some false) n x0 x1 (0 : Int)

/-- loop.example/g01158/laws.vWithin -/
def laws_vWithin.l0 (n : Nat) (K : Unit → Option (Bool)) : Nat → (List (Int)) → (List (Int)) → Int → Option (Bool)
  | 0, _, _, _ => none
  | k + 1, x0, x1, x5 =>
    if (decide (x5 < (x0.length : Int))) = true then
      if 0 ≤ x5 ∧ x5 < (x0.length : Int) then ((laws_vHas.F n x1 (x0.getD x5.toNat (0 : Int))).bind fun r1 =>
      if (!r1) = true then
        some false
      else
        laws_vWithin.l0 n K k x0 x1 (IntKind.wrap .i64 (x5 + (1 : Int)))) else none
    else
      K ()
def laws_vWithin.F (n : Nat) (x0 : List (Int)) (x1 : List (Int)) : Option (Bool) :=
  laws_vWithin.l0 n (fun _ =>
    some true) n x0 x1 (0 : Int)

/-- loop.example/g01158/impl.DoorsAt -/
def impl_DoorsAt.l0 (n : Nat) (K : (List (Int)) → Option ((List (Int)) × Bool)) : Nat → Int → (List (Int)) → (List (Int × Int × Int)) → Int → Int → Option ((List (Int)) × Bool)
  | 0, _, _, _, _, _ => none
  | k + 1, x1, x6, x16, x17, x18 =>
    if (decide (x18 < x17)) = true then
      if 0 ≤ x18 ∧ x18 < (x16.length : Int) then (if (decide (((x16.getD x18.toNat ((0 : Int), (0 : Int), (0 : Int))).1) = x1)) = true then
        if x6.length + ([x18] : List (Int)).length ≤ 4398046511104 then (impl_DoorsAt.l0 n K k x1 (x6 ++ ([x18] : List (Int))) x16 x17 (IntKind.wrap .i64 (x18 + (1 : Int)))) else none
      else
        if (decide (((x16.getD x18.toNat ((0 : Int), (0 : Int), (0 : Int))).2.1) = x1)) = true then
          if x6.length + ([x18] : List (Int)).length ≤ 4398046511104 then (impl_DoorsAt.l0 n K k x1 (x6 ++ ([x18] : List (Int))) x16 x17 (IntKind.wrap .i64 (x18 + (1 : Int)))) else none
        else
          impl_DoorsAt.l0 n K k x1 x6 x16 x17 (IntKind.wrap .i64 (x18 + (1 : Int)))) else none
    else
      K x6
def impl_DoorsAt.F (n : Nat) (x0_0 : Int) (x0_1 : List (Int × Int × Int)) (x0_2 : List (Int)) (x1 : Int) : Option ((List (Int)) × Bool) :=
  (impl_isNode.F n x0_0 x0_1 x0_2 ([x1] : List (Int))).bind fun r1 =>
  if (!r1) = true then
    some (([] : List (Int)), false)
  else
    impl_DoorsAt.l0 n (fun y2 =>
      some (y2, true)) n x1 ([] : List (Int)) x0_1 (x0_1.length : Int) (0 : Int)

/-- loop.example/g01158/laws.FnWithout -/
def laws_FnWithout.c23 (n : Nat) (x4 : Int) (x5_0 : Int) (x5_1 : List (Int × Int × Int)) (x5_2 : List (Int)) (x9_0 : Int) (x9_1 : List (Int × Int × Int)) (x9_2 : List (Int)) (x25 : Int) (x26 : List (Int)) (x27 : Bool) (x28 : Int) (x29 : List (Int)) (x30 : Bool) (x31 : Int) (x32 : List (Int)) (x33 : Bool) : Option (Bool) :=
  (impl_DoorsAt.F n x5_0 x5_1 x5_2 x4).bind fun r21 =>
  if x27 = true then
    if x30 = true then
      if x33 = true then
        if r21.2 = true then
          if (decide ((bitAnd .i64 x25 x31) = x25)) = true then
            if (decide ((bitAnd .i64 x28 x31) = x28)) = true then
              (laws_vWithin.F n x26 x32).bind fun r22 =>
              if r22 = true then
                (laws_vWithin.F n x29 x32).bind fun r23 =>
                if r23 = true then
                  if (decide ((r21.1.length : Int) = (0 : Int))) = true then
                    if 0 ≤ x4 ∧ x4 < (x9_2.length : Int) then (some (decide ((x9_2.getD x4.toNat (0 : Int)) = (0 : Int)))) else none
                  else
                    some false
                else
                  some false
              else
                some false
            else
              some false
          else
            some false
        else
          some false
      else
        some false
    else
      some false
  else
    some false
def laws_FnWithout.c18 (n : Nat) (x3_0 : Int) (x3_1 : List (Int × Int × Int)) (x3_2 : List (Int)) (x4 : Int) (x5_0 : Int) (x5_1 : List (Int × Int × Int)) (x5_2 : List (Int)) (x6 : Bool) (x9_0 : Int) (x9_1 : List (Int × Int × Int)) (x9_2 : List (Int)) : Option (Bool) :=
  if (!x6) = true then
    some true
  else
    (impl_GainAtLast.F n x5_0 x5_1 x5_2 (0 : Int)).bind fun r18 =>
    (impl_GainAtLast.F n x9_0 x9_1 x9_2 (0 : Int)).bind fun r19 =>
    (impl_GainAtLast.F n x3_0 x3_1 x3_2 (0 : Int)).bind fun r20 =>
    laws_FnWithout.c23 n x4 x5_0 x5_1 x5_2 x9_0 x9_1 x9_2 r18.1 r18.2.1 r18.2.2 r19.1 r19.2.1 r19.2.2 r20.1 r20.2.1 r20.2.2
def laws_FnWithout.c13 (n : Nat) (x3_0 : Int) (x3_1 : List (Int × Int × Int)) (x3_2 : List (Int)) (x4 : Int) (x5_0 : Int) (x5_1 : List (Int × Int × Int)) (x5_2 : List (Int)) (x6 : Bool) (x9_0 : Int) (x9_1 : List (Int × Int × Int)) (x9_2 : List (Int)) (x13_0 : Int) (x13_1 : List (Int × Int × Int)) (x13_2 : List (Int)) (x14 : Int) (x15_0 : Int) (x15_1 : List (Int × Int × Int)) (x15_2 : List (Int)) (x16 : Bool) : Option (Bool) :=
  if x16 = true then
    (impl_GainAtLast.F n x15_0 x15_1 x15_2 (0 : Int)).bind fun r14 =>
    (impl_GainAtLast.F n x13_0 x13_1 x13_2 (0 : Int)).bind fun r15 =>
    if (!r14.2.2) = true then
      some false
    else
      if (!r15.2.2) = true then
        some false
      else
        if (!decide ((bitAnd .i64 r14.1 r15.1) = r14.1)) = true then
          some false
        else
          if x14 < 0 then none else (if (decide ((bitAnd .i64 (shR .i64 r14.1 x14) 1) = (1 : Int))) = true then
            some false
          else
            (laws_vWithin.F n r14.2.1 r15.2.1).bind fun r16 =>
            if (!r16) = true then
              some false
            else
              (impl_IsMaze.F n x15_0 x15_1 x15_2).bind fun r17 =>
              if (!r17) = true then
                some false
              else
                laws_FnWithout.c18 n x3_0 x3_1 x3_2 x4 x5_0 x5_1 x5_2 x6 x9_0 x9_1 x9_2)
  else
    laws_FnWithout.c18 n x3_0 x3_1 x3_2 x4 x5_0 x5_1 x5_2 x6 x9_0 x9_1 x9_2
def laws_FnWithout.c10 (n : Nat) (x3_0 : Int) (x3_1 : List (Int × Int × Int)) (x3_2 : List (Int)) (x4 : Int) (x5_0 : Int) (x5_1 : List (Int × Int × Int)) (x5_2 : List (Int)) (x6 : Bool) (x7_0 : Int) (x7_1 : List (Int × Int × Int)) (x7_2 : List (Int)) (x8 : Bool) (x9_0 : Int) (x9_1 : List (Int × Int × Int)) (x9_2 : List (Int)) (x10 : Bool) (x11_0 : Int) (x11_1 : List (Int × Int × Int)) (x11_2 : List (Int)) (x12 : Bool) (x13_0 : Int) (x13_1 : List (Int × Int × Int)) (x13_2 : List (Int)) (x14 : Int) (x15_0 : Int) (x15_1 : List (Int × Int × Int)) (x15_2 : List (Int)) (x16 : Bool) : Option (Bool) :=
  (spec_WithoutColour.F n x13_0 x13_1 x13_2 x14).bind fun r10 =>
  if (!(x6 == x8)) = true then
    some false
  else
    (laws_vMaze.F n x5_0 x5_1 x5_2 x7_0 x7_1 x7_2).bind fun r11 =>
    if (!r11) = true then
      some false
    else
      if (!(x10 == x12)) = true then
        some false
      else
        (laws_vMaze.F n x9_0 x9_1 x9_2 x11_0 x11_1 x11_2).bind fun r12 =>
        if (!r12) = true then
          some false
        else
          if (!(x16 == r10.2.2.2)) = true then
            some false
          else
            (laws_vMaze.F n x15_0 x15_1 x15_2 r10.1 r10.2.1 r10.2.2.1).bind fun r13 =>
            if (!r13) = true then
              some false
            else
              if (!(x6 == x10)) = true then
                some false
              else
                laws_FnWithout.c13 n x3_0 x3_1 x3_2 x4 x5_0 x5_1 x5_2 x6 x9_0 x9_1 x9_2 x13_0 x13_1 x13_2 x14 x15_0 x15_1 x15_2 x16
def laws_FnWithout.c6 (n : Nat) (x0 : List (Int)) (x3_0 : Int) (x3_1 : List (Int × Int × Int)) (x3_2 : List (Int)) (x4 : Int) (x5_0 : Int) (x5_1 : List (Int × Int × Int)) (x5_2 : List (Int)) (x6 : Bool) (x7_0 : Int) (x7_1 : List (Int × Int × Int)) (x7_2 : List (Int)) (x8 : Bool) : Option (Bool) :=
  (impl_WithoutKeys.F n x3_0 x3_1 x3_2 x4).bind fun r5 =>
  (spec_WithoutKeys.F n x3_0 x3_1 x3_2 x4).bind fun r6 =>
  (laws_vCut.F n x0 (1 : Int)).bind fun r7 =>
  (spec_DrawWithoutColour.F n r7).bind fun r8 =>
  (impl_WithoutColour.F n r8.1 r8.2.1 r8.2.2.1 r8.2.2.2).bind fun r9 =>
  laws_FnWithout.c10 n x3_0 x3_1 x3_2 x4 x5_0 x5_1 x5_2 x6 x7_0 x7_1 x7_2 x8 r5.1 r5.2.1 r5.2.2.1 r5.2.2.2 r6.1 r6.2.1 r6.2.2.1 r6.2.2.2 r8.1 r8.2.1 r8.2.2.1 r8.2.2.2 r9.1 r9.2.1 r9.2.2.1 r9.2.2.2
def laws_FnWithout.F (n : Nat) (x0 : List (Int)) : Option (Bool) :=
  (laws_vBig.F n x0).bind fun r1 =>
  if r1 = true then
    some true
  else
    (spec_DrawWithoutNode.F n x0).bind fun r2 =>
    (impl_WithoutNode.F n r2.1 r2.2.1 r2.2.2.1 r2.2.2.2).bind fun r3 =>
    (spec_WithoutNode.F n r2.1 r2.2.1 r2.2.2.1 r2.2.2.2).bind fun r4 =>
    laws_FnWithout.c6 n x0 r2.1 r2.2.1 r2.2.2.1 r2.2.2.2 r3.1 r3.2.1 r3.2.2.1 r3.2.2.2 r4.1 r4.2.1 r4.2.2.1 r4.2.2.2

/-- loop.example/g01158/laws.toIntS -/
def laws_toIntS.l0 (n : Nat) (K : (List (Int)) → Option ((List (Int)))) : Nat → (List (Int)) → (List (Int)) → Int → Option ((List (Int)))
  | 0, _, _, _ => none
  | k + 1, x0, x3, x4 =>
    if (decide (x4 < (x0.length : Int))) = true then
      if 0 ≤ x4 ∧ x4 < (x0.length : Int) then (if 0 ≤ x4 ∧ x4 < (x3.length : Int) then (laws_toIntS.l0 n K k x0 (x3.set x4.toNat (x0.getD x4.toNat (0 : Int))) (IntKind.wrap .i64 (x4 + (1 : Int)))) else none) else none
    else
      K x3
def laws_toIntS.F (n : Nat) (x0 : List (Int)) : Option ((List (Int))) :=
  if 0 ≤ (x0.length : Int) ∧ (x0.length : Int) ≤ (x0.length : Int) ∧ (x0.length : Int) ≤ 4398046511104 then (laws_toIntS.l0 n (fun y1 =>
    some y1) n x0 (List.replicate ((x0.length : Int).toNat) (0 : Int)) (0 : Int)) else none

/-- loop.example/g01158/laws.toIntA3 -/
def laws_toIntA3.F (n : Nat) (x0_0 : Int) (x0_1 : Int) (x0_2 : Int) : Option (Int × Int × Int) :=
  some (x0_0, x0_1, x0_2)

/-- loop.example/g01158/laws.toIntA3S -/
def laws_toIntA3S.l0 (n : Nat) (K : (List (Int × Int × Int)) → Option ((List (Int × Int × Int)))) : Nat → (List (Int × Int × Int)) → (List (Int × Int × Int)) → Int → Option ((List (Int × Int × Int)))
  | 0, _, _, _ => none
  | k + 1, x0, x3, x4 =>
    if (decide (x4 < (x0.length : Int))) = true then
      if 0 ≤ x4 ∧ x4 < (x0.length : Int) then ((laws_toIntA3.F n ((x0.getD x4.toNat ((0 : Int), (0 : Int), (0 : Int))).1) ((x0.getD x4.toNat ((0 : Int), (0 : Int), (0 : Int))).2.1) ((x0.getD x4.toNat ((0 : Int), (0 : Int), (0 : Int))).2.2)).bind fun r1 =>
      if 0 ≤ x4 ∧ x4 < (x3.length : Int) then (laws_toIntA3S.l0 n K k x0 (x3.set x4.toNat r1) (IntKind.wrap .i64 (x4 + (1 : Int)))) else none) else none
    else
      K x3
def laws_toIntA3S.F (n : Nat) (x0 : List (Int × Int × Int)) : Option ((List (Int × Int × Int))) :=
  if 0 ≤ (x0.length : Int) ∧ (x0.length : Int) ≤ (x0.length : Int) ∧ (x0.length : Int) ≤ 4398046511104 then (laws_toIntA3S.l0 n (fun y2 =>
    some y2) n x0 (List.replicate ((x0.length : Int).toNat) ((0 : Int), (0 : Int), (0 : Int))) (0 : Int)) else none

/-- loop.example/g01158/laws.toMaze -/
def laws_toMaze.F (n : Nat) (x0_0 : Int) (x0_1 : List (Int × Int × Int)) (x0_2 : List (Int)) : Option (Int × (List (Int × Int × Int)) × (List (Int))) :=
  (laws_toIntA3S.F n x0_1).bind fun r1 =>
  (laws_toIntS.F n x0_2).bind fun r2 =>
  some (x0_0, r1, r2)

/-- loop.example/g01158/laws.eqIntA3 -/
def laws_eqIntA3.F (n : Nat) (x0_0 : Int) (x0_1 : Int) (x0_2 : Int) (x1_0 : Int) (x1_1 : Int) (x1_2 : Int) : Option (Bool) :=
  if (!decide (x0_0 = x1_0)) = true then
    some false
  else
    if (!decide (x0_1 = x1_1)) = true then
      some false
    else
      if (!decide (x0_2 = x1_2)) = true then
        some false
      else
        some true

/-- loop.example/g01158/laws.eqIntA3S -/
def laws_eqIntA3S.l0 (n : Nat) (K : Unit → Option (Bool)) : Nat → (List (Int × Int × Int)) → (List (Int × Int × Int)) → Int → Option (Bool)
  | 0, _, _, _ => none
  | k + 1, x0, x1, x5 =>
    if (decide (x5 < (x0.length : Int))) = true then
      if 0 ≤ x5 ∧ x5 < (x0.length : Int) then (if 0 ≤ x5 ∧ x5 < (x1.length : Int) then ((laws_eqIntA3.F n ((x0.getD x5.toNat ((0 : Int), (0 : Int), (0 : Int))).1) ((x0.getD x5.toNat ((0 : Int), (0 : Int), (0 : Int))).2.1) ((x0.getD x5.toNat ((0 : Int), (0 : Int), (0 : Int))).2.2) ((x1.getD x5.toNat ((0 : Int), (0 : Int), (0 : Int))).1) ((x1.getD x5.toNat ((0 : Int), (0 : Int), (0 : Int))).2.1) ((x1.getD x5.toNat ((0 : Int), (0 : Int), (0 : Int))).2.2)).bind fun r1 =>
      if (!r1) = true then
        some false
      else
        laws_eqIntA3S.l0 n K k x0 x1 (IntKind.wrap .i64 (x5 + (1 : Int)))) else none) else none
    else
      K ()
def laws_eqIntA3S.F (n : Nat) (x0 : List (Int × Int × Int)) (x1 : List (Int × Int × Int)) : Option (Bool) :=
  if (!decide ((x0.length : Int) = (x1.length : Int))) = true then
    some false
  else
    laws_eqIntA3S.l0 n (fun _ =>
      some true) n x0 x1 (0 : Int)

/-- loop.example/g01158/laws.eqIntS -/
def laws_eqIntS.l0 (n : Nat) (K : Unit → Option (Bool)) : Nat → (List (Int)) → (List (Int)) → Int → Option (Bool)
  | 0, _, _, _ => none
  | k + 1, x0, x1, x5 =>
    if (decide (x5 < (x0.length : Int))) = true then
      if 0 ≤ x5 ∧ x5 < (x0.length : Int) then (if 0 ≤ x5 ∧ x5 < (x1.length : Int) then (if (!decide ((x0.getD x5.toNat (0 : Int)) = (x1.getD x5.toNat (0 : Int)))) = true then
        some false
      else
        laws_eqIntS.l0 n K k x0 x1 (IntKind.wrap .i64 (x5 + (1 : Int)))) else none) else none
    else
      K ()
def laws_eqIntS.F (n : Nat) (x0 : List (Int)) (x1 : List (Int)) : Option (Bool) :=
  if (!decide ((x0.length : Int) = (x1.length : Int))) = true then
    some false
  else
    laws_eqIntS.l0 n (fun _ =>
      some true) n x0 x1 (0 : Int)

/-- loop.example/g01158/laws.eqMaze -/
def laws_eqMaze.F (n : Nat) (x0_0 : Int) (x0_1 : List (Int × Int × Int)) (x0_2 : List (Int)) (x1_0 : Int) (x1_1 : List (Int × Int × Int)) (x1_2 : List (Int)) : Option (Bool) :=
  if (!decide (x0_0 = x1_0)) = true then
    some false
  else
    (laws_eqIntA3S.F n x0_1 x1_1).bind fun r1 =>
    if (!r1) = true then
      some false
    else
      (laws_eqIntS.F n x0_2 x1_2).bind fun r2 =>
      if (!r2) = true then
        some false
      else
        some true

/-- loop.example/g01158/laws.szIntA3S -/
def laws_szIntA3S.F (n : Nat) (x0 : List (Int × Int × Int)) (x1 : Int) : Option (Int) :=
  if (decide ((IntKind.wrap .i64 (x1 - (x0.length : Int))) < (0 : Int))) = true then
    some (-1 : Int)
  else
    some (IntKind.wrap .i64 (x1 - (x0.length : Int)))

/-- loop.example/g01158/laws.szIntS -/
def laws_szIntS.F (n : Nat) (x0 : List (Int)) (x1 : Int) : Option (Int) :=
  if (decide ((IntKind.wrap .i64 (x1 - (x0.length : Int))) < (0 : Int))) = true then
    some (-1 : Int)
  else
    some (IntKind.wrap .i64 (x1 - (x0.length : Int)))

/-- loop.example/g01158/laws.szMaze -/
def laws_szMaze.F (n : Nat) (x0_0 : Int) (x0_1 : List (Int × Int × Int)) (x0_2 : List (Int)) (x1 : Int) : Option (Int) :=
  (laws_szIntA3S.F n x0_1 x1).bind fun r1 =>
  if (decide (r1 < (0 : Int))) = true then
    some (-1 : Int)
  else
    (laws_szIntS.F n x0_2 r1).bind fun r2 =>
    if (decide (r2 < (0 : Int))) = true then
      some (-1 : Int)
    else
      some r2

/-- loop.example/g01158/laws.markIntA3S -/
def laws_markIntA3S.l0 (n : Nat) (K : (List (Int × Int × Int)) → Int → Option (Int × (List (Int × Int × Int)))) : Nat → (List (Int × Int × Int)) → Int → Int → Option (Int × (List (Int × Int × Int)))
  | 0, _, _, _ => none
  | k + 1, x0, x1, x5 =>
    if (decide (x5 < (x0.length : Int))) = true then
      if 0 ≤ x5 ∧ x5 < (x0.length : Int) then (if 0 ≤ x5 ∧ x5 < ((x0.set x5.toNat (x1, (x0.getD x5.toNat ((0 : Int), (0 : Int), (0 : Int))).2.1, (x0.getD x5.toNat ((0 : Int), (0 : Int), (0 : Int))).2.2)).length : Int) then (if 0 ≤ x5 ∧ x5 < (((x0.set x5.toNat (x1, (x0.getD x5.toNat ((0 : Int), (0 : Int), (0 : Int))).2.1, (x0.getD x5.toNat ((0 : Int), (0 : Int), (0 : Int))).2.2)).set x5.toNat (((x0.set x5.toNat (x1, (x0.getD x5.toNat ((0 : Int), (0 : Int), (0 : Int))).2.1, (x0.getD x5.toNat ((0 : Int), (0 : Int), (0 : Int))).2.2)).getD x5.toNat ((0 : Int), (0 : Int), (0 : Int))).1, IntKind.wrap .i64 (x1 + (1 : Int)), ((x0.set x5.toNat (x1, (x0.getD x5.toNat ((0 : Int), (0 : Int), (0 : Int))).2.1, (x0.getD x5.toNat ((0 : Int), (0 : Int), (0 : Int))).2.2)).getD x5.toNat ((0 : Int), (0 : Int), (0 : Int))).2.2)).length : Int) then (laws_markIntA3S.l0 n K k (((x0.set x5.toNat (x1, (x0.getD x5.toNat ((0 : Int), (0 : Int), (0 : Int))).2.1, (x0.getD x5.toNat ((0 : Int), (0 : Int), (0 : Int))).2.2)).set x5.toNat (((x0.set x5.toNat (x1, (x0.getD x5.toNat ((0 : Int), (0 : Int), (0 : Int))).2.1, (x0.getD x5.toNat ((0 : Int), (0 : Int), (0 : Int))).2.2)).getD x5.toNat ((0 : Int), (0 : Int), (0 : Int))).1, IntKind.wrap .i64 (x1 + (1 : Int)), ((x0.set x5.toNat (x1, (x0.getD x5.toNat ((0 : Int), (0 : Int), (0 : Int))).2.1, (x0.getD x5.toNat ((0 : Int), (0 : Int), (0 : Int))).2.2)).getD x5.toNat ((0 : Int), (0 : Int), (0 : Int))).2.2)).set x5.toNat ((((x0.set x5.toNat (x1, (x0.getD x5.toNat ((0 : Int), (0 : Int), (0 : Int))).2.1, (x0.getD x5.toNat ((0 : Int), (0 : Int), (0 : Int))).2.2)).set x5.toNat (((x0.set x5.toNat (x1, (x0.getD x5.toNat ((0 : Int), (0 : Int), (0 : Int))).2.1, (x0.getD x5.toNat ((0 : Int), (0 : Int), (0 : Int))).2.2)).getD x5.toNat ((0 : Int), (0 : Int), (0 : Int))).1, IntKind.wrap .i64 (x1 + (1 : Int)), ((x0.set x5.toNat (x1, (x0.getD x5.toNat ((0 : Int), (0 : Int), (0 : Int))).2.1, (x0.getD x5.toNat ((0 : Int), (0 : Int), (0 : Int))).2.2)).getD x5.toNat ((0 : Int), (0 : Int), (0 : Int))).2.2)).getD x5.toNat ((0 : Int), (0 : Int), (0 : Int))).1, (((x0.set x5.toNat (x1, (x0.getD x5.toNat ((0 : Int), (0 : Int), (0 : Int))).2.1, (x0.getD x5.toNat ((0 : Int), (0 : Int), (0 : Int))).2.2)).set x5.toNat (((x0.set x5.toNat (x1, (x0.getD x5.toNat ((0 : Int), (0 : Int), (0 : Int))).2.1, (x0.getD x5.toNat ((0 : Int), (0 : Int), (0 : Int))).2.2)).getD x5.toNat ((0 : Int), (0 : Int), (0 : Int))).1, IntKind.wrap .i64 (x1 + (1 : Int)), ((x0.set x5.toNat (x1, (x0.getD x5.toNat ((0 : Int), (0 : Int), (0 : Int))).2.1, (x0.getD x5.toNat ((0 : Int), (0 : Int), (0 : Int))).2.2)).getD x5.toNat ((0 : Int), (0 : Int), (0 : Int))).2.2)).getD x5.toNat ((0 : Int), (0 : Int), (0 : Int))).2.1, IntKind.wrap .i64 ((IntKind.wrap .i64 (x1 + (1 : Int))) + (1 : Int)))) (IntKind.wrap .i64 ((IntKind.wrap .i64 ((IntKind.wrap .i64 (x1 + (1 : Int))) + (1 : Int))) + (1 : Int))) (IntKind.wrap .i64 (x5 + (1 : Int)))) else none) else none) else none
    else
      K x0 x1
def laws_markIntA3S.F (n : Nat) (x0 : List (Int × Int × Int)) (x1 : Int) : Option (Int × (List (Int × Int × Int))) :=
  laws_markIntA3S.l0 n (fun y1 y2 =>
    some (y2, y1)) n x0 x1 (0 : Int)

/-- loop.example/g01158/laws.markIntS -/
def laws_markIntS.l0 (n : Nat) (K : (List (Int)) → Int → Option (Int × (List (Int)))) : Nat → (List (Int)) → Int → Int → Option (Int × (List (Int)))
  | 0, _, _, _ => none
  | k + 1, x0, x1, x5 =>
    if (decide (x5 < (x0.length : Int))) = true then
      if 0 ≤ x5 ∧ x5 < (x0.length : Int) then (laws_markIntS.l0 n K k (x0.set x5.toNat x1) (IntKind.wrap .i64 (x1 + (1 : Int))) (IntKind.wrap .i64 (x5 + (1 : Int)))) else none
    else
      K x0 x1
def laws_markIntS.F (n : Nat) (x0 : List (Int)) (x1 : Int) : Option (Int × (List (Int))) :=
  laws_markIntS.l0 n (fun y1 y2 =>
    some (y2, y1)) n x0 x1 (0 : Int)

/-- loop.example/g01158/laws.markMaze -/
def laws_markMaze.F (n : Nat) (x0_0 : Int) (x0_1 : List (Int × Int × Int)) (x0_2 : List (Int)) (x1 : Int) : Option (Int × Int × (List (Int × Int × Int)) × (List (Int))) :=
  (laws_markIntA3S.F n x0_1 x1).bind fun r1 =>
  (laws_markIntS.F n x0_2 r1.1).bind fun r2 =>
  some (r2.1, x0_0, r1.2, r2.2)

/-- loop.example/g01158/laws.heldIntA3S -/
def laws_heldIntA3S.l0 (n : Nat) (K : Int → Option (Int)) : Nat → (List (Int × Int × Int)) → Int → Int → Option (Int)
  | 0, _, _, _ => none
  | k + 1, x0, x1, x5 =>
    if (decide (x5 < (x0.length : Int))) = true then
      if 0 ≤ x5 ∧ x5 < (x0.length : Int) then (if (!decide (((x0.getD x5.toNat ((0 : Int), (0 : Int), (0 : Int))).1) = x1)) = true then
        some (-1 : Int)
      else
        if 0 ≤ x5 ∧ x5 < (x0.length : Int) then (if (!decide (((x0.getD x5.toNat ((0 : Int), (0 : Int), (0 : Int))).2.1) = (IntKind.wrap .i64 (x1 + (1 : Int))))) = true then
          some (-1 : Int)
        else
          if 0 ≤ x5 ∧ x5 < (x0.length : Int) then (if (!decide (((x0.getD x5.toNat ((0 : Int), (0 : Int), (0 : Int))).2.2) = (IntKind.wrap .i64 ((IntKind.wrap .i64 (x1 + (1 : Int))) + (1 : Int))))) = true then
            some (-1 : Int)
          else
            laws_heldIntA3S.l0 n K k x0 (IntKind.wrap .i64 ((IntKind.wrap .i64 ((IntKind.wrap .i64 (x1 + (1 : Int))) + (1 : Int))) + (1 : Int))) (IntKind.wrap .i64 (x5 + (1 : Int)))) else none) else none) else none
    else
      K x1
def laws_heldIntA3S.F (n : Nat) (x0 : List (Int × Int × Int)) (x1 : Int) : Option (Int) :=
  laws_heldIntA3S.l0 n (fun y1 =>
    some y1) n x0 x1 (0 : Int)

/-- loop.example/g01158/laws.heldIntS -/
def laws_heldIntS.l0 (n : Nat) (K : Int → Option (Int)) : Nat → (List (Int)) → Int → Int → Option (Int)
  | 0, _, _, _ => none
  | k + 1, x0, x1, x5 =>
    if (decide (x5 < (x0.length : Int))) = true then
      if 0 ≤ x5 ∧ x5 < (x0.length : Int) then (if (!decide ((x0.getD x5.toNat (0 : Int)) = x1)) = true then
        some (-1 : Int)
      else
        laws_heldIntS.l0 n K k x0 (IntKind.wrap .i64 (x1 + (1 : Int))) (IntKind.wrap .i64 (x5 + (1 : Int)))) else none
    else
      K x1
def laws_heldIntS.F (n : Nat) (x0 : List (Int)) (x1 : Int) : Option (Int) :=
  laws_heldIntS.l0 n (fun y1 =>
    some y1) n x0 x1 (0 : Int)

/-- loop.example/g01158/laws.heldMaze -/
def laws_heldMaze.F (n : Nat) (x0_0 : Int) (x0_1 : List (Int × Int × Int)) (x0_2 : List (Int)) (x1 : Int) : Option (Int) :=
  (laws_heldIntA3S.F n x0_1 x1).bind fun r1 =>
  if (decide (r1 < (0 : Int))) = true then
    some (-1 : Int)
  else
    (laws_heldIntS.F n x0_2 r1).bind fun r2 =>
    if (decide (r2 < (0 : Int))) = true then
      some (-1 : Int)
    else
      some r2

/-- loop.example/g01158/spec.l2Joins -/
def spec_l2Joins.F (n : Nat) (x0_0 : Int) (x0_1 : Int) (x0_2 : Int) (x1 : Int) (x2 : Int) : Option (Bool) :=
  if (decide (x0_0 = x1)) = true then
    if (decide (x0_1 = x2)) = true then
      some true
    else
      if (decide (x0_0 = x2)) = true then
        some (decide (x0_1 = x1))
      else
        some false
  else
    if (decide (x0_0 = x2)) = true then
      some (decide (x0_1 = x1))
    else
      some false

/-- loop.example/g01158/spec.l2Has -/
def spec_l2Has.F (n : Nat) (x0 : Int) (x1 : Int) : Option (Bool) :=
  some (decide ((bitAnd .i64 x0 x1) = x1))

/-- loop.example/g01158/spec.l2Open -/
def spec_l2Open.l0 (n : Nat) (K : Unit → Option (Bool)) : Nat → Int → Int → Int → Int → (List (Int × Int × Int)) → (List (Int)) → Int → Option (Bool)
  | 0, _, _, _, _, _, _, _ => none
  | k + 1, x1, x2, x3, x4_0, x4_1, x4_2, x9 =>
    if (decide (x9 < (x4_1.length : Int))) = true then
      if 0 ≤ x9 ∧ x9 < (x4_1.length : Int) then ((spec_l2Joins.F n ((x4_1.getD x9.toNat ((0 : Int), (0 : Int), (0 : Int))).1) ((x4_1.getD x9.toNat ((0 : Int), (0 : Int), (0 : Int))).2.1) ((x4_1.getD x9.toNat ((0 : Int), (0 : Int), (0 : Int))).2.2) x1 x2).bind fun r1 =>
      if r1 = true then
        if 0 ≤ x9 ∧ x9 < (x4_1.length : Int) then ((spec_l2Has.F n x3 ((x4_1.getD x9.toNat ((0 : Int), (0 : Int), (0 : Int))).2.2)).bind fun r2 =>
        if r2 = true then
          some true
        else
          spec_l2Open.l0 n K k x1 x2 x3 x4_0 x4_1 x4_2 (IntKind.wrap .i64 (x9 + (1 : Int)))) else none
      else
        spec_l2Open.l0 n K k x1 x2 x3 x4_0 x4_1 x4_2 (IntKind.wrap .i64 (x9 + (1 : Int)))) else none
    else
      K ()
def spec_l2Open.F (n : Nat) (x0_0 : Int) (x0_1 : List (Int × Int × Int)) (x0_2 : List (Int)) (x1 : Int) (x2 : Int) (x3 : Int) : Option (Bool) :=
  spec_l2Open.l0 n (fun _ =>
    some false) n x1 x2 x3 x0_0 x0_1 x0_2 (0 : Int)

end Go.Pf
