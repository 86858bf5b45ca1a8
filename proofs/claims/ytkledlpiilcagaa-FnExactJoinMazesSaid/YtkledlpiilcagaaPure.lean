/- The pure functions of this seat's Go functions, as a program of mine (mach.py) printed them. -/
import Derived.Test.YtkledlpiilcagaaFw1
set_option linter.unusedVariables false
set_option autoImplicit false
namespace Go.Pf
open Go Go.Fx

/-- loop.example/g01158/laws.szIntA3S -/
def laws_szIntA3S.F (n : Nat) (x0 : List (Int × Int × Int)) (x1 : Int) : Option (Int) :=
  if (decide ((IntKind.wrap .i64 (x1 - (x0.length : Int))) < (0 : Int))) = true then
    some (-1 : Int)
  else
    some (IntKind.wrap .i64 (x1 - (x0.length : Int)))

/-- loop.example/g01158/laws.szIntS -/
def laws_szIntS.F (n : Nat) (x0 : List (Int)) (x1 : Int) : Option (Int) :=
  if (decide ((IntKind.wrap .i64 (x1 - (x0.length : Int))) < (0 : Int))) = true then
    some (-1 : Int)
  else
    some (IntKind.wrap .i64 (x1 - (x0.length : Int)))

/-- loop.example/g01158/laws.szMaze -/
def laws_szMaze.F (n : Nat) (x0_0 : Int) (x0_1 : List (Int × Int × Int)) (x0_2 : List (Int)) (x1 : Int) : Option (Int) :=
  (laws_szIntA3S.F n x0_1 x1).bind fun r1 =>
  if (decide (r1 < (0 : Int))) = true then
    some (-1 : Int)
  else
    (laws_szIntS.F n x0_2 r1).bind fun r2 =>
    if (decide (r2 < (0 : Int))) = true then
      some (-1 : Int)
    else
      some r2

/-- loop.example/g01158/laws.toIntA3 -/
def laws_toIntA3.F (n : Nat) (x0_0 : Int) (x0_1 : Int) (x0_2 : Int) : Option (Int × Int × Int) :=
  some (x0_0, x0_1, x0_2)

/-- loop.example/g01158/laws.toIntA3S -/
def laws_toIntA3S.l0 (n : Nat) (K : (List (Int × Int × Int)) → Option ((List (Int × Int × Int)))) : Nat → (List (Int × Int × Int)) → (List (Int × Int × Int)) → Int → Option ((List (Int × Int × Int)))
  | 0, _, _, _ => none
  | k + 1, x0, x3, x4 =>
    if (decide (x4 < (x0.length : Int))) = true then
      if 0 ≤ x4 ∧ x4 < (x0.length : Int) then ((laws_toIntA3.F n ((x0.getD x4.toNat ((0 : Int), (0 : Int), (0 : Int))).1) ((x0.getD x4.toNat ((0 : Int), (0 : Int), (0 : Int))).2.1) ((x0.getD x4.toNat ((0 : Int), (0 : Int), (0 : Int))).2.2)).bind fun r1 =>
      if 0 ≤ x4 ∧ x4 < (x3.length : Int) then (laws_toIntA3S.l0 n K k x0 (x3.set x4.toNat r1) (IntKind.wrap .i64 (x4 + (1 : Int)))) else none) else none
    else
      K x3
def laws_toIntA3S.F (n : Nat) (x0 : List (Int × Int × Int)) : Option ((List (Int × Int × Int))) :=
  if 0 ≤ (x0.length : Int) ∧ (x0.length : Int) ≤ (x0.length : Int) ∧ (x0.length : Int) ≤ 4398046511104 then (laws_toIntA3S.l0 n (fun y2 =>
    some y2) n x0 (List.replicate ((x0.length : Int).toNat) ((0 : Int), (0 : Int), (0 : Int))) (0 : Int)) else none

/-- loop.example/g01158/laws.toIntS -/
def laws_toIntS.l0 (n : Nat) (K : (List (Int)) → Option ((List (Int)))) : Nat → (List (Int)) → (List (Int)) → Int → Option ((List (Int)))
  | 0, _, _, _ => none
  | k + 1, x0, x3, x4 =>
    if (decide (x4 < (x0.length : Int))) = true then
      if 0 ≤ x4 ∧ x4 < (x0.length : Int) then (if 0 ≤ x4 ∧ x4 < (x3.length : Int) then (laws_toIntS.l0 n K k x0 (x3.set x4.toNat (x0.getD x4.toNat (0 : Int))) (IntKind.wrap .i64 (x4 + (1 : Int)))) else none) else none
    else
      K x3
def laws_toIntS.F (n : Nat) (x0 : List (Int)) : Option ((List (Int))) :=
  if 0 ≤ (x0.length : Int) ∧ (x0.length : Int) ≤ (x0.length : Int) ∧ (x0.length : Int) ≤ 4398046511104 then (laws_toIntS.l0 n (fun y1 =>
    some y1) n x0 (List.replicate ((x0.length : Int).toNat) (0 : Int)) (0 : Int)) else none

/-- loop.example/g01158/laws.toMaze -/
def laws_toMaze.F (n : Nat) (x0_0 : Int) (x0_1 : List (Int × Int × Int)) (x0_2 : List (Int)) : Option (Int × (List (Int × Int × Int)) × (List (Int))) :=
  (laws_toIntA3S.F n x0_1).bind fun r1 =>
  (laws_toIntS.F n x0_2).bind fun r2 =>
  some (x0_0, r1, r2)

/-- loop.example/g01158/spec.l1In -/
def spec_l1In.F (n : Nat) (x0 : Int) (x1 : Int) (x2 : Int) : Option (Bool) :=
  if (decide (x0 ≥ x1)) = true then
    some (decide (x0 ≤ x2))
  else
    some false

/-- loop.example/g01158/spec.l2Set -/
def spec_l2Set.F (n : Nat) (x0 : Int) : Option (Bool) :=
  (spec_l1In.F n x0 (0 : Int) (63 : Int)).bind fun r1 =>
  some r1

/-- loop.example/g01158/spec.l2Before -/
def spec_l2Before.F (n : Nat) (x0_0 : Int) (x0_1 : Int) (x0_2 : Int) (x1_0 : Int) (x1_1 : Int) (x1_2 : Int) : Option (Bool) :=
  if (!decide (x0_0 = x1_0)) = true then
    some (decide (x0_0 < x1_0))
  else
    if (!decide (x0_1 = x1_1)) = true then
      some (decide (x0_1 < x1_1))
    else
      if (!decide (x0_2 = x1_2)) = true then
        some (decide (x0_2 < x1_2))
      else
        some false

/-- loop.example/g01158/spec.l2Maze -/
def spec_l2Maze.l0 (n : Nat) (K : Int → (List (Int × Int × Int)) → (List (Int)) → Option (Bool)) : Nat → Int → (List (Int × Int × Int)) → (List (Int)) → Int → Option (Bool)
  | 0, _, _, _, _ => none
  | k + 1, x1_0, x1_1, x1_2, x3 =>
    if (decide (x3 < (x1_1.length : Int))) = true then
      if 0 ≤ x3 ∧ x3 < (x1_1.length : Int) then ((spec_l1In.F n ((x1_1.getD x3.toNat ((0 : Int), (0 : Int), (0 : Int))).1) (0 : Int) (IntKind.wrap .i64 (x1_0 - (1 : Int)))).bind fun r2 =>
      if (!r2) = true then
        some false
      else
        (spec_l1In.F n ((x1_1.getD x3.toNat ((0 : Int), (0 : Int), (0 : Int))).2.1) (IntKind.wrap .i64 (((x1_1.getD x3.toNat ((0 : Int), (0 : Int), (0 : Int))).1) + (1 : Int))) (IntKind.wrap .i64 (x1_0 - (1 : Int)))).bind fun r3 =>
        if (!r3) = true then
          some false
        else
          (spec_l2Set.F n ((x1_1.getD x3.toNat ((0 : Int), (0 : Int), (0 : Int))).2.2)).bind fun r4 =>
          if (!r4) = true then
            some false
          else
            if (decide (x3 > (0 : Int))) = true then
              if 0 ≤ (IntKind.wrap .i64 (x3 - (1 : Int))) ∧ (IntKind.wrap .i64 (x3 - (1 : Int))) < (x1_1.length : Int) then ((spec_l2Before.F n ((x1_1.getD ((IntKind.wrap .i64 (x3 - (1 : Int))).toNat) ((0 : Int), (0 : Int), (0 : Int))).1) ((x1_1.getD ((IntKind.wrap .i64 (x3 - (1 : Int))).toNat) ((0 : Int), (0 : Int), (0 : Int))).2.1) ((x1_1.getD ((IntKind.wrap .i64 (x3 - (1 : Int))).toNat) ((0 : Int), (0 : Int), (0 : Int))).2.2) ((x1_1.getD x3.toNat ((0 : Int), (0 : Int), (0 : Int))).1) ((x1_1.getD x3.toNat ((0 : Int), (0 : Int), (0 : Int))).2.1) ((x1_1.getD x3.toNat ((0 : Int), (0 : Int), (0 : Int))).2.2)).bind fun r5 =>
              if (!r5) = true then
                some false
              else
                spec_l2Maze.l0 n K k x1_0 x1_1 x1_2 (IntKind.wrap .i64 (x3 + (1 : Int)))) else none
            else
              spec_l2Maze.l0 n K k x1_0 x1_1 x1_2 (IntKind.wrap .i64 (x3 + (1 : Int)))) else none
    else
      K x1_0 x1_1 x1_2
def spec_l2Maze.l2 (n : Nat) (K : Unit → Option (Bool)) : Nat → Int → (List (Int × Int × Int)) → (List (Int)) → Int → Option (Bool)
  | 0, _, _, _, _ => none
  | k + 1, x1_0, x1_1, x1_2, x5 =>
    if (decide (x5 < x1_0)) = true then
      if 0 ≤ x5 ∧ x5 < (x1_2.length : Int) then ((spec_l2Set.F n (x1_2.getD x5.toNat (0 : Int))).bind fun r9 =>
      if (!r9) = true then
        some false
      else
        spec_l2Maze.l2 n K k x1_0 x1_1 x1_2 (IntKind.wrap .i64 (x5 + (1 : Int)))) else none
    else
      K ()
def spec_l2Maze.F (n : Nat) (x0_0 : Int) (x0_1 : List (Int × Int × Int)) (x0_2 : List (Int)) : Option (Bool) :=
  let j3 : (Int) → (List (Int × Int × Int)) → (List (Int)) → Option (Bool) := fun j3_x1_0 j3_x1_1 j3_x1_2 =>
    spec_l2Maze.l0 n (fun y6 y7 y8 =>
      spec_l2Maze.l2 n (fun _ =>
        some true) n y6 y7 y8 (0 : Int)) n j3_x1_0 j3_x1_1 j3_x1_2 (0 : Int)
  (spec_l1In.F n x0_0 (1 : Int) (12 : Int)).bind fun r1 =>
  if (!r1) = true then
    some false
  else
    if (decide ((x0_1.length : Int) > (30 : Int))) = true then
      some false
    else
      if (!decide ((x0_2.length : Int) = x0_0)) = true then
        some false
      else
        j3 x0_0 x0_1 x0_2

/-- loop.example/g01158/spec.IsMaze -/
def spec_IsMaze.F (n : Nat) (x0_0 : Int) (x0_1 : List (Int × Int × Int)) (x0_2 : List (Int)) : Option (Bool) :=
  (spec_l2Maze.F n x0_0 x0_1 x0_2).bind fun r1 =>
  some r1

/-- loop.example/g01158/impl.within -/
def impl_within.F (n : Nat) (x0 : Int) (x1 : Int) (x2 : Int) : Option (Bool) :=
  if (decide (x1 ≤ x0)) = true then
    some (decide (x0 ≤ x2))
  else
    some false

/-- loop.example/g01158/impl.isSet -/
def impl_isSet.F (n : Nat) (x0 : Int) : Option (Bool) :=
  (impl_within.F n x0 (0 : Int) (63 : Int)).bind fun r1 =>
  some r1

/-- cmp.isNaN[int] -/
def cmp_isNaN_int.F (n : Nat) (x0 : Int) : Option (Bool) :=
  some (!decide (x0 = x0))

/-- cmp.Compare[int] -/
def cmp_Compare_int.F (n : Nat) (x0 : Int) (x1 : Int) : Option (Int) :=
  (cmp_isNaN_int.F n x0).bind fun r1 =>
  (cmp_isNaN_int.F n x1).bind fun r2 =>
  if r1 = true then
    if r2 = true then
      some (0 : Int)
    else
      some (-1 : Int)
  else
    if r2 = true then
      some (1 : Int)
    else
      if (decide (x0 < x1)) = true then
        some (-1 : Int)
      else
        if (decide (x0 > x1)) = true then
          some (1 : Int)
        else
          some (0 : Int)

/-- cmp.Or[int] -/
def cmp_Or_int.l0 (n : Nat) (K : Int → Option (Int)) : Nat → Int → (List (Int)) → Int → Int → Option (Int)
  | 0, _, _, _, _ => none
  | k + 1, x3, x6, x7, x8 =>
    if (decide (x8 < x7)) = true then
      if 0 ≤ x8 ∧ x8 < (x6.length : Int) then (if (!decide ((x6.getD x8.toNat (0 : Int)) = x3)) = true then
        some (x6.getD x8.toNat (0 : Int))
      else
        cmp_Or_int.l0 n K k x3 x6 x7 (IntKind.wrap .i64 (x8 + (1 : Int)))) else none
    else
      K x3
def cmp_Or_int.F (n : Nat) (x0 : List (Int)) : Option (Int) :=
  cmp_Or_int.l0 n (fun y1 =>
    some y1) n (0 : Int) x0 (x0.length : Int) (0 : Int)

/-- loop.example/g01158/impl.compareDoors -/
def impl_compareDoors.F (n : Nat) (x0_0 : Int) (x0_1 : Int) (x0_2 : Int) (x1_0 : Int) (x1_1 : Int) (x1_2 : Int) : Option (Int) :=
  (cmp_Compare_int.F n x0_0 x1_0).bind fun r1 =>
  (cmp_Compare_int.F n x0_1 x1_1).bind fun r2 =>
  (cmp_Compare_int.F n x0_2 x1_2).bind fun r3 =>
  (cmp_Or_int.F n ([r1, r2, r3] : List (Int))).bind fun r4 =>
  some r4

/-- loop.example/g01158/impl.IsMaze$1 -/
def impl_IsMaze_1.F (n : Nat) (x0 : Int) : Option (Bool) :=
  (impl_isSet.F n x0).bind fun r1 =>
  some (!r1)

/-- slices.IndexFunc[[]int,int] -/
def slices_IndexFunc_int_int_cIsMaze_1.l0 (n : Nat) (K : Unit → Option (Int)) : Nat → (List (Int)) → Int → Int → Option (Int)
  | 0, _, _, _ => none
  | k + 1, x0, x7, x8 =>
    if (decide (x8 < x7)) = true then
      if 0 ≤ x8 ∧ x8 < (x0.length : Int) then ((impl_IsMaze_1.F n (x0.getD x8.toNat (0 : Int))).bind fun r1 =>
      if r1 = true then
        some x8
      else
        slices_IndexFunc_int_int_cIsMaze_1.l0 n K k x0 x7 (IntKind.wrap .i64 (x8 + (1 : Int)))) else none
    else
      K ()
def slices_IndexFunc_int_int_cIsMaze_1.F (n : Nat) (x0 : List (Int)) : Option (Int) :=
  slices_IndexFunc_int_int_cIsMaze_1.l0 n (fun _ =>
    some (-1 : Int)) n x0 (x0.length : Int) (0 : Int)

/-- slices.ContainsFunc[[]int,int] -/
def slices_ContainsFunc_int_int_cIsMaze_1.F (n : Nat) (x0 : List (Int)) : Option (Bool) :=
  (slices_IndexFunc_int_int_cIsMaze_1.F n x0).bind fun r1 =>
  some (decide (r1 ≥ (0 : Int)))

/-- loop.example/g01158/impl.IsMaze -/
def impl_IsMaze.l0 (n : Nat) (K : Int → (List (Int × Int × Int)) → (List (Int)) → Option (Bool)) : Nat → Int → (List (Int × Int × Int)) → (List (Int)) → Int → Int → Option (Bool)
  | 0, _, _, _, _, _ => none
  | k + 1, x1_0, x1_1, x1_2, x25, x26 =>
    if (decide (x26 < x25)) = true then
      if 0 ≤ x26 ∧ x26 < (x1_1.length : Int) then (if (decide (((x1_1.getD x26.toNat ((0 : Int), (0 : Int), (0 : Int))).1) < (0 : Int))) = true then
        some false
      else
        if (decide (((x1_1.getD x26.toNat ((0 : Int), (0 : Int), (0 : Int))).1) ≥ ((x1_1.getD x26.toNat ((0 : Int), (0 : Int), (0 : Int))).2.1))) = true then
          some false
        else
          if (decide (((x1_1.getD x26.toNat ((0 : Int), (0 : Int), (0 : Int))).2.1) ≥ x1_0)) = true then
            some false
          else
            (impl_isSet.F n ((x1_1.getD x26.toNat ((0 : Int), (0 : Int), (0 : Int))).2.2)).bind fun r2 =>
            if (!r2) = true then
              some false
            else
              if (decide (x26 > (0 : Int))) = true then
                if 0 ≤ (IntKind.wrap .i64 (x26 - (1 : Int))) ∧ (IntKind.wrap .i64 (x26 - (1 : Int))) < (x1_1.length : Int) then ((impl_compareDoors.F n ((x1_1.getD ((IntKind.wrap .i64 (x26 - (1 : Int))).toNat) ((0 : Int), (0 : Int), (0 : Int))).1) ((x1_1.getD ((IntKind.wrap .i64 (x26 - (1 : Int))).toNat) ((0 : Int), (0 : Int), (0 : Int))).2.1) ((x1_1.getD ((IntKind.wrap .i64 (x26 - (1 : Int))).toNat) ((0 : Int), (0 : Int), (0 : Int))).2.2) ((x1_1.getD x26.toNat ((0 : Int), (0 : Int), (0 : Int))).1) ((x1_1.getD x26.toNat ((0 : Int), (0 : Int), (0 : Int))).2.1) ((x1_1.getD x26.toNat ((0 : Int), (0 : Int), (0 : Int))).2.2)).bind fun r3 =>
                if (decide (r3 ≥ (0 : Int))) = true then
                  some false
                else
                  impl_IsMaze.l0 n K k x1_0 x1_1 x1_2 x25 (IntKind.wrap .i64 (x26 + (1 : Int)))) else none
              else
                impl_IsMaze.l0 n K k x1_0 x1_1 x1_2 x25 (IntKind.wrap .i64 (x26 + (1 : Int)))) else none
    else
      K x1_0 x1_1 x1_2
def impl_IsMaze.F (n : Nat) (x0_0 : Int) (x0_1 : List (Int × Int × Int)) (x0_2 : List (Int)) : Option (Bool) :=
  let j3 : (Int) → (List (Int × Int × Int)) → (List (Int)) → Option (Bool) := fun j3_x1_0 j3_x1_1 j3_x1_2 =>
    impl_IsMaze.l0 n (fun y4 y5 y6 =>
      (slices_ContainsFunc_int_int_cIsMaze_1.F n y6).bind fun r7 =>
      some (!r7)) n j3_x1_0 j3_x1_1 j3_x1_2 (j3_x1_1.length : Int) (0 : Int)
  (impl_within.F n x0_0 (1 : Int) (12 : Int)).bind fun r1 =>
  if (!r1) = true then
    some false
  else
    if (decide ((x0_1.length : Int) > (30 : Int))) = true then
      some false
    else
      if (!decide ((x0_2.length : Int) = x0_0)) = true then
        some false
      else
        j3 x0_0 x0_1 x0_2

/-- loop.example/g01158/laws.eqIntA3 -/
def laws_eqIntA3.F (n : Nat) (x0_0 : Int) (x0_1 : Int) (x0_2 : Int) (x1_0 : Int) (x1_1 : Int) (x1_2 : Int) : Option (Bool) :=
  if (!decide (x0_0 = x1_0)) = true then
    some false
  else
    if (!decide (x0_1 = x1_1)) = true then
      some false
    else
      if (!decide (x0_2 = x1_2)) = true then
        some false
      else
        some true

/-- loop.example/g01158/laws.eqIntA3S -/
def laws_eqIntA3S.l0 (n : Nat) (K : Unit → Option (Bool)) : Nat → (List (Int × Int × Int)) → (List (Int × Int × Int)) → Int → Option (Bool)
  | 0, _, _, _ => none
  | k + 1, x0, x1, x5 =>
    if (decide (x5 < (x0.length : Int))) = true then
      if 0 ≤ x5 ∧ x5 < (x0.length : Int) then (if 0 ≤ x5 ∧ x5 < (x1.length : Int) then ((laws_eqIntA3.F n ((x0.getD x5.toNat ((0 : Int), (0 : Int), (0 : Int))).1) ((x0.getD x5.toNat ((0 : Int), (0 : Int), (0 : Int))).2.1) ((x0.getD x5.toNat ((0 : Int), (0 : Int), (0 : Int))).2.2) ((x1.getD x5.toNat ((0 : Int), (0 : Int), (0 : Int))).1) ((x1.getD x5.toNat ((0 : Int), (0 : Int), (0 : Int))).2.1) ((x1.getD x5.toNat ((0 : Int), (0 : Int), (0 : Int))).2.2)).bind fun r1 =>
      if (!r1) = true then
        some false
      else
        laws_eqIntA3S.l0 n K k x0 x1 (IntKind.wrap .i64 (x5 + (1 : Int)))) else none) else none
    else
      K ()
def laws_eqIntA3S.F (n : Nat) (x0 : List (Int × Int × Int)) (x1 : List (Int × Int × Int)) : Option (Bool) :=
  if (!decide ((x0.length : Int) = (x1.length : Int))) = true then
    some false
  else
    laws_eqIntA3S.l0 n (fun _ =>
      some true) n x0 x1 (0 : Int)

/-- loop.example/g01158/laws.eqIntS -/
def laws_eqIntS.l0 (n : Nat) (K : Unit → Option (Bool)) : Nat → (List (Int)) → (List (Int)) → Int → Option (Bool)
  | 0, _, _, _ => none
  | k + 1, x0, x1, x5 =>
    if (decide (x5 < (x0.length : Int))) = true then
      if 0 ≤ x5 ∧ x5 < (x0.length : Int) then (if 0 ≤ x5 ∧ x5 < (x1.length : Int) then (if (!decide ((x0.getD x5.toNat (0 : Int)) = (x1.getD x5.toNat (0 : Int)))) = true then
        some false
      else
        laws_eqIntS.l0 n K k x0 x1 (IntKind.wrap .i64 (x5 + (1 : Int)))) else none) else none
    else
      K ()
def laws_eqIntS.F (n : Nat) (x0 : List (Int)) (x1 : List (Int)) : Option (Bool) :=
  if (!decide ((x0.length : Int) = (x1.length : Int))) = true then
    some false
  else
    laws_eqIntS.l0 n (fun _ =>
      some true) n x0 x1 (0 : Int)

/-- loop.example/g01158/laws.eqMaze -/
def laws_eqMaze.F (n : Nat) (x0_0 : Int) (x0_1 : List (Int × Int × Int)) (x0_2 : List (Int)) (x1_0 : Int) (x1_1 : List (Int × Int × Int)) (x1_2 : List (Int)) : Option (Bool) :=
  if (!decide (x0_0 = x1_0)) = true then
    some false
  else
    (laws_eqIntA3S.F n x0_1 x1_1).bind fun r1 =>
    if (!r1) = true then
      some false
    else
      (laws_eqIntS.F n x0_2 x1_2).bind fun r2 =>
      if (!r2) = true then
        some false
      else
        some true

/-- loop.example/g01158/laws.FnExactIsMaze -/
def laws_FnExactIsMaze.F (n : Nat) (x0_0 : Int) (x0_1 : List (Int × Int × Int)) (x0_2 : List (Int)) : Option (Bool) :=
  (laws_szMaze.F n x0_0 x0_1 x0_2 (1048576 : Int)).bind fun r1 =>
  if (decide (r1 < (0 : Int))) = true then
    some true
  else
    (laws_toMaze.F n x0_0 x0_1 x0_2).bind fun r2 =>
    (spec_IsMaze.F n r2.1 r2.2.1 r2.2.2).bind fun r3 =>
    (laws_toMaze.F n x0_0 x0_1 x0_2).bind fun r4 =>
    (impl_IsMaze.F n r4.1 r4.2.1 r4.2.2).bind fun r5 =>
    if (!(r5 == r3)) = true then
      some false
    else
      (laws_toMaze.F n x0_0 x0_1 x0_2).bind fun r6 =>
      (laws_eqMaze.F n r4.1 r4.2.1 r4.2.2 r6.1 r6.2.1 r6.2.2).bind fun r7 =>
      if (!r7) = true then
        some false
      else
        some true

/-- loop.example/g01158/spec.l2Node -/
def spec_l2Node.F (n : Nat) (x0_0 : Int) (x0_1 : List (Int × Int × Int)) (x0_2 : List (Int)) (x1 : Int) : Option (Bool) :=
  (spec_l2Maze.F n x0_0 x0_1 x0_2).bind fun r1 =>
  if r1 = true then
    (spec_l1In.F n x1 (0 : Int) (IntKind.wrap .i64 (x0_0 - (1 : Int)))).bind fun r2 =>
    some r2
  else
    some false

/-- loop.example/g01158/spec.l2Joins -/
def spec_l2Joins.F (n : Nat) (x0_0 : Int) (x0_1 : Int) (x0_2 : Int) (x1 : Int) (x2 : Int) : Option (Bool) :=
  if (decide (x0_0 = x1)) = true then
    if (decide (x0_1 = x2)) = true then
      some true
    else
      if (decide (x0_0 = x2)) = true then
        some (decide (x0_1 = x1))
      else
        some false
  else
    if (decide (x0_0 = x2)) = true then
      some (decide (x0_1 = x1))
    else
      some false

/-- loop.example/g01158/spec.l2Has -/
def spec_l2Has.F (n : Nat) (x0 : Int) (x1 : Int) : Option (Bool) :=
  some (decide ((bitAnd .i64 x0 x1) = x1))

/-- loop.example/g01158/spec.l2Open -/
def spec_l2Open.l0 (n : Nat) (K : Unit → Option (Bool)) : Nat → Int → Int → Int → Int → (List (Int × Int × Int)) → (List (Int)) → Int → Option (Bool)
  | 0, _, _, _, _, _, _, _ => none
  | k + 1, x1, x2, x3, x4_0, x4_1, x4_2, x9 =>
    if (decide (x9 < (x4_1.length : Int))) = true then
      if 0 ≤ x9 ∧ x9 < (x4_1.length : Int) then ((spec_l2Joins.F n ((x4_1.getD x9.toNat ((0 : Int), (0 : Int), (0 : Int))).1) ((x4_1.getD x9.toNat ((0 : Int), (0 : Int), (0 : Int))).2.1) ((x4_1.getD x9.toNat ((0 : Int), (0 : Int), (0 : Int))).2.2) x1 x2).bind fun r1 =>
      if r1 = true then
        if 0 ≤ x9 ∧ x9 < (x4_1.length : Int) then ((spec_l2Has.F n x3 ((x4_1.getD x9.toNat ((0 : Int), (0 : Int), (0 : Int))).2.2)).bind fun r2 =>
        if r2 = true then
          some true
        else
          spec_l2Open.l0 n K k x1 x2 x3 x4_0 x4_1 x4_2 (IntKind.wrap .i64 (x9 + (1 : Int)))) else none
      else
        spec_l2Open.l0 n K k x1 x2 x3 x4_0 x4_1 x4_2 (IntKind.wrap .i64 (x9 + (1 : Int)))) else none
    else
      K ()
def spec_l2Open.F (n : Nat) (x0_0 : Int) (x0_1 : List (Int × Int × Int)) (x0_2 : List (Int)) (x1 : Int) (x2 : Int) (x3 : Int) : Option (Bool) :=
  spec_l2Open.l0 n (fun _ =>
    some false) n x1 x2 x3 x0_0 x0_1 x0_2 (0 : Int)

/-- loop.example/g01158/spec.IsOpenTo -/
def spec_IsOpenTo.F (n : Nat) (x0_0 : Int) (x0_1 : List (Int × Int × Int)) (x0_2 : List (Int)) (x1 : Int) (x2 : Int) (x3 : Int) : Option (Bool × Bool) :=
  (spec_l2Node.F n x0_0 x0_1 x0_2 x1).bind fun r1 =>
  if (!r1) = true then
    some (false, false)
  else
    (spec_l2Node.F n x0_0 x0_1 x0_2 x2).bind fun r2 =>
    if (!r2) = true then
      some (false, false)
    else
      (spec_l2Set.F n x3).bind fun r3 =>
      if (!r3) = true then
        some (false, false)
      else
        (spec_l2Open.F n x0_0 x0_1 x0_2 x1 x2 x3).bind fun r4 =>
        some (r4, true)

/-- loop.example/g01158/impl.isNode$1 -/
def impl_isNode_1_c0.F (n : Nat) (x0 : Int) (x1_0 : Int) (x1_1 : List (Int × Int × Int)) (x1_2 : List (Int)) : Option (Bool) :=
  (impl_within.F n x0 (0 : Int) (IntKind.wrap .i64 (x1_0 - (1 : Int)))).bind fun r1 =>
  some (!r1)

/-- slices.IndexFunc[[]int,int] -/
def slices_IndexFunc_int_int_cisNode_1.l0 (n : Nat) (K : Unit → Option (Int)) : Nat → (List (Int)) → Int → (List (Int × Int × Int)) → (List (Int)) → Int → Int → Option (Int)
  | 0, _, _, _, _, _, _ => none
  | k + 1, x0, x1_0, x1_1, x1_2, x7, x8 =>
    if (decide (x8 < x7)) = true then
      if 0 ≤ x8 ∧ x8 < (x0.length : Int) then ((impl_isNode_1_c0.F n (x0.getD x8.toNat (0 : Int)) x1_0 x1_1 x1_2).bind fun r1 =>
      if r1 = true then
        some x8
      else
        slices_IndexFunc_int_int_cisNode_1.l0 n K k x0 x1_0 x1_1 x1_2 x7 (IntKind.wrap .i64 (x8 + (1 : Int)))) else none
    else
      K ()
def slices_IndexFunc_int_int_cisNode_1.F (n : Nat) (x0 : List (Int)) (x1_0 : Int) (x1_1 : List (Int × Int × Int)) (x1_2 : List (Int)) : Option (Int) :=
  slices_IndexFunc_int_int_cisNode_1.l0 n (fun _ =>
    some (-1 : Int)) n x0 x1_0 x1_1 x1_2 (x0.length : Int) (0 : Int)

/-- slices.ContainsFunc[[]int,int] -/
def slices_ContainsFunc_int_int_cisNode_1.F (n : Nat) (x0 : List (Int)) (x1_0 : Int) (x1_1 : List (Int × Int × Int)) (x1_2 : List (Int)) : Option (Bool) :=
  (slices_IndexFunc_int_int_cisNode_1.F n x0 x1_0 x1_1 x1_2).bind fun r1 =>
  some (decide (r1 ≥ (0 : Int)))

/-- loop.example/g01158/impl.isNode -/
def impl_isNode.F (n : Nat) (x0_0 : Int) (x0_1 : List (Int × Int × Int)) (x0_2 : List (Int)) (x1 : List (Int)) : Option (Bool) :=
  (impl_IsMaze.F n x0_0 x0_1 x0_2).bind fun r1 =>
  if r1 = true then
    (slices_ContainsFunc_int_int_cisNode_1.F n x1 x0_0 x0_1 x0_2).bind fun r2 =>
    some (!r2)
  else
    some false

/-- loop.example/g01158/impl.has -/
def impl_has.F (n : Nat) (x0 : Int) (x1 : Int) : Option (Bool) :=
  some (decide ((bitClr .i64 x1 x0) = (0 : Int)))

/-- loop.example/g01158/impl.steps -/
def impl_steps.l0 (n : Nat) (K : Int → Option (Int)) : Nat → Int → Int → Int → (List (Int × Int × Int)) → Int → Int → Option (Int)
  | 0, _, _, _, _, _, _ => none
  | k + 1, x1, x2, x7, x11, x12, x13 =>
    if (decide (x13 < x12)) = true then
      if 0 ≤ x13 ∧ x13 < (x11.length : Int) then ((impl_has.F n x2 ((x11.getD x13.toNat ((0 : Int), (0 : Int), (0 : Int))).2.2)).bind fun r1 =>
      if (!r1) = true then
        impl_steps.l0 n K k x1 x2 x7 x11 x12 (IntKind.wrap .i64 (x13 + (1 : Int)))
      else
        if (decide (((x11.getD x13.toNat ((0 : Int), (0 : Int), (0 : Int))).1) = x1)) = true then
          if ((x11.getD x13.toNat ((0 : Int), (0 : Int), (0 : Int))).2.1) < 0 then none else (if (decide (((x11.getD x13.toNat ((0 : Int), (0 : Int), (0 : Int))).2.1) = x1)) = true then
            if ((x11.getD x13.toNat ((0 : Int), (0 : Int), (0 : Int))).1) < 0 then none else (impl_steps.l0 n K k x1 x2 (bitOr .i64 (bitOr .i64 x7 (shL .i64 1 ((x11.getD x13.toNat ((0 : Int), (0 : Int), (0 : Int))).2.1))) (shL .i64 1 ((x11.getD x13.toNat ((0 : Int), (0 : Int), (0 : Int))).1))) x11 x12 (IntKind.wrap .i64 (x13 + (1 : Int))))
          else
            impl_steps.l0 n K k x1 x2 (bitOr .i64 x7 (shL .i64 1 ((x11.getD x13.toNat ((0 : Int), (0 : Int), (0 : Int))).2.1))) x11 x12 (IntKind.wrap .i64 (x13 + (1 : Int))))
        else
          if (decide (((x11.getD x13.toNat ((0 : Int), (0 : Int), (0 : Int))).2.1) = x1)) = true then
            if ((x11.getD x13.toNat ((0 : Int), (0 : Int), (0 : Int))).1) < 0 then none else (impl_steps.l0 n K k x1 x2 (bitOr .i64 x7 (shL .i64 1 ((x11.getD x13.toNat ((0 : Int), (0 : Int), (0 : Int))).1))) x11 x12 (IntKind.wrap .i64 (x13 + (1 : Int))))
          else
            impl_steps.l0 n K k x1 x2 x7 x11 x12 (IntKind.wrap .i64 (x13 + (1 : Int)))) else none
    else
      K x7
def impl_steps.F (n : Nat) (x0_0 : Int) (x0_1 : List (Int × Int × Int)) (x0_2 : List (Int)) (x1 : Int) (x2 : Int) : Option (Int) :=
  impl_steps.l0 n (fun y2 =>
    some y2) n x1 x2 (0 : Int) x0_1 (x0_1.length : Int) (0 : Int)

/-- loop.example/g01158/impl.IsOpenTo -/
def impl_IsOpenTo.F (n : Nat) (x0_0 : Int) (x0_1 : List (Int × Int × Int)) (x0_2 : List (Int)) (x1 : Int) (x2 : Int) (x3 : Int) : Option (Bool × Bool) :=
  (impl_isNode.F n x0_0 x0_1 x0_2 ([x1, x2] : List (Int))).bind fun r1 =>
  if (!r1) = true then
    some (false, false)
  else
    (impl_isSet.F n x3).bind fun r2 =>
    if (!r2) = true then
      some (false, false)
    else
      (impl_steps.F n x0_0 x0_1 x0_2 x1 x3).bind fun r3 =>
      if x2 < 0 then none else (some ((decide ((bitAnd .i64 (shR .i64 r3 x2) 1) = (1 : Int))), true))

/-- loop.example/g01158/laws.FnExactIsOpenTo -/
def laws_FnExactIsOpenTo.F (n : Nat) (x0_0 : Int) (x0_1 : List (Int × Int × Int)) (x0_2 : List (Int)) (x1 : Int) (x2 : Int) (x3 : Int) : Option (Bool) :=
  (laws_szMaze.F n x0_0 x0_1 x0_2 (1048576 : Int)).bind fun r1 =>
  if (decide (r1 < (0 : Int))) = true then
    some true
  else
    (laws_toMaze.F n x0_0 x0_1 x0_2).bind fun r2 =>
    (spec_IsOpenTo.F n r2.1 r2.2.1 r2.2.2 x1 x2 x3).bind fun r3 =>
    (laws_toMaze.F n x0_0 x0_1 x0_2).bind fun r4 =>
    (impl_IsOpenTo.F n r4.1 r4.2.1 r4.2.2 x1 x2 x3).bind fun r5 =>
    if (!(r5.1 == r3.1)) = true then
      some false
    else
      if (!(r5.2 == r3.2)) = true then
        some false
      else
        (laws_toMaze.F n x0_0 x0_1 x0_2).bind fun r6 =>
        (laws_eqMaze.F n r4.1 r4.2.1 r4.2.2 r6.1 r6.2.1 r6.2.2).bind fun r7 =>
        if (!r7) = true then
          some false
        else
          some true

/-- loop.example/g01158/spec.DoorsAt -/
def spec_DoorsAt.l0 (n : Nat) (K : (List (Int)) → Option ((List (Int)) × Bool)) : Nat → Int → Int → (List (Int × Int × Int)) → (List (Int)) → (List (Int)) → Int → Option ((List (Int)) × Bool)
  | 0, _, _, _, _, _, _ => none
  | k + 1, x1, x2_0, x2_1, x2_2, x6, x7 =>
    if (decide (x7 < (x2_1.length : Int))) = true then
      if 0 ≤ x7 ∧ x7 < (x2_1.length : Int) then (if (decide (((x2_1.getD x7.toNat ((0 : Int), (0 : Int), (0 : Int))).1) = x1)) = true then
        if x6.length + ([x7] : List (Int)).length ≤ 4398046511104 then (spec_DoorsAt.l0 n K k x1 x2_0 x2_1 x2_2 (x6 ++ ([x7] : List (Int))) (IntKind.wrap .i64 (x7 + (1 : Int)))) else none
      else
        if 0 ≤ x7 ∧ x7 < (x2_1.length : Int) then (if (decide (((x2_1.getD x7.toNat ((0 : Int), (0 : Int), (0 : Int))).2.1) = x1)) = true then
          if x6.length + ([x7] : List (Int)).length ≤ 4398046511104 then (spec_DoorsAt.l0 n K k x1 x2_0 x2_1 x2_2 (x6 ++ ([x7] : List (Int))) (IntKind.wrap .i64 (x7 + (1 : Int)))) else none
        else
          spec_DoorsAt.l0 n K k x1 x2_0 x2_1 x2_2 x6 (IntKind.wrap .i64 (x7 + (1 : Int)))) else none) else none
    else
      K x6
def spec_DoorsAt.F (n : Nat) (x0_0 : Int) (x0_1 : List (Int × Int × Int)) (x0_2 : List (Int)) (x1 : Int) : Option ((List (Int)) × Bool) :=
  (spec_l2Node.F n x0_0 x0_1 x0_2 x1).bind fun r1 =>
  if (!r1) = true then
    some (([] : List (Int)), false)
  else
    spec_DoorsAt.l0 n (fun y2 =>
      some (y2, true)) n x1 x0_0 x0_1 x0_2 ([] : List (Int)) (0 : Int)

/-- loop.example/g01158/impl.DoorsAt -/
def impl_DoorsAt.l0 (n : Nat) (K : (List (Int)) → Option ((List (Int)) × Bool)) : Nat → Int → (List (Int)) → (List (Int × Int × Int)) → Int → Int → Option ((List (Int)) × Bool)
  | 0, _, _, _, _, _ => none
  | k + 1, x1, x6, x16, x17, x18 =>
    if (decide (x18 < x17)) = true then
      if 0 ≤ x18 ∧ x18 < (x16.length : Int) then (if (decide (((x16.getD x18.toNat ((0 : Int), (0 : Int), (0 : Int))).1) = x1)) = true then
        if x6.length + ([x18] : List (Int)).length ≤ 4398046511104 then (impl_DoorsAt.l0 n K k x1 (x6 ++ ([x18] : List (Int))) x16 x17 (IntKind.wrap .i64 (x18 + (1 : Int)))) else none
      else
        if (decide (((x16.getD x18.toNat ((0 : Int), (0 : Int), (0 : Int))).2.1) = x1)) = true then
          if x6.length + ([x18] : List (Int)).length ≤ 4398046511104 then (impl_DoorsAt.l0 n K k x1 (x6 ++ ([x18] : List (Int))) x16 x17 (IntKind.wrap .i64 (x18 + (1 : Int)))) else none
        else
          impl_DoorsAt.l0 n K k x1 x6 x16 x17 (IntKind.wrap .i64 (x18 + (1 : Int)))) else none
    else
      K x6
def impl_DoorsAt.F (n : Nat) (x0_0 : Int) (x0_1 : List (Int × Int × Int)) (x0_2 : List (Int)) (x1 : Int) : Option ((List (Int)) × Bool) :=
  (impl_isNode.F n x0_0 x0_1 x0_2 ([x1] : List (Int))).bind fun r1 =>
  if (!r1) = true then
    some (([] : List (Int)), false)
  else
    impl_DoorsAt.l0 n (fun y2 =>
      some (y2, true)) n x1 ([] : List (Int)) x0_1 (x0_1.length : Int) (0 : Int)

/-- loop.example/g01158/laws.markIntA3S -/
def laws_markIntA3S.l0 (n : Nat) (K : (List (Int × Int × Int)) → Int → Option (Int × (List (Int × Int × Int)))) : Nat → (List (Int × Int × Int)) → Int → Int → Option (Int × (List (Int × Int × Int)))
  | 0, _, _, _ => none
  | k + 1, x0, x1, x5 =>
    if (decide (x5 < (x0.length : Int))) = true then
      if 0 ≤ x5 ∧ x5 < (x0.length : Int) then (if 0 ≤ x5 ∧ x5 < ((x0.set x5.toNat (x1, (x0.getD x5.toNat ((0 : Int), (0 : Int), (0 : Int))).2.1, (x0.getD x5.toNat ((0 : Int), (0 : Int), (0 : Int))).2.2)).length : Int) then (if 0 ≤ x5 ∧ x5 < (((x0.set x5.toNat (x1, (x0.getD x5.toNat ((0 : Int), (0 : Int), (0 : Int))).2.1, (x0.getD x5.toNat ((0 : Int), (0 : Int), (0 : Int))).2.2)).set x5.toNat (((x0.set x5.toNat (x1, (x0.getD x5.toNat ((0 : Int), (0 : Int), (0 : Int))).2.1, (x0.getD x5.toNat ((0 : Int), (0 : Int), (0 : Int))).2.2)).getD x5.toNat ((0 : Int), (0 : Int), (0 : Int))).1, IntKind.wrap .i64 (x1 + (1 : Int)), ((x0.set x5.toNat (x1, (x0.getD x5.toNat ((0 : Int), (0 : Int), (0 : Int))).2.1, (x0.getD x5.toNat ((0 : Int), (0 : Int), (0 : Int))).2.2)).getD x5.toNat ((0 : Int), (0 : Int), (0 : Int))).2.2)).length : Int) then (laws_markIntA3S.l0 n K k (((x0.set x5.toNat (x1, (x0.getD x5.toNat ((0 : Int), (0 : Int), (0 : Int))).2.1, (x0.getD x5.toNat ((0 : Int), (0 : Int), (0 : Int))).2.2)).set x5.toNat (((x0.set x5.toNat (x1, (x0.getD x5.toNat ((0 : Int), (0 : Int), (0 : Int))).2.1, (x0.getD x5.toNat ((0 : Int), (0 : Int), (0 : Int))).2.2)).getD x5.toNat ((0 : Int), (0 : Int), (0 : Int))).1, IntKind.wrap .i64 (x1 + (1 : Int)), ((x0.set x5.toNat (x1, (x0.getD x5.toNat ((0 : Int), (0 : Int), (0 : Int))).2.1, (x0.getD x5.toNat ((0 : Int), (0 : Int), (0 : Int))).2.2)).getD x5.toNat ((0 : Int), (0 : Int), (0 : Int))).2.2)).set x5.toNat ((((x0.set x5.toNat (x1, (x0.getD x5.toNat ((0 : Int), (0 : Int), (0 : Int))).2.1, (x0.getD x5.toNat ((0 : Int), (0 : Int), (0 : Int))).2.2)).set x5.toNat (((x0.set x5.toNat (x1, (x0.getD x5.toNat ((0 : Int), (0 : Int), (0 : Int))).2.1, (x0.getD x5.toNat ((0 : Int), (0 : Int), (0 : Int))).2.2)).getD x5.toNat ((0 : Int), (0 : Int), (0 : Int))).1, IntKind.wrap .i64 (x1 + (1 : Int)), ((x0.set x5.toNat (x1, (x0.getD x5.toNat ((0 : Int), (0 : Int), (0 : Int))).2.1, (x0.getD x5.toNat ((0 : Int), (0 : Int), (0 : Int))).2.2)).getD x5.toNat ((0 : Int), (0 : Int), (0 : Int))).2.2)).getD x5.toNat ((0 : Int), (0 : Int), (0 : Int))).1, (((x0.set x5.toNat (x1, (x0.getD x5.toNat ((0 : Int), (0 : Int), (0 : Int))).2.1, (x0.getD x5.toNat ((0 : Int), (0 : Int), (0 : Int))).2.2)).set x5.toNat (((x0.set x5.toNat (x1, (x0.getD x5.toNat ((0 : Int), (0 : Int), (0 : Int))).2.1, (x0.getD x5.toNat ((0 : Int), (0 : Int), (0 : Int))).2.2)).getD x5.toNat ((0 : Int), (0 : Int), (0 : Int))).1, IntKind.wrap .i64 (x1 + (1 : Int)), ((x0.set x5.toNat (x1, (x0.getD x5.toNat ((0 : Int), (0 : Int), (0 : Int))).2.1, (x0.getD x5.toNat ((0 : Int), (0 : Int), (0 : Int))).2.2)).getD x5.toNat ((0 : Int), (0 : Int), (0 : Int))).2.2)).getD x5.toNat ((0 : Int), (0 : Int), (0 : Int))).2.1, IntKind.wrap .i64 ((IntKind.wrap .i64 (x1 + (1 : Int))) + (1 : Int)))) (IntKind.wrap .i64 ((IntKind.wrap .i64 ((IntKind.wrap .i64 (x1 + (1 : Int))) + (1 : Int))) + (1 : Int))) (IntKind.wrap .i64 (x5 + (1 : Int)))) else none) else none) else none
    else
      K x0 x1
def laws_markIntA3S.F (n : Nat) (x0 : List (Int × Int × Int)) (x1 : Int) : Option (Int × (List (Int × Int × Int))) :=
  laws_markIntA3S.l0 n (fun y1 y2 =>
    some (y2, y1)) n x0 x1 (0 : Int)

/-- loop.example/g01158/laws.markIntS -/
def laws_markIntS.l0 (n : Nat) (K : (List (Int)) → Int → Option (Int × (List (Int)))) : Nat → (List (Int)) → Int → Int → Option (Int × (List (Int)))
  | 0, _, _, _ => none
  | k + 1, x0, x1, x5 =>
    if (decide (x5 < (x0.length : Int))) = true then
      if 0 ≤ x5 ∧ x5 < (x0.length : Int) then (laws_markIntS.l0 n K k (x0.set x5.toNat x1) (IntKind.wrap .i64 (x1 + (1 : Int))) (IntKind.wrap .i64 (x5 + (1 : Int)))) else none
    else
      K x0 x1
def laws_markIntS.F (n : Nat) (x0 : List (Int)) (x1 : Int) : Option (Int × (List (Int))) :=
  laws_markIntS.l0 n (fun y1 y2 =>
    some (y2, y1)) n x0 x1 (0 : Int)

/-- loop.example/g01158/laws.markMaze -/
def laws_markMaze.F (n : Nat) (x0_0 : Int) (x0_1 : List (Int × Int × Int)) (x0_2 : List (Int)) (x1 : Int) : Option (Int × Int × (List (Int × Int × Int)) × (List (Int))) :=
  (laws_markIntA3S.F n x0_1 x1).bind fun r1 =>
  (laws_markIntS.F n x0_2 r1.1).bind fun r2 =>
  some (r2.1, x0_0, r1.2, r2.2)

/-- loop.example/g01158/laws.heldIntS -/
def laws_heldIntS.l0 (n : Nat) (K : Int → Option (Int)) : Nat → (List (Int)) → Int → Int → Option (Int)
  | 0, _, _, _ => none
  | k + 1, x0, x1, x5 =>
    if (decide (x5 < (x0.length : Int))) = true then
      if 0 ≤ x5 ∧ x5 < (x0.length : Int) then (if (!decide ((x0.getD x5.toNat (0 : Int)) = x1)) = true then
        some (-1 : Int)
      else
        laws_heldIntS.l0 n K k x0 (IntKind.wrap .i64 (x1 + (1 : Int))) (IntKind.wrap .i64 (x5 + (1 : Int)))) else none
    else
      K x1
def laws_heldIntS.F (n : Nat) (x0 : List (Int)) (x1 : Int) : Option (Int) :=
  laws_heldIntS.l0 n (fun y1 =>
    some y1) n x0 x1 (0 : Int)

/-- loop.example/g01158/laws.FnExactDoorsAt -/
def laws_FnExactDoorsAt.F (n : Nat) (x0_0 : Int) (x0_1 : List (Int × Int × Int)) (x0_2 : List (Int)) (x1 : Int) : Option (Bool) :=
  (laws_szMaze.F n x0_0 x0_1 x0_2 (1048576 : Int)).bind fun r1 =>
  if (decide (r1 < (0 : Int))) = true then
    some true
  else
    (laws_toMaze.F n x0_0 x0_1 x0_2).bind fun r2 =>
    (spec_DoorsAt.F n r2.1 r2.2.1 r2.2.2 x1).bind fun r3 =>
    (laws_toMaze.F n x0_0 x0_1 x0_2).bind fun r4 =>
    (impl_DoorsAt.F n r4.1 r4.2.1 r4.2.2 x1).bind fun r5 =>
    let j10 : (Int) → (Int) → (List (Int × Int × Int)) → (List (Int)) → (List (Int)) → (Bool) → (Int) → (List (Int × Int × Int)) → (List (Int)) → (List (Int)) → (Bool) → Option (Bool) := fun j10_x1 j10_x2_0 j10_x2_1 j10_x2_2 j10_x6 j10_x7 j10_x8_0 j10_x8_1 j10_x8_2 j10_x9 j10_x10 =>
      (laws_toMaze.F n j10_x2_0 j10_x2_1 j10_x2_2).bind fun r7 =>
      (laws_eqMaze.F n j10_x8_0 j10_x8_1 j10_x8_2 r7.1 r7.2.1 r7.2.2).bind fun r8 =>
      if (!r8) = true then
        some false
      else
        (laws_markMaze.F n j10_x8_0 j10_x8_1 j10_x8_2 (1 : Int)).bind fun r9 =>
        let j16 : (Int) → (Int) → (List (Int × Int × Int)) → (List (Int)) → (List (Int)) → (Bool) → (List (Int)) → Option (Bool) := fun j16_x1 j16_x2_0 j16_x2_1 j16_x2_2 j16_x6 j16_x7 j16_x9 =>
          (laws_markIntS.F n j16_x9 (1 : Int)).bind fun r11 =>
          (laws_heldIntS.F n r11.2 (1 : Int)).bind fun r12 =>
          if (decide (r12 < (0 : Int))) = true then
            some false
          else
            if (!decide (r12 = r11.1)) = true then
              some false
            else
              (laws_toMaze.F n j16_x2_0 j16_x2_1 j16_x2_2).bind fun r13 =>
              (impl_DoorsAt.F n r13.1 r13.2.1 r13.2.2 j16_x1).bind fun r14 =>
              (laws_eqIntS.F n r14.1 j16_x6).bind fun r15 =>
              if (!r15) = true then
                some false
              else
                if (!(r14.2 == j16_x7)) = true then
                  some false
                else
                  (laws_heldIntS.F n r11.2 (1 : Int)).bind fun r16 =>
                  if (decide (r16 < (0 : Int))) = true then
                    some false
                  else
                    if (!decide (r16 = r11.1)) = true then
                      some false
                    else
                      some true
        if (decide (r9.1 < (0 : Int))) = true then
          some false
        else
          (laws_eqIntS.F n j10_x9 j10_x6).bind fun r10 =>
          if (!r10) = true then
            some false
          else
            if (!(j10_x10 == j10_x7)) = true then
              some false
            else
              j16 j10_x1 j10_x2_0 j10_x2_1 j10_x2_2 j10_x6 j10_x7 j10_x9
    (laws_eqIntS.F n r5.1 r3.1).bind fun r6 =>
    if (!r6) = true then
      some false
    else
      if (!(r5.2 == r3.2)) = true then
        some false
      else
        j10 x1 x0_0 x0_1 x0_2 r3.1 r3.2 r4.1 r4.2.1 r4.2.2 r5.1 r5.2

/-- loop.example/g01158/spec.l2Taken -/
def spec_l2Taken.l0 (n : Nat) (K : (List (Int)) → Option ((List (Int)) × Bool)) : Nat → (List (Int)) → Int → (List (Int × Int × Int)) → (List (Int)) → (List (Int)) → Int → Int → Option ((List (Int)) × Bool)
  | 0, _, _, _, _, _, _, _ => none
  | k + 1, x1, x2_0, x2_1, x2_2, x6, x7, x8 =>
    if (decide (x8 < (x1.length : Int))) = true then
      if 0 ≤ x8 ∧ x8 < (x1.length : Int) then ((spec_l1In.F n (x1.getD x8.toNat (0 : Int)) (0 : Int) (IntKind.wrap .i64 (x2_0 - (1 : Int)))).bind fun r1 =>
      if (!r1) = true then
        some (([] : List (Int)), false)
      else
        if (decide (x8 = (0 : Int))) = true then
          if 0 ≤ (0 : Int) ∧ (0 : Int) < (x1.length : Int) then (if (!decide ((x1.getD 0 (0 : Int)) = (0 : Int))) = true then
            some (([] : List (Int)), false)
          else
            if (decide (x8 > (0 : Int))) = true then
              if 0 ≤ (IntKind.wrap .i64 (x8 - (1 : Int))) ∧ (IntKind.wrap .i64 (x8 - (1 : Int))) < (x1.length : Int) then (if 0 ≤ x8 ∧ x8 < (x1.length : Int) then ((spec_l2Open.F n x2_0 x2_1 x2_2 (x1.getD ((IntKind.wrap .i64 (x8 - (1 : Int))).toNat) (0 : Int)) (x1.getD x8.toNat (0 : Int)) x7).bind fun r2 =>
              if (!r2) = true then
                some (([] : List (Int)), false)
              else
                if 0 ≤ x8 ∧ x8 < (x1.length : Int) then (if 0 ≤ (x1.getD x8.toNat (0 : Int)) ∧ (x1.getD x8.toNat (0 : Int)) < (x2_2.length : Int) then (if x6.length + ([bitOr .i64 x7 (x2_2.getD ((x1.getD x8.toNat (0 : Int)).toNat) (0 : Int))] : List (Int)).length ≤ 4398046511104 then (spec_l2Taken.l0 n K k x1 x2_0 x2_1 x2_2 (x6 ++ ([bitOr .i64 x7 (x2_2.getD ((x1.getD x8.toNat (0 : Int)).toNat) (0 : Int))] : List (Int))) (bitOr .i64 x7 (x2_2.getD ((x1.getD x8.toNat (0 : Int)).toNat) (0 : Int))) (IntKind.wrap .i64 (x8 + (1 : Int)))) else none) else none) else none) else none) else none
            else
              if 0 ≤ x8 ∧ x8 < (x1.length : Int) then (if 0 ≤ (x1.getD x8.toNat (0 : Int)) ∧ (x1.getD x8.toNat (0 : Int)) < (x2_2.length : Int) then (if x6.length + ([bitOr .i64 x7 (x2_2.getD ((x1.getD x8.toNat (0 : Int)).toNat) (0 : Int))] : List (Int)).length ≤ 4398046511104 then (spec_l2Taken.l0 n K k x1 x2_0 x2_1 x2_2 (x6 ++ ([bitOr .i64 x7 (x2_2.getD ((x1.getD x8.toNat (0 : Int)).toNat) (0 : Int))] : List (Int))) (bitOr .i64 x7 (x2_2.getD ((x1.getD x8.toNat (0 : Int)).toNat) (0 : Int))) (IntKind.wrap .i64 (x8 + (1 : Int)))) else none) else none) else none) else none
        else
          if (decide (x8 > (0 : Int))) = true then
            if 0 ≤ (IntKind.wrap .i64 (x8 - (1 : Int))) ∧ (IntKind.wrap .i64 (x8 - (1 : Int))) < (x1.length : Int) then (if 0 ≤ x8 ∧ x8 < (x1.length : Int) then ((spec_l2Open.F n x2_0 x2_1 x2_2 (x1.getD ((IntKind.wrap .i64 (x8 - (1 : Int))).toNat) (0 : Int)) (x1.getD x8.toNat (0 : Int)) x7).bind fun r3 =>
            if (!r3) = true then
              some (([] : List (Int)), false)
            else
              if 0 ≤ x8 ∧ x8 < (x1.length : Int) then (if 0 ≤ (x1.getD x8.toNat (0 : Int)) ∧ (x1.getD x8.toNat (0 : Int)) < (x2_2.length : Int) then (if x6.length + ([bitOr .i64 x7 (x2_2.getD ((x1.getD x8.toNat (0 : Int)).toNat) (0 : Int))] : List (Int)).length ≤ 4398046511104 then (spec_l2Taken.l0 n K k x1 x2_0 x2_1 x2_2 (x6 ++ ([bitOr .i64 x7 (x2_2.getD ((x1.getD x8.toNat (0 : Int)).toNat) (0 : Int))] : List (Int))) (bitOr .i64 x7 (x2_2.getD ((x1.getD x8.toNat (0 : Int)).toNat) (0 : Int))) (IntKind.wrap .i64 (x8 + (1 : Int)))) else none) else none) else none) else none) else none
          else
            if 0 ≤ x8 ∧ x8 < (x1.length : Int) then (if 0 ≤ (x1.getD x8.toNat (0 : Int)) ∧ (x1.getD x8.toNat (0 : Int)) < (x2_2.length : Int) then (if x6.length + ([bitOr .i64 x7 (x2_2.getD ((x1.getD x8.toNat (0 : Int)).toNat) (0 : Int))] : List (Int)).length ≤ 4398046511104 then (spec_l2Taken.l0 n K k x1 x2_0 x2_1 x2_2 (x6 ++ ([bitOr .i64 x7 (x2_2.getD ((x1.getD x8.toNat (0 : Int)).toNat) (0 : Int))] : List (Int))) (bitOr .i64 x7 (x2_2.getD ((x1.getD x8.toNat (0 : Int)).toNat) (0 : Int))) (IntKind.wrap .i64 (x8 + (1 : Int)))) else none) else none) else none) else none
    else
      K x6
def spec_l2Taken.F (n : Nat) (x0_0 : Int) (x0_1 : List (Int × Int × Int)) (x0_2 : List (Int)) (x1 : List (Int)) : Option ((List (Int)) × Bool) :=
  spec_l2Taken.l0 n (fun y4 =>
    some (y4, (decide ((y4.length : Int) > (0 : Int))))) n x1 x0_0 x0_1 x0_2 ([] : List (Int)) (0 : Int) (0 : Int)

/-- loop.example/g01158/spec.IsKeyWalk -/
def spec_IsKeyWalk.F (n : Nat) (x0_0 : Int) (x0_1 : List (Int × Int × Int)) (x0_2 : List (Int)) (x1 : List (Int)) : Option (Bool × Bool) :=
  (spec_l2Maze.F n x0_0 x0_1 x0_2).bind fun r1 =>
  if (!r1) = true then
    some (false, false)
  else
    (spec_l2Taken.F n x0_0 x0_1 x0_2 x1).bind fun r2 =>
    some (r2.2, true)

/-- loop.example/g01158/impl.taken -/
def impl_taken.l0 (n : Nat) (K : (List (Int)) → Option ((List (Int)) × Bool)) : Nat → (List (Int)) → Int → (List (Int × Int × Int)) → (List (Int)) → (List (Int)) → Int → Int → Int → Option ((List (Int)) × Bool)
  | 0, _, _, _, _, _, _, _, _ => none
  | k + 1, x1, x2_0, x2_1, x2_2, x6, x7, x21, x22 =>
    if (decide (x22 < x21)) = true then
      if 0 ≤ x22 ∧ x22 < (x1.length : Int) then ((impl_within.F n (x1.getD x22.toNat (0 : Int)) (0 : Int) (IntKind.wrap .i64 (x2_0 - (1 : Int)))).bind fun r1 =>
      if (!r1) = true then
        some (([] : List (Int)), false)
      else
        if (decide (x22 > (0 : Int))) = true then
          if 0 ≤ (IntKind.wrap .i64 (x22 - (1 : Int))) ∧ (IntKind.wrap .i64 (x22 - (1 : Int))) < (x1.length : Int) then ((impl_steps.F n x2_0 x2_1 x2_2 (x1.getD ((IntKind.wrap .i64 (x22 - (1 : Int))).toNat) (0 : Int)) x7).bind fun r2 =>
          if (x1.getD x22.toNat (0 : Int)) < 0 then none else (if (decide ((bitAnd .i64 (shR .i64 r2 (x1.getD x22.toNat (0 : Int))) 1) = (0 : Int))) = true then
            some (([] : List (Int)), false)
          else
            if 0 ≤ (x1.getD x22.toNat (0 : Int)) ∧ (x1.getD x22.toNat (0 : Int)) < (x2_2.length : Int) then (if x6.length + ([bitOr .i64 x7 (x2_2.getD ((x1.getD x22.toNat (0 : Int)).toNat) (0 : Int))] : List (Int)).length ≤ 4398046511104 then (impl_taken.l0 n K k x1 x2_0 x2_1 x2_2 (x6 ++ ([bitOr .i64 x7 (x2_2.getD ((x1.getD x22.toNat (0 : Int)).toNat) (0 : Int))] : List (Int))) (bitOr .i64 x7 (x2_2.getD ((x1.getD x22.toNat (0 : Int)).toNat) (0 : Int))) x21 (IntKind.wrap .i64 (x22 + (1 : Int)))) else none) else none)) else none
        else
          if 0 ≤ (x1.getD x22.toNat (0 : Int)) ∧ (x1.getD x22.toNat (0 : Int)) < (x2_2.length : Int) then (if x6.length + ([bitOr .i64 x7 (x2_2.getD ((x1.getD x22.toNat (0 : Int)).toNat) (0 : Int))] : List (Int)).length ≤ 4398046511104 then (impl_taken.l0 n K k x1 x2_0 x2_1 x2_2 (x6 ++ ([bitOr .i64 x7 (x2_2.getD ((x1.getD x22.toNat (0 : Int)).toNat) (0 : Int))] : List (Int))) (bitOr .i64 x7 (x2_2.getD ((x1.getD x22.toNat (0 : Int)).toNat) (0 : Int))) x21 (IntKind.wrap .i64 (x22 + (1 : Int)))) else none) else none) else none
    else
      K x6
def impl_taken.F (n : Nat) (x0_0 : Int) (x0_1 : List (Int × Int × Int)) (x0_2 : List (Int)) (x1 : List (Int)) : Option ((List (Int)) × Bool) :=
  let j3 : (List (Int)) → (Int) → (List (Int × Int × Int)) → (List (Int)) → Option ((List (Int)) × Bool) := fun j3_x1 j3_x2_0 j3_x2_1 j3_x2_2 =>
    impl_taken.l0 n (fun y3 =>
      some (y3, true)) n j3_x1 j3_x2_0 j3_x2_1 j3_x2_2 ([] : List (Int)) (0 : Int) (j3_x1.length : Int) (0 : Int)
  if (decide ((x1.length : Int) = (0 : Int))) = true then
    some (([] : List (Int)), false)
  else
    if 0 ≤ (0 : Int) ∧ (0 : Int) < (x1.length : Int) then (if (!decide ((x1.getD 0 (0 : Int)) = (0 : Int))) = true then
      some (([] : List (Int)), false)
    else
      j3 x1 x0_0 x0_1 x0_2) else none

/-- loop.example/g01158/impl.IsKeyWalk -/
def impl_IsKeyWalk.F (n : Nat) (x0_0 : Int) (x0_1 : List (Int × Int × Int)) (x0_2 : List (Int)) (x1 : List (Int)) : Option (Bool × Bool) :=
  (impl_IsMaze.F n x0_0 x0_1 x0_2).bind fun r1 =>
  if (!r1) = true then
    some (false, false)
  else
    (impl_taken.F n x0_0 x0_1 x0_2 x1).bind fun r2 =>
    some (r2.2, true)

/-- loop.example/g01158/laws.FnExactIsKeyWalk -/
def laws_FnExactIsKeyWalk.F (n : Nat) (x0_0 : Int) (x0_1 : List (Int × Int × Int)) (x0_2 : List (Int)) (x1 : List (Int)) : Option (Bool) :=
  if (decide ((x1.length : Int) > (1048576 : Int))) = true then
    some true
  else
    (laws_szMaze.F n x0_0 x0_1 x0_2 (1048576 : Int)).bind fun r1 =>
    if (decide (r1 < (0 : Int))) = true then
      some true
    else
      (laws_toMaze.F n x0_0 x0_1 x0_2).bind fun r2 =>
      (laws_toIntS.F n x1).bind fun r3 =>
      (spec_IsKeyWalk.F n r2.1 r2.2.1 r2.2.2 r3).bind fun r4 =>
      (laws_toMaze.F n x0_0 x0_1 x0_2).bind fun r5 =>
      (laws_toIntS.F n x1).bind fun r6 =>
      (impl_IsKeyWalk.F n r5.1 r5.2.1 r5.2.2 r6).bind fun r7 =>
      if (!(r7.1 == r4.1)) = true then
        some false
      else
        if (!(r7.2 == r4.2)) = true then
          some false
        else
          (laws_toMaze.F n x0_0 x0_1 x0_2).bind fun r8 =>
          (laws_eqMaze.F n r5.1 r5.2.1 r5.2.2 r8.1 r8.2.1 r8.2.2).bind fun r9 =>
          if (!r9) = true then
            some false
          else
            (laws_toIntS.F n x1).bind fun r10 =>
            (laws_eqIntS.F n r6 r10).bind fun r11 =>
            if (!r11) = true then
              some false
            else
              some true

/-- loop.example/g01158/spec.TakenOn -/
def spec_TakenOn.F (n : Nat) (x0_0 : Int) (x0_1 : List (Int × Int × Int)) (x0_2 : List (Int)) (x1 : List (Int)) : Option ((List (Int)) × Bool) :=
  (spec_l2Maze.F n x0_0 x0_1 x0_2).bind fun r1 =>
  if (!r1) = true then
    some (([] : List (Int)), false)
  else
    (spec_l2Taken.F n x0_0 x0_1 x0_2 x1).bind fun r2 =>
    some (r2.1, r2.2)

/-- loop.example/g01158/impl.TakenOn -/
def impl_TakenOn.F (n : Nat) (x0_0 : Int) (x0_1 : List (Int × Int × Int)) (x0_2 : List (Int)) (x1 : List (Int)) : Option ((List (Int)) × Bool) :=
  (impl_IsMaze.F n x0_0 x0_1 x0_2).bind fun r1 =>
  if (!r1) = true then
    some (([] : List (Int)), false)
  else
    (impl_taken.F n x0_0 x0_1 x0_2 x1).bind fun r2 =>
    some (r2.1, r2.2)

/-- loop.example/g01158/laws.FnExactTakenOn -/
def laws_FnExactTakenOn.F (n : Nat) (x0_0 : Int) (x0_1 : List (Int × Int × Int)) (x0_2 : List (Int)) (x1 : List (Int)) : Option (Bool) :=
  if (decide ((x1.length : Int) > (1048576 : Int))) = true then
    some true
  else
    (laws_szMaze.F n x0_0 x0_1 x0_2 (1048576 : Int)).bind fun r1 =>
    if (decide (r1 < (0 : Int))) = true then
      some true
    else
      (laws_toMaze.F n x0_0 x0_1 x0_2).bind fun r2 =>
      (laws_toIntS.F n x1).bind fun r3 =>
      (spec_TakenOn.F n r2.1 r2.2.1 r2.2.2 r3).bind fun r4 =>
      (laws_toMaze.F n x0_0 x0_1 x0_2).bind fun r5 =>
      (laws_toIntS.F n x1).bind fun r6 =>
      (impl_TakenOn.F n r5.1 r5.2.1 r5.2.2 r6).bind fun r7 =>
      let j13 : (List (Int)) → (Int) → (List (Int × Int × Int)) → (List (Int)) → (List (Int)) → (Bool) → (Int) → (List (Int × Int × Int)) → (List (Int)) → (List (Int)) → (List (Int)) → (Bool) → Option (Bool) := fun j13_x1 j13_x2_0 j13_x2_1 j13_x2_2 j13_x6 j13_x7 j13_x8_0 j13_x8_1 j13_x8_2 j13_x9 j13_x10 j13_x11 =>
        (laws_toMaze.F n j13_x2_0 j13_x2_1 j13_x2_2).bind fun r9 =>
        (laws_eqMaze.F n j13_x8_0 j13_x8_1 j13_x8_2 r9.1 r9.2.1 r9.2.2).bind fun r10 =>
        if (!r10) = true then
          some false
        else
          (laws_toIntS.F n j13_x1).bind fun r11 =>
          (laws_eqIntS.F n j13_x9 r11).bind fun r12 =>
          if (!r12) = true then
            some false
          else
            (laws_markMaze.F n j13_x8_0 j13_x8_1 j13_x8_2 (1 : Int)).bind fun r13 =>
            (laws_markIntS.F n j13_x9 r13.1).bind fun r14 =>
            let j22 : (List (Int)) → (Int) → (List (Int × Int × Int)) → (List (Int)) → (List (Int)) → (Bool) → (List (Int)) → Option (Bool) := fun j22_x1 j22_x2_0 j22_x2_1 j22_x2_2 j22_x6 j22_x7 j22_x10 =>
              (laws_markIntS.F n j22_x10 (1 : Int)).bind fun r16 =>
              (laws_heldIntS.F n r16.2 (1 : Int)).bind fun r17 =>
              if (decide (r17 < (0 : Int))) = true then
                some false
              else
                if (!decide (r17 = r16.1)) = true then
                  some false
                else
                  (laws_toMaze.F n j22_x2_0 j22_x2_1 j22_x2_2).bind fun r18 =>
                  (laws_toIntS.F n j22_x1).bind fun r19 =>
                  (impl_TakenOn.F n r18.1 r18.2.1 r18.2.2 r19).bind fun r20 =>
                  (laws_eqIntS.F n r20.1 j22_x6).bind fun r21 =>
                  if (!r21) = true then
                    some false
                  else
                    if (!(r20.2 == j22_x7)) = true then
                      some false
                    else
                      (laws_heldIntS.F n r16.2 (1 : Int)).bind fun r22 =>
                      if (decide (r22 < (0 : Int))) = true then
                        some false
                      else
                        if (!decide (r22 = r16.1)) = true then
                          some false
                        else
                          some true
            if (decide (r14.1 < (0 : Int))) = true then
              some false
            else
              (laws_eqIntS.F n j13_x10 j13_x6).bind fun r15 =>
              if (!r15) = true then
                some false
              else
                if (!(j13_x11 == j13_x7)) = true then
                  some false
                else
                  j22 j13_x1 j13_x2_0 j13_x2_1 j13_x2_2 j13_x6 j13_x7 j13_x10
      (laws_eqIntS.F n r7.1 r4.1).bind fun r8 =>
      if (!r8) = true then
        some false
      else
        if (!(r7.2 == r4.2)) = true then
          some false
        else
          j13 x1 x0_0 x0_1 x0_2 r4.1 r4.2 r5.1 r5.2.1 r5.2.2 r6 r7.1 r7.2

/-- loop.example/g01158/spec.l1Own -/
def spec_l1Own.F (n : Nat) (x0 : List (Int)) : Option ((List (Int))) :=
  if ([] : List (Int)).length + x0.length ≤ 4398046511104 then (some (([] : List (Int)) ++ x0)) else none

/-- loop.example/g01158/spec.l2Own -/
def spec_l2Own.F (n : Nat) (x0_0 : Int) (x0_1 : List (Int × Int × Int)) (x0_2 : List (Int)) : Option (Int × (List (Int × Int × Int)) × (List (Int))) :=
  if ([] : List (Int × Int × Int)).length + x0_1.length ≤ 4398046511104 then ((spec_l1Own.F n x0_2).bind fun r1 =>
  some (x0_0, ([] : List (Int × Int × Int)) ++ x0_1, r1)) else none

/-- loop.example/g01158/spec.PutKeys -/
def spec_PutKeys.F (n : Nat) (x0_0 : Int) (x0_1 : List (Int × Int × Int)) (x0_2 : List (Int)) (x1 : Int) (x2 : Int) : Option (Int × (List (Int × Int × Int)) × (List (Int)) × Bool) :=
  (spec_l2Node.F n x0_0 x0_1 x0_2 x1).bind fun r1 =>
  if (!r1) = true then
    some ((0 : Int), ([] : List (Int × Int × Int)), ([] : List (Int)), false)
  else
    (spec_l2Set.F n x2).bind fun r2 =>
    if (!r2) = true then
      some ((0 : Int), ([] : List (Int × Int × Int)), ([] : List (Int)), false)
    else
      (spec_l2Own.F n x0_0 x0_1 x0_2).bind fun r3 =>
      if 0 ≤ x1 ∧ x1 < (r3.2.2.length : Int) then (some (r3.1, r3.2.1, r3.2.2.set x1.toNat x2, true)) else none

/-- slices.Clone[[][3]int,[3]int] -/
def slices_Clone_3_int_3_int.F (n : Nat) (x0 : List (Int × Int × Int)) : Option ((List (Int × Int × Int))) :=
  if ([] : List (Int × Int × Int)).length + x0.length ≤ 4398046511104 then (some (([] : List (Int × Int × Int)) ++ x0)) else none

/-- slices.Clone[[]int,int] -/
def slices_Clone_int_int.F (n : Nat) (x0 : List (Int)) : Option ((List (Int))) :=
  if ([] : List (Int)).length + x0.length ≤ 4398046511104 then (some (([] : List (Int)) ++ x0)) else none

/-- loop.example/g01158/impl.own -/
def impl_own.F (n : Nat) (x0_0 : Int) (x0_1 : List (Int × Int × Int)) (x0_2 : List (Int)) : Option (Int × (List (Int × Int × Int)) × (List (Int))) :=
  (slices_Clone_3_int_3_int.F n x0_1).bind fun r1 =>
  (slices_Clone_int_int.F n x0_2).bind fun r2 =>
  some (x0_0, r1, r2)

/-- loop.example/g01158/impl.put -/
def impl_put.F (n : Nat) (x0_0 : Int) (x0_1 : List (Int × Int × Int)) (x0_2 : List (Int)) (x1 : Int) (x2 : Int) : Option (Int × (List (Int × Int × Int)) × (List (Int))) :=
  (impl_own.F n x0_0 x0_1 x0_2).bind fun r1 =>
  if 0 ≤ x1 ∧ x1 < (r1.2.2.length : Int) then (some (r1.1, r1.2.1, r1.2.2.set x1.toNat x2)) else none

/-- loop.example/g01158/impl.PutKeys -/
def impl_PutKeys.F (n : Nat) (x0_0 : Int) (x0_1 : List (Int × Int × Int)) (x0_2 : List (Int)) (x1 : Int) (x2 : Int) : Option (Int × (List (Int × Int × Int)) × (List (Int)) × Bool) :=
  (impl_isNode.F n x0_0 x0_1 x0_2 ([x1] : List (Int))).bind fun r1 =>
  if (!r1) = true then
    some ((0 : Int), ([] : List (Int × Int × Int)), ([] : List (Int)), false)
  else
    (impl_isSet.F n x2).bind fun r2 =>
    if (!r2) = true then
      some ((0 : Int), ([] : List (Int × Int × Int)), ([] : List (Int)), false)
    else
      (impl_put.F n x0_0 x0_1 x0_2 x1 x2).bind fun r3 =>
      some (r3.1, r3.2.1, r3.2.2, true)

/-- loop.example/g01158/laws.heldIntA3S -/
def laws_heldIntA3S.l0 (n : Nat) (K : Int → Option (Int)) : Nat → (List (Int × Int × Int)) → Int → Int → Option (Int)
  | 0, _, _, _ => none
  | k + 1, x0, x1, x5 =>
    if (decide (x5 < (x0.length : Int))) = true then
      if 0 ≤ x5 ∧ x5 < (x0.length : Int) then (if (!decide (((x0.getD x5.toNat ((0 : Int), (0 : Int), (0 : Int))).1) = x1)) = true then
        some (-1 : Int)
      else
        if 0 ≤ x5 ∧ x5 < (x0.length : Int) then (if (!decide (((x0.getD x5.toNat ((0 : Int), (0 : Int), (0 : Int))).2.1) = (IntKind.wrap .i64 (x1 + (1 : Int))))) = true then
          some (-1 : Int)
        else
          if 0 ≤ x5 ∧ x5 < (x0.length : Int) then (if (!decide (((x0.getD x5.toNat ((0 : Int), (0 : Int), (0 : Int))).2.2) = (IntKind.wrap .i64 ((IntKind.wrap .i64 (x1 + (1 : Int))) + (1 : Int))))) = true then
            some (-1 : Int)
          else
            laws_heldIntA3S.l0 n K k x0 (IntKind.wrap .i64 ((IntKind.wrap .i64 ((IntKind.wrap .i64 (x1 + (1 : Int))) + (1 : Int))) + (1 : Int))) (IntKind.wrap .i64 (x5 + (1 : Int)))) else none) else none) else none
    else
      K x1
def laws_heldIntA3S.F (n : Nat) (x0 : List (Int × Int × Int)) (x1 : Int) : Option (Int) :=
  laws_heldIntA3S.l0 n (fun y1 =>
    some y1) n x0 x1 (0 : Int)

/-- loop.example/g01158/laws.heldMaze -/
def laws_heldMaze.F (n : Nat) (x0_0 : Int) (x0_1 : List (Int × Int × Int)) (x0_2 : List (Int)) (x1 : Int) : Option (Int) :=
  (laws_heldIntA3S.F n x0_1 x1).bind fun r1 =>
  if (decide (r1 < (0 : Int))) = true then
    some (-1 : Int)
  else
    (laws_heldIntS.F n x0_2 r1).bind fun r2 =>
    if (decide (r2 < (0 : Int))) = true then
      some (-1 : Int)
    else
      some r2

/-- loop.example/g01158/laws.FnExactPutKeys -/
def laws_FnExactPutKeys.F (n : Nat) (x0_0 : Int) (x0_1 : List (Int × Int × Int)) (x0_2 : List (Int)) (x1 : Int) (x2 : Int) : Option (Bool) :=
  (laws_szMaze.F n x0_0 x0_1 x0_2 (1048576 : Int)).bind fun r1 =>
  if (decide (r1 < (0 : Int))) = true then
    some true
  else
    (laws_toMaze.F n x0_0 x0_1 x0_2).bind fun r2 =>
    (spec_PutKeys.F n r2.1 r2.2.1 r2.2.2 x1 x2).bind fun r3 =>
    (laws_toMaze.F n x0_0 x0_1 x0_2).bind fun r4 =>
    (impl_PutKeys.F n r4.1 r4.2.1 r4.2.2 x1 x2).bind fun r5 =>
    let j10 : (Int) → (Int) → (Int) → (List (Int × Int × Int)) → (List (Int)) → (Int) → (List (Int × Int × Int)) → (List (Int)) → (Bool) → (Int) → (List (Int × Int × Int)) → (List (Int)) → (Int) → (List (Int × Int × Int)) → (List (Int)) → (Bool) → Option (Bool) := fun j10_x1 j10_x2 j10_x3_0 j10_x3_1 j10_x3_2 j10_x8_0 j10_x8_1 j10_x8_2 j10_x9 j10_x10_0 j10_x10_1 j10_x10_2 j10_x11_0 j10_x11_1 j10_x11_2 j10_x12 =>
      (laws_toMaze.F n j10_x3_0 j10_x3_1 j10_x3_2).bind fun r7 =>
      (laws_eqMaze.F n j10_x10_0 j10_x10_1 j10_x10_2 r7.1 r7.2.1 r7.2.2).bind fun r8 =>
      if (!r8) = true then
        some false
      else
        (laws_markMaze.F n j10_x10_0 j10_x10_1 j10_x10_2 (1 : Int)).bind fun r9 =>
        let j16 : (Int) → (Int) → (Int) → (List (Int × Int × Int)) → (List (Int)) → (Int) → (List (Int × Int × Int)) → (List (Int)) → (Bool) → (Int) → (List (Int × Int × Int)) → (List (Int)) → Option (Bool) := fun j16_x1 j16_x2 j16_x3_0 j16_x3_1 j16_x3_2 j16_x8_0 j16_x8_1 j16_x8_2 j16_x9 j16_x11_0 j16_x11_1 j16_x11_2 =>
          (laws_markMaze.F n j16_x11_0 j16_x11_1 j16_x11_2 (1 : Int)).bind fun r11 =>
          (laws_heldMaze.F n j16_x11_0 r11.2.2.1 r11.2.2.2 (1 : Int)).bind fun r12 =>
          if (decide (r12 < (0 : Int))) = true then
            some false
          else
            if (!decide (r12 = r11.1)) = true then
              some false
            else
              (laws_toMaze.F n j16_x3_0 j16_x3_1 j16_x3_2).bind fun r13 =>
              (impl_PutKeys.F n r13.1 r13.2.1 r13.2.2 j16_x1 j16_x2).bind fun r14 =>
              (laws_eqMaze.F n r14.1 r14.2.1 r14.2.2.1 j16_x8_0 j16_x8_1 j16_x8_2).bind fun r15 =>
              if (!r15) = true then
                some false
              else
                if (!(r14.2.2.2 == j16_x9)) = true then
                  some false
                else
                  (laws_heldMaze.F n j16_x11_0 r11.2.2.1 r11.2.2.2 (1 : Int)).bind fun r16 =>
                  if (decide (r16 < (0 : Int))) = true then
                    some false
                  else
                    if (!decide (r16 = r11.1)) = true then
                      some false
                    else
                      some true
        if (decide (r9.1 < (0 : Int))) = true then
          some false
        else
          (laws_eqMaze.F n j10_x11_0 j10_x11_1 j10_x11_2 j10_x8_0 j10_x8_1 j10_x8_2).bind fun r10 =>
          if (!r10) = true then
            some false
          else
            if (!(j10_x12 == j10_x9)) = true then
              some false
            else
              j16 j10_x1 j10_x2 j10_x3_0 j10_x3_1 j10_x3_2 j10_x8_0 j10_x8_1 j10_x8_2 j10_x9 j10_x11_0 j10_x11_1 j10_x11_2
    (laws_eqMaze.F n r5.1 r5.2.1 r5.2.2.1 r3.1 r3.2.1 r3.2.2.1).bind fun r6 =>
    if (!r6) = true then
      some false
    else
      if (!(r5.2.2.2 == r3.2.2.2)) = true then
        some false
      else
        j10 x1 x2 x0_0 x0_1 x0_2 r3.1 r3.2.1 r3.2.2.1 r3.2.2.2 r4.1 r4.2.1 r4.2.2 r5.1 r5.2.1 r5.2.2.1 r5.2.2.2

/-- loop.example/g01158/spec.l3Colour -/
def spec_l3Colour.l0 (n : Nat) (K : Int → (List (Int × Int × Int)) → (List (Int)) → Int → (List (Int × Int × Int)) → (List (Int)) → Option (Int × (List (Int × Int × Int)) × (List (Int)))) : Nat → Int → Int → (List (Int × Int × Int)) → (List (Int)) → Int → (List (Int × Int × Int)) → (List (Int)) → Int → (List (Int × Int × Int)) → (List (Int)) → Int → Option (Int × (List (Int × Int × Int)) × (List (Int)))
  | 0, _, _, _, _, _, _, _, _, _, _, _ => none
  | k + 1, x1, x2_0, x2_1, x2_2, x4_0, x4_1, x4_2, x5_0, x5_1, x5_2, x6 =>
    if (decide (x6 < x2_0)) = true then
      if 0 ≤ x6 ∧ x6 < (x2_2.length : Int) then (if x1 < 0 then none else (if 0 ≤ x6 ∧ x6 < (x5_2.length : Int) then (spec_l3Colour.l0 n K k x1 x2_0 x2_1 x2_2 x4_0 x4_1 x4_2 x5_0 x5_1 (x5_2.set x6.toNat (bitClr .i64 (x2_2.getD x6.toNat (0 : Int)) (shL .i64 1 x1))) (IntKind.wrap .i64 (x6 + (1 : Int)))) else none)) else none
    else
      K x4_0 x4_1 x4_2 x5_0 x5_1 x5_2
def spec_l3Colour.F (n : Nat) (x0_0 : Int) (x0_1 : List (Int × Int × Int)) (x0_2 : List (Int)) (x1 : Int) : Option (Int × (List (Int × Int × Int)) × (List (Int))) :=
  (spec_l2Own.F n x0_0 x0_1 x0_2).bind fun r1 =>
  spec_l3Colour.l0 n (fun y2 y3 y4 y5 y6 y7 =>
    some (y5, y6, y7)) n x1 x0_0 x0_1 x0_2 (0 : Int) ([] : List (Int × Int × Int)) ([] : List (Int)) r1.1 r1.2.1 r1.2.2 (0 : Int)

/-- loop.example/g01158/spec.WithoutColour -/
def spec_WithoutColour.F (n : Nat) (x0_0 : Int) (x0_1 : List (Int × Int × Int)) (x0_2 : List (Int)) (x1 : Int) : Option (Int × (List (Int × Int × Int)) × (List (Int)) × Bool) :=
  (spec_l2Maze.F n x0_0 x0_1 x0_2).bind fun r1 =>
  if (!r1) = true then
    some ((0 : Int), ([] : List (Int × Int × Int)), ([] : List (Int)), false)
  else
    (spec_l1In.F n x1 (0 : Int) (5 : Int)).bind fun r2 =>
    if (!r2) = true then
      some ((0 : Int), ([] : List (Int × Int × Int)), ([] : List (Int)), false)
    else
      (spec_l3Colour.F n x0_0 x0_1 x0_2 x1).bind fun r3 =>
      some (r3.1, r3.2.1, r3.2.2, true)

/-- loop.example/g01158/impl.withoutColour -/
def impl_withoutColour.l0 (n : Nat) (K : Int → (List (Int × Int × Int)) → (List (Int)) → Int → (List (Int × Int × Int)) → (List (Int)) → Option (Int × (List (Int × Int × Int)) × (List (Int)))) : Nat → Int → Int → (List (Int × Int × Int)) → (List (Int)) → Int → (List (Int × Int × Int)) → (List (Int)) → Int → Int → Option (Int × (List (Int × Int × Int)) × (List (Int)))
  | 0, _, _, _, _, _, _, _, _, _ => none
  | k + 1, x1, x4_0, x4_1, x4_2, x5_0, x5_1, x5_2, x11, x12 =>
    if (decide (x12 < x11)) = true then
      if 0 ≤ x12 ∧ x12 < (x5_2.length : Int) then (if x1 < 0 then none else (if 0 ≤ x12 ∧ x12 < (x5_2.length : Int) then (impl_withoutColour.l0 n K k x1 x4_0 x4_1 x4_2 x5_0 x5_1 (x5_2.set x12.toNat (bitClr .i64 (x5_2.getD x12.toNat (0 : Int)) (shL .i64 1 x1))) x11 (IntKind.wrap .i64 (x12 + (1 : Int)))) else none)) else none
    else
      K x4_0 x4_1 x4_2 x5_0 x5_1 x5_2
def impl_withoutColour.F (n : Nat) (x0_0 : Int) (x0_1 : List (Int × Int × Int)) (x0_2 : List (Int)) (x1 : Int) : Option (Int × (List (Int × Int × Int)) × (List (Int))) :=
  (impl_own.F n x0_0 x0_1 x0_2).bind fun r1 =>
  impl_withoutColour.l0 n (fun y2 y3 y4 y5 y6 y7 =>
    some (y5, y6, y7)) n x1 (0 : Int) ([] : List (Int × Int × Int)) ([] : List (Int)) r1.1 r1.2.1 r1.2.2 (r1.2.2.length : Int) (0 : Int)

/-- loop.example/g01158/impl.WithoutColour -/
def impl_WithoutColour.F (n : Nat) (x0_0 : Int) (x0_1 : List (Int × Int × Int)) (x0_2 : List (Int)) (x1 : Int) : Option (Int × (List (Int × Int × Int)) × (List (Int)) × Bool) :=
  (impl_IsMaze.F n x0_0 x0_1 x0_2).bind fun r1 =>
  if (!r1) = true then
    some ((0 : Int), ([] : List (Int × Int × Int)), ([] : List (Int)), false)
  else
    (impl_within.F n x1 (0 : Int) (5 : Int)).bind fun r2 =>
    if (!r2) = true then
      some ((0 : Int), ([] : List (Int × Int × Int)), ([] : List (Int)), false)
    else
      (impl_withoutColour.F n x0_0 x0_1 x0_2 x1).bind fun r3 =>
      some (r3.1, r3.2.1, r3.2.2, true)

/-- loop.example/g01158/laws.FnExactWithoutColour -/
def laws_FnExactWithoutColour.F (n : Nat) (x0_0 : Int) (x0_1 : List (Int × Int × Int)) (x0_2 : List (Int)) (x1 : Int) : Option (Bool) :=
  (laws_szMaze.F n x0_0 x0_1 x0_2 (1048576 : Int)).bind fun r1 =>
  if (decide (r1 < (0 : Int))) = true then
    some true
  else
    (laws_toMaze.F n x0_0 x0_1 x0_2).bind fun r2 =>
    (spec_WithoutColour.F n r2.1 r2.2.1 r2.2.2 x1).bind fun r3 =>
    (laws_toMaze.F n x0_0 x0_1 x0_2).bind fun r4 =>
    (impl_WithoutColour.F n r4.1 r4.2.1 r4.2.2 x1).bind fun r5 =>
    let j10 : (Int) → (Int) → (List (Int × Int × Int)) → (List (Int)) → (Int) → (List (Int × Int × Int)) → (List (Int)) → (Bool) → (Int) → (List (Int × Int × Int)) → (List (Int)) → (Int) → (List (Int × Int × Int)) → (List (Int)) → (Bool) → Option (Bool) := fun j10_x1 j10_x2_0 j10_x2_1 j10_x2_2 j10_x6_0 j10_x6_1 j10_x6_2 j10_x7 j10_x8_0 j10_x8_1 j10_x8_2 j10_x9_0 j10_x9_1 j10_x9_2 j10_x10 =>
      (laws_toMaze.F n j10_x2_0 j10_x2_1 j10_x2_2).bind fun r7 =>
      (laws_eqMaze.F n j10_x8_0 j10_x8_1 j10_x8_2 r7.1 r7.2.1 r7.2.2).bind fun r8 =>
      if (!r8) = true then
        some false
      else
        (laws_markMaze.F n j10_x8_0 j10_x8_1 j10_x8_2 (1 : Int)).bind fun r9 =>
        let j16 : (Int) → (Int) → (List (Int × Int × Int)) → (List (Int)) → (Int) → (List (Int × Int × Int)) → (List (Int)) → (Bool) → (Int) → (List (Int × Int × Int)) → (List (Int)) → Option (Bool) := fun j16_x1 j16_x2_0 j16_x2_1 j16_x2_2 j16_x6_0 j16_x6_1 j16_x6_2 j16_x7 j16_x9_0 j16_x9_1 j16_x9_2 =>
          (laws_markMaze.F n j16_x9_0 j16_x9_1 j16_x9_2 (1 : Int)).bind fun r11 =>
          (laws_heldMaze.F n j16_x9_0 r11.2.2.1 r11.2.2.2 (1 : Int)).bind fun r12 =>
          if (decide (r12 < (0 : Int))) = true then
            some false
          else
            if (!decide (r12 = r11.1)) = true then
              some false
            else
              (laws_toMaze.F n j16_x2_0 j16_x2_1 j16_x2_2).bind fun r13 =>
              (impl_WithoutColour.F n r13.1 r13.2.1 r13.2.2 j16_x1).bind fun r14 =>
              (laws_eqMaze.F n r14.1 r14.2.1 r14.2.2.1 j16_x6_0 j16_x6_1 j16_x6_2).bind fun r15 =>
              if (!r15) = true then
                some false
              else
                if (!(r14.2.2.2 == j16_x7)) = true then
                  some false
                else
                  (laws_heldMaze.F n j16_x9_0 r11.2.2.1 r11.2.2.2 (1 : Int)).bind fun r16 =>
                  if (decide (r16 < (0 : Int))) = true then
                    some false
                  else
                    if (!decide (r16 = r11.1)) = true then
                      some false
                    else
                      some true
        if (decide (r9.1 < (0 : Int))) = true then
          some false
        else
          (laws_eqMaze.F n j10_x9_0 j10_x9_1 j10_x9_2 j10_x6_0 j10_x6_1 j10_x6_2).bind fun r10 =>
          if (!r10) = true then
            some false
          else
            if (!(j10_x10 == j10_x7)) = true then
              some false
            else
              j16 j10_x1 j10_x2_0 j10_x2_1 j10_x2_2 j10_x6_0 j10_x6_1 j10_x6_2 j10_x7 j10_x9_0 j10_x9_1 j10_x9_2
    (laws_eqMaze.F n r5.1 r5.2.1 r5.2.2.1 r3.1 r3.2.1 r3.2.2.1).bind fun r6 =>
    if (!r6) = true then
      some false
    else
      if (!(r5.2.2.2 == r3.2.2.2)) = true then
        some false
      else
        j10 x1 x0_0 x0_1 x0_2 r3.1 r3.2.1 r3.2.2.1 r3.2.2.2 r4.1 r4.2.1 r4.2.2 r5.1 r5.2.1 r5.2.2.1 r5.2.2.2

/-- loop.example/g01158/spec.l3Keys -/
def spec_l3Keys.F (n : Nat) (x0_0 : Int) (x0_1 : List (Int × Int × Int)) (x0_2 : List (Int)) (x1 : Int) : Option (Int × (List (Int × Int × Int)) × (List (Int))) :=
  (spec_l2Own.F n x0_0 x0_1 x0_2).bind fun r1 =>
  if 0 ≤ x1 ∧ x1 < (r1.2.2.length : Int) then (some (r1.1, r1.2.1, r1.2.2.set x1.toNat (0 : Int))) else none

/-- loop.example/g01158/spec.WithoutKeys -/
def spec_WithoutKeys.F (n : Nat) (x0_0 : Int) (x0_1 : List (Int × Int × Int)) (x0_2 : List (Int)) (x1 : Int) : Option (Int × (List (Int × Int × Int)) × (List (Int)) × Bool) :=
  (spec_l2Node.F n x0_0 x0_1 x0_2 x1).bind fun r1 =>
  if (!r1) = true then
    some ((0 : Int), ([] : List (Int × Int × Int)), ([] : List (Int)), false)
  else
    (spec_l3Keys.F n x0_0 x0_1 x0_2 x1).bind fun r2 =>
    some (r2.1, r2.2.1, r2.2.2, true)

/-- loop.example/g01158/impl.WithoutKeys -/
def impl_WithoutKeys.F (n : Nat) (x0_0 : Int) (x0_1 : List (Int × Int × Int)) (x0_2 : List (Int)) (x1 : Int) : Option (Int × (List (Int × Int × Int)) × (List (Int)) × Bool) :=
  (impl_PutKeys.F n x0_0 x0_1 x0_2 x1 (0 : Int)).bind fun r1 =>
  some (r1.1, r1.2.1, r1.2.2.1, r1.2.2.2)

/-- loop.example/g01158/laws.FnExactWithoutKeys -/
def laws_FnExactWithoutKeys.F (n : Nat) (x0_0 : Int) (x0_1 : List (Int × Int × Int)) (x0_2 : List (Int)) (x1 : Int) : Option (Bool) :=
  (laws_szMaze.F n x0_0 x0_1 x0_2 (1048576 : Int)).bind fun r1 =>
  if (decide (r1 < (0 : Int))) = true then
    some true
  else
    (laws_toMaze.F n x0_0 x0_1 x0_2).bind fun r2 =>
    (spec_WithoutKeys.F n r2.1 r2.2.1 r2.2.2 x1).bind fun r3 =>
    (laws_toMaze.F n x0_0 x0_1 x0_2).bind fun r4 =>
    (impl_WithoutKeys.F n r4.1 r4.2.1 r4.2.2 x1).bind fun r5 =>
    let j10 : (Int) → (Int) → (List (Int × Int × Int)) → (List (Int)) → (Int) → (List (Int × Int × Int)) → (List (Int)) → (Bool) → (Int) → (List (Int × Int × Int)) → (List (Int)) → (Int) → (List (Int × Int × Int)) → (List (Int)) → (Bool) → Option (Bool) := fun j10_x1 j10_x2_0 j10_x2_1 j10_x2_2 j10_x6_0 j10_x6_1 j10_x6_2 j10_x7 j10_x8_0 j10_x8_1 j10_x8_2 j10_x9_0 j10_x9_1 j10_x9_2 j10_x10 =>
      (laws_toMaze.F n j10_x2_0 j10_x2_1 j10_x2_2).bind fun r7 =>
      (laws_eqMaze.F n j10_x8_0 j10_x8_1 j10_x8_2 r7.1 r7.2.1 r7.2.2).bind fun r8 =>
      if (!r8) = true then
        some false
      else
        (laws_markMaze.F n j10_x8_0 j10_x8_1 j10_x8_2 (1 : Int)).bind fun r9 =>
        let j16 : (Int) → (Int) → (List (Int × Int × Int)) → (List (Int)) → (Int) → (List (Int × Int × Int)) → (List (Int)) → (Bool) → (Int) → (List (Int × Int × Int)) → (List (Int)) → Option (Bool) := fun j16_x1 j16_x2_0 j16_x2_1 j16_x2_2 j16_x6_0 j16_x6_1 j16_x6_2 j16_x7 j16_x9_0 j16_x9_1 j16_x9_2 =>
          (laws_markMaze.F n j16_x9_0 j16_x9_1 j16_x9_2 (1 : Int)).bind fun r11 =>
          (laws_heldMaze.F n j16_x9_0 r11.2.2.1 r11.2.2.2 (1 : Int)).bind fun r12 =>
          if (decide (r12 < (0 : Int))) = true then
            some false
          else
            if (!decide (r12 = r11.1)) = true then
              some false
            else
              (laws_toMaze.F n j16_x2_0 j16_x2_1 j16_x2_2).bind fun r13 =>
              (impl_WithoutKeys.F n r13.1 r13.2.1 r13.2.2 j16_x1).bind fun r14 =>
              (laws_eqMaze.F n r14.1 r14.2.1 r14.2.2.1 j16_x6_0 j16_x6_1 j16_x6_2).bind fun r15 =>
              if (!r15) = true then
                some false
              else
                if (!(r14.2.2.2 == j16_x7)) = true then
                  some false
                else
                  (laws_heldMaze.F n j16_x9_0 r11.2.2.1 r11.2.2.2 (1 : Int)).bind fun r16 =>
                  if (decide (r16 < (0 : Int))) = true then
                    some false
                  else
                    if (!decide (r16 = r11.1)) = true then
                      some false
                    else
                      some true
        if (decide (r9.1 < (0 : Int))) = true then
          some false
        else
          (laws_eqMaze.F n j10_x9_0 j10_x9_1 j10_x9_2 j10_x6_0 j10_x6_1 j10_x6_2).bind fun r10 =>
          if (!r10) = true then
            some false
          else
            if (!(j10_x10 == j10_x7)) = true then
              some false
            else
              j16 j10_x1 j10_x2_0 j10_x2_1 j10_x2_2 j10_x6_0 j10_x6_1 j10_x6_2 j10_x7 j10_x9_0 j10_x9_1 j10_x9_2
    (laws_eqMaze.F n r5.1 r5.2.1 r5.2.2.1 r3.1 r3.2.1 r3.2.2.1).bind fun r6 =>
    if (!r6) = true then
      some false
    else
      if (!(r5.2.2.2 == r3.2.2.2)) = true then
        some false
      else
        j10 x1 x0_0 x0_1 x0_2 r3.1 r3.2.1 r3.2.2.1 r3.2.2.2 r4.1 r4.2.1 r4.2.2 r5.1 r5.2.1 r5.2.2.1 r5.2.2.2

/-- loop.example/g01158/spec.DropDoor -/
def spec_DropDoor.F (n : Nat) (x0_0 : Int) (x0_1 : List (Int × Int × Int)) (x0_2 : List (Int)) (x1 : Int) : Option (Int × (List (Int × Int × Int)) × (List (Int)) × Bool) :=
  (spec_l2Maze.F n x0_0 x0_1 x0_2).bind fun r1 =>
  if (!r1) = true then
    some ((0 : Int), ([] : List (Int × Int × Int)), ([] : List (Int)), false)
  else
    (spec_l1In.F n x1 (0 : Int) (IntKind.wrap .i64 ((x0_1.length : Int) - (1 : Int)))).bind fun r2 =>
    if (!r2) = true then
      some ((0 : Int), ([] : List (Int × Int × Int)), ([] : List (Int)), false)
    else
      (spec_l2Own.F n x0_0 x0_1 x0_2).bind fun r3 =>
      if 0 ≤ x1 ∧ x1 ≤ (x0_1.length : Int) then (if ([] : List (Int × Int × Int)).length + (x0_1.take x1.toNat).length ≤ 4398046511104 then (if 0 ≤ (IntKind.wrap .i64 (x1 + (1 : Int))) ∧ (IntKind.wrap .i64 (x1 + (1 : Int))) ≤ (x0_1.length : Int) then (if (([] : List (Int × Int × Int)) ++ (x0_1.take x1.toNat)).length + (x0_1.drop ((IntKind.wrap .i64 (x1 + (1 : Int))).toNat)).length ≤ 4398046511104 then (some (r3.1, (([] : List (Int × Int × Int)) ++ (x0_1.take x1.toNat)) ++ (x0_1.drop ((IntKind.wrap .i64 (x1 + (1 : Int))).toNat)), r3.2.2, true)) else none) else none) else none) else none

/-- loop.example/g01158/spec.l3Node -/
def spec_l3Node.l0 (n : Nat) (K : Int → (List (Int × Int × Int)) → (List (Int)) → Int → (List (Int × Int × Int)) → (List (Int)) → Option (Int × (List (Int × Int × Int)) × (List (Int)))) : Nat → Int → Int → (List (Int × Int × Int)) → (List (Int)) → Int → (List (Int × Int × Int)) → (List (Int)) → Int → (List (Int × Int × Int)) → (List (Int)) → Int → Option (Int × (List (Int × Int × Int)) × (List (Int)))
  | 0, _, _, _, _, _, _, _, _, _, _, _ => none
  | k + 1, x1, x2_0, x2_1, x2_2, x4_0, x4_1, x4_2, x5_0, x5_1, x5_2, x6 =>
    if (decide (x6 < (x2_1.length : Int))) = true then
      if 0 ≤ x6 ∧ x6 < (x2_1.length : Int) then (if (!decide (((x2_1.getD x6.toNat ((0 : Int), (0 : Int), (0 : Int))).1) = x1)) = true then
        if 0 ≤ x6 ∧ x6 < (x2_1.length : Int) then (if (!decide (((x2_1.getD x6.toNat ((0 : Int), (0 : Int), (0 : Int))).2.1) = x1)) = true then
          if 0 ≤ x6 ∧ x6 < (x2_1.length : Int) then (if x5_1.length + ([(x2_1.getD x6.toNat ((0 : Int), (0 : Int), (0 : Int)))] : List (Int × Int × Int)).length ≤ 4398046511104 then (spec_l3Node.l0 n K k x1 x2_0 x2_1 x2_2 x4_0 x4_1 x4_2 x5_0 (x5_1 ++ ([(x2_1.getD x6.toNat ((0 : Int), (0 : Int), (0 : Int)))] : List (Int × Int × Int))) x5_2 (IntKind.wrap .i64 (x6 + (1 : Int)))) else none) else none
        else
          spec_l3Node.l0 n K k x1 x2_0 x2_1 x2_2 x4_0 x4_1 x4_2 x5_0 x5_1 x5_2 (IntKind.wrap .i64 (x6 + (1 : Int)))) else none
      else
        spec_l3Node.l0 n K k x1 x2_0 x2_1 x2_2 x4_0 x4_1 x4_2 x5_0 x5_1 x5_2 (IntKind.wrap .i64 (x6 + (1 : Int)))) else none
    else
      K x4_0 x4_1 x4_2 x5_0 x5_1 x5_2
def spec_l3Node.F (n : Nat) (x0_0 : Int) (x0_1 : List (Int × Int × Int)) (x0_2 : List (Int)) (x1 : Int) : Option (Int × (List (Int × Int × Int)) × (List (Int))) :=
  (spec_l2Own.F n x0_0 x0_1 x0_2).bind fun r1 =>
  spec_l3Node.l0 n (fun y2 y3 y4 y5 y6 y7 =>
    some (y5, y6, y7)) n x1 x0_0 x0_1 x0_2 (0 : Int) ([] : List (Int × Int × Int)) ([] : List (Int)) r1.1 ([] : List (Int × Int × Int)) r1.2.2 (0 : Int)

/-- loop.example/g01158/spec.WithoutNode -/
def spec_WithoutNode.F (n : Nat) (x0_0 : Int) (x0_1 : List (Int × Int × Int)) (x0_2 : List (Int)) (x1 : Int) : Option (Int × (List (Int × Int × Int)) × (List (Int)) × Bool) :=
  (spec_l2Node.F n x0_0 x0_1 x0_2 x1).bind fun r1 =>
  if (!r1) = true then
    some ((0 : Int), ([] : List (Int × Int × Int)), ([] : List (Int)), false)
  else
    (spec_l3Node.F n x0_0 x0_1 x0_2 x1).bind fun r2 =>
    some (r2.1, r2.2.1, r2.2.2, true)

/-- loop.example/g01158/impl.withoutNode$1 -/
def impl_withoutNode_1_c0.F (n : Nat) (x0_0 : Int) (x0_1 : Int) (x0_2 : Int) (x1 : Int) : Option (Bool) :=
  if (decide (x0_0 = x1)) = true then
    some true
  else
    some (decide (x0_1 = x1))

/-- slices.IndexFunc[[][3]int,[3]int] -/
def slices_IndexFunc_3_int_3_int_cwithoutNode_1.l0 (n : Nat) (K : Unit → Option (Int)) : Nat → (List (Int × Int × Int)) → Int → Int → Int → Option (Int)
  | 0, _, _, _, _ => none
  | k + 1, x0, x1, x7, x8 =>
    if (decide (x8 < x7)) = true then
      if 0 ≤ x8 ∧ x8 < (x0.length : Int) then ((impl_withoutNode_1_c0.F n ((x0.getD x8.toNat ((0 : Int), (0 : Int), (0 : Int))).1) ((x0.getD x8.toNat ((0 : Int), (0 : Int), (0 : Int))).2.1) ((x0.getD x8.toNat ((0 : Int), (0 : Int), (0 : Int))).2.2) x1).bind fun r1 =>
      if r1 = true then
        some x8
      else
        slices_IndexFunc_3_int_3_int_cwithoutNode_1.l0 n K k x0 x1 x7 (IntKind.wrap .i64 (x8 + (1 : Int)))) else none
    else
      K ()
def slices_IndexFunc_3_int_3_int_cwithoutNode_1.F (n : Nat) (x0 : List (Int × Int × Int)) (x1 : Int) : Option (Int) :=
  slices_IndexFunc_3_int_3_int_cwithoutNode_1.l0 n (fun _ =>
    some (-1 : Int)) n x0 x1 (x0.length : Int) (0 : Int)

/-- slices.DeleteFunc[[][3]int,[3]int] -/
def slices_DeleteFunc_3_int_3_int_cwithoutNode_1.l0 (n : Nat) (K : (List (Int × Int × Int)) → Int → Option ((List (Int × Int × Int)))) : Nat → (List (Int × Int × Int)) → Int → Int → Int → Option ((List (Int × Int × Int)))
  | 0, _, _, _, _ => none
  | k + 1, x0, x1, x5, x6 =>
    if (decide (x6 < (x0.length : Int))) = true then
      if 0 ≤ x6 ∧ x6 < (x0.length : Int) then ((impl_withoutNode_1_c0.F n ((x0.getD x6.toNat ((0 : Int), (0 : Int), (0 : Int))).1) ((x0.getD x6.toNat ((0 : Int), (0 : Int), (0 : Int))).2.1) ((x0.getD x6.toNat ((0 : Int), (0 : Int), (0 : Int))).2.2) x1).bind fun r2 =>
      if (!r2) = true then
        if 0 ≤ x5 ∧ x5 < (x0.length : Int) then (slices_DeleteFunc_3_int_3_int_cwithoutNode_1.l0 n K k (x0.set x5.toNat (x0.getD x6.toNat ((0 : Int), (0 : Int), (0 : Int)))) x1 (IntKind.wrap .i64 (x5 + (1 : Int))) (IntKind.wrap .i64 (x6 + (1 : Int)))) else none
      else
        slices_DeleteFunc_3_int_3_int_cwithoutNode_1.l0 n K k x0 x1 x5 (IntKind.wrap .i64 (x6 + (1 : Int)))) else none
    else
      K x0 x5
def slices_DeleteFunc_3_int_3_int_cwithoutNode_1.F (n : Nat) (x0 : List (Int × Int × Int)) (x1 : Int) : Option ((List (Int × Int × Int))) :=
  (slices_IndexFunc_3_int_3_int_cwithoutNode_1.F n x0 x1).bind fun r1 =>
  if (decide (r1 = (-1 : Int))) = true then
    some x0
  else
    slices_DeleteFunc_3_int_3_int_cwithoutNode_1.l0 n (fun y3 y4 =>
      if 0 ≤ y4 ∧ y4 ≤ (y3.length : Int) then (if 0 ≤ y4 ∧ y4 ≤ ((y3.take y4.toNat ++ List.replicate (y3.length - y4.toNat) ((0 : Int), (0 : Int), (0 : Int))).length : Int) then (some ((y3.take y4.toNat ++ List.replicate (y3.length - y4.toNat) ((0 : Int), (0 : Int), (0 : Int))).take y4.toNat)) else none) else none) n x0 x1 r1 (IntKind.wrap .i64 (r1 + (1 : Int)))

/-- loop.example/g01158/impl.withoutNode -/
def impl_withoutNode.F (n : Nat) (x0_0 : Int) (x0_1 : List (Int × Int × Int)) (x0_2 : List (Int)) (x1 : Int) : Option (Int × (List (Int × Int × Int)) × (List (Int))) :=
  (impl_own.F n x0_0 x0_1 x0_2).bind fun r1 =>
  (slices_DeleteFunc_3_int_3_int_cwithoutNode_1.F n r1.2.1 x1).bind fun r2 =>
  some (r1.1, r2, r1.2.2)

/-- loop.example/g01158/impl.WithoutNode -/
def impl_WithoutNode.F (n : Nat) (x0_0 : Int) (x0_1 : List (Int × Int × Int)) (x0_2 : List (Int)) (x1 : Int) : Option (Int × (List (Int × Int × Int)) × (List (Int)) × Bool) :=
  (impl_isNode.F n x0_0 x0_1 x0_2 ([x1] : List (Int))).bind fun r1 =>
  if (!r1) = true then
    some ((0 : Int), ([] : List (Int × Int × Int)), ([] : List (Int)), false)
  else
    (impl_withoutNode.F n x0_0 x0_1 x0_2 x1).bind fun r2 =>
    some (r2.1, r2.2.1, r2.2.2, true)

/-- loop.example/g01158/laws.FnExactWithoutNode -/
def laws_FnExactWithoutNode.F (n : Nat) (x0_0 : Int) (x0_1 : List (Int × Int × Int)) (x0_2 : List (Int)) (x1 : Int) : Option (Bool) :=
  (laws_szMaze.F n x0_0 x0_1 x0_2 (1048576 : Int)).bind fun r1 =>
  if (decide (r1 < (0 : Int))) = true then
    some true
  else
    (laws_toMaze.F n x0_0 x0_1 x0_2).bind fun r2 =>
    (spec_WithoutNode.F n r2.1 r2.2.1 r2.2.2 x1).bind fun r3 =>
    (laws_toMaze.F n x0_0 x0_1 x0_2).bind fun r4 =>
    (impl_WithoutNode.F n r4.1 r4.2.1 r4.2.2 x1).bind fun r5 =>
    let j10 : (Int) → (Int) → (List (Int × Int × Int)) → (List (Int)) → (Int) → (List (Int × Int × Int)) → (List (Int)) → (Bool) → (Int) → (List (Int × Int × Int)) → (List (Int)) → (Int) → (List (Int × Int × Int)) → (List (Int)) → (Bool) → Option (Bool) := fun j10_x1 j10_x2_0 j10_x2_1 j10_x2_2 j10_x6_0 j10_x6_1 j10_x6_2 j10_x7 j10_x8_0 j10_x8_1 j10_x8_2 j10_x9_0 j10_x9_1 j10_x9_2 j10_x10 =>
      (laws_toMaze.F n j10_x2_0 j10_x2_1 j10_x2_2).bind fun r7 =>
      (laws_eqMaze.F n j10_x8_0 j10_x8_1 j10_x8_2 r7.1 r7.2.1 r7.2.2).bind fun r8 =>
      if (!r8) = true then
        some false
      else
        (laws_markMaze.F n j10_x8_0 j10_x8_1 j10_x8_2 (1 : Int)).bind fun r9 =>
        let j16 : (Int) → (Int) → (List (Int × Int × Int)) → (List (Int)) → (Int) → (List (Int × Int × Int)) → (List (Int)) → (Bool) → (Int) → (List (Int × Int × Int)) → (List (Int)) → Option (Bool) := fun j16_x1 j16_x2_0 j16_x2_1 j16_x2_2 j16_x6_0 j16_x6_1 j16_x6_2 j16_x7 j16_x9_0 j16_x9_1 j16_x9_2 =>
          (laws_markMaze.F n j16_x9_0 j16_x9_1 j16_x9_2 (1 : Int)).bind fun r11 =>
          (laws_heldMaze.F n j16_x9_0 r11.2.2.1 r11.2.2.2 (1 : Int)).bind fun r12 =>
          if (decide (r12 < (0 : Int))) = true then
            some false
          else
            if (!decide (r12 = r11.1)) = true then
              some false
            else
              (laws_toMaze.F n j16_x2_0 j16_x2_1 j16_x2_2).bind fun r13 =>
              (impl_WithoutNode.F n r13.1 r13.2.1 r13.2.2 j16_x1).bind fun r14 =>
              (laws_eqMaze.F n r14.1 r14.2.1 r14.2.2.1 j16_x6_0 j16_x6_1 j16_x6_2).bind fun r15 =>
              if (!r15) = true then
                some false
              else
                if (!(r14.2.2.2 == j16_x7)) = true then
                  some false
                else
                  (laws_heldMaze.F n j16_x9_0 r11.2.2.1 r11.2.2.2 (1 : Int)).bind fun r16 =>
                  if (decide (r16 < (0 : Int))) = true then
                    some false
                  else
                    if (!decide (r16 = r11.1)) = true then
                      some false
                    else
                      some true
        if (decide (r9.1 < (0 : Int))) = true then
          some false
        else
          (laws_eqMaze.F n j10_x9_0 j10_x9_1 j10_x9_2 j10_x6_0 j10_x6_1 j10_x6_2).bind fun r10 =>
          if (!r10) = true then
            some false
          else
            if (!(j10_x10 == j10_x7)) = true then
              some false
            else
              j16 j10_x1 j10_x2_0 j10_x2_1 j10_x2_2 j10_x6_0 j10_x6_1 j10_x6_2 j10_x7 j10_x9_0 j10_x9_1 j10_x9_2
    (laws_eqMaze.F n r5.1 r5.2.1 r5.2.2.1 r3.1 r3.2.1 r3.2.2.1).bind fun r6 =>
    if (!r6) = true then
      some false
    else
      if (!(r5.2.2.2 == r3.2.2.2)) = true then
        some false
      else
        j10 x1 x0_0 x0_1 x0_2 r3.1 r3.2.1 r3.2.2.1 r3.2.2.2 r4.1 r4.2.1 r4.2.2 r5.1 r5.2.1 r5.2.2.1 r5.2.2.2

/-- loop.example/g01158/spec.LeastNeeds -/
def spec_LeastNeeds.l2 (n : Nat) (K : Int → Int → Int → (List (Int × Int × Int)) → (List (Int)) → (List (Int)) → Int → Bool → Option ((List (Int)) × Bool)) : Nat → Int → Int → Int → (List (Int × Int × Int)) → (List (Int)) → (List (Int)) → Int → Bool → Int → Option ((List (Int)) × Bool)
  | 0, _, _, _, _, _, _, _, _, _ => none
  | k + 1, x1, x2, x3_0, x3_1, x3_2, x8, x9, x10, x11 =>
    if (decide (x11 < (x3_1.length : Int))) = true then
      if x10 = true then
        if (!decide (x11 = x9)) = true then
          if 0 ≤ x11 ∧ x11 < (x3_1.length : Int) then ((spec_l2Joins.F n ((x3_1.getD x11.toNat ((0 : Int), (0 : Int), (0 : Int))).1) ((x3_1.getD x11.toNat ((0 : Int), (0 : Int), (0 : Int))).2.1) ((x3_1.getD x11.toNat ((0 : Int), (0 : Int), (0 : Int))).2.2) x1 x2).bind fun r4 =>
          if r4 = true then
            if 0 ≤ x9 ∧ x9 < (x3_1.length : Int) then (if 0 ≤ x11 ∧ x11 < (x3_1.length : Int) then ((spec_l2Has.F n ((x3_1.getD x9.toNat ((0 : Int), (0 : Int), (0 : Int))).2.2) ((x3_1.getD x11.toNat ((0 : Int), (0 : Int), (0 : Int))).2.2)).bind fun r5 =>
            if r5 = true then
              spec_LeastNeeds.l2 n K k x1 x2 x3_0 x3_1 x3_2 x8 x9 false (IntKind.wrap .i64 (x11 + (1 : Int)))
            else
              spec_LeastNeeds.l2 n K k x1 x2 x3_0 x3_1 x3_2 x8 x9 x10 (IntKind.wrap .i64 (x11 + (1 : Int)))) else none) else none
          else
            spec_LeastNeeds.l2 n K k x1 x2 x3_0 x3_1 x3_2 x8 x9 x10 (IntKind.wrap .i64 (x11 + (1 : Int)))) else none
        else
          spec_LeastNeeds.l2 n K k x1 x2 x3_0 x3_1 x3_2 x8 x9 x10 (IntKind.wrap .i64 (x11 + (1 : Int)))
      else
        K x1 x2 x3_0 x3_1 x3_2 x8 x9 x10
    else
      K x1 x2 x3_0 x3_1 x3_2 x8 x9 x10
def spec_LeastNeeds.l0 (n : Nat) (K : (List (Int)) → Option ((List (Int)) × Bool)) : Nat → Int → Int → Int → (List (Int × Int × Int)) → (List (Int)) → (List (Int)) → Int → Option ((List (Int)) × Bool)
  | 0, _, _, _, _, _, _, _ => none
  | k + 1, x1, x2, x3_0, x3_1, x3_2, x8, x9 =>
    if (decide (x9 < (x3_1.length : Int))) = true then
      if 0 ≤ x9 ∧ x9 < (x3_1.length : Int) then ((spec_l2Joins.F n ((x3_1.getD x9.toNat ((0 : Int), (0 : Int), (0 : Int))).1) ((x3_1.getD x9.toNat ((0 : Int), (0 : Int), (0 : Int))).2.1) ((x3_1.getD x9.toNat ((0 : Int), (0 : Int), (0 : Int))).2.2) x1 x2).bind fun r3 =>
      spec_LeastNeeds.l2 n (fun y6 y7 y8 y9 y10 y11 y12 y13 =>
        if y13 = true then
          if 0 ≤ y12 ∧ y12 < (y9.length : Int) then (if y11.length + ([(y9.getD y12.toNat ((0 : Int), (0 : Int), (0 : Int))).2.2] : List (Int)).length ≤ 4398046511104 then (spec_LeastNeeds.l0 n K k y6 y7 y8 y9 y10 (y11 ++ ([(y9.getD y12.toNat ((0 : Int), (0 : Int), (0 : Int))).2.2] : List (Int))) (IntKind.wrap .i64 (y12 + (1 : Int)))) else none) else none
        else
          spec_LeastNeeds.l0 n K k y6 y7 y8 y9 y10 y11 (IntKind.wrap .i64 (y12 + (1 : Int)))) n x1 x2 x3_0 x3_1 x3_2 x8 x9 r3 (0 : Int)) else none
    else
      K x8
def spec_LeastNeeds.F (n : Nat) (x0_0 : Int) (x0_1 : List (Int × Int × Int)) (x0_2 : List (Int)) (x1 : Int) (x2 : Int) : Option ((List (Int)) × Bool) :=
  let j4 : (Int) → (Int) → (Int) → (List (Int × Int × Int)) → (List (Int)) → (List (Int)) → Option ((List (Int)) × Bool) := fun j4_x1 j4_x2 j4_x3_0 j4_x3_1 j4_x3_2 j4_x8 =>
    spec_LeastNeeds.l0 n (fun y14 =>
      some (y14, true)) n j4_x1 j4_x2 j4_x3_0 j4_x3_1 j4_x3_2 j4_x8 (0 : Int)
  (spec_l2Node.F n x0_0 x0_1 x0_2 x1).bind fun r1 =>
  if (!r1) = true then
    some (([] : List (Int)), false)
  else
    (spec_l2Node.F n x0_0 x0_1 x0_2 x2).bind fun r2 =>
    if (!r2) = true then
      some (([] : List (Int)), false)
    else
      j4 x1 x2 x0_0 x0_1 x0_2 ([] : List (Int))

/-- loop.example/g01158/impl.LeastNeeds$1$1 -/
def impl_LeastNeeds_1_1_c0.F (n : Nat) (x0 : Int) (x1 : Int) : Option (Bool) :=
  if (!decide (x0 = x1)) = true then
    (impl_has.F n x1 x0).bind fun r1 =>
    some r1
  else
    some false

/-- slices.IndexFunc[[]int,int] -/
def slices_IndexFunc_int_int_cLeastNeeds_1_1.l0 (n : Nat) (K : Unit → Option (Int)) : Nat → (List (Int)) → Int → Int → Int → Option (Int)
  | 0, _, _, _, _ => none
  | k + 1, x0, x1, x7, x8 =>
    if (decide (x8 < x7)) = true then
      if 0 ≤ x8 ∧ x8 < (x0.length : Int) then ((impl_LeastNeeds_1_1_c0.F n (x0.getD x8.toNat (0 : Int)) x1).bind fun r1 =>
      if r1 = true then
        some x8
      else
        slices_IndexFunc_int_int_cLeastNeeds_1_1.l0 n K k x0 x1 x7 (IntKind.wrap .i64 (x8 + (1 : Int)))) else none
    else
      K ()
def slices_IndexFunc_int_int_cLeastNeeds_1_1.F (n : Nat) (x0 : List (Int)) (x1 : Int) : Option (Int) :=
  slices_IndexFunc_int_int_cLeastNeeds_1_1.l0 n (fun _ =>
    some (-1 : Int)) n x0 x1 (x0.length : Int) (0 : Int)

/-- slices.ContainsFunc[[]int,int] -/
def slices_ContainsFunc_int_int_cLeastNeeds_1_1.F (n : Nat) (x0 : List (Int)) (x1 : Int) : Option (Bool) :=
  (slices_IndexFunc_int_int_cLeastNeeds_1_1.F n x0 x1).bind fun r1 =>
  some (decide (r1 ≥ (0 : Int)))

/-- loop.example/g01158/impl.LeastNeeds$1 -/
def impl_LeastNeeds_1_c0.F (n : Nat) (x0 : Int) (x1 : List (Int)) : Option (Bool) :=
  (slices_ContainsFunc_int_int_cLeastNeeds_1_1.F n x1 x0).bind fun r1 =>
  some r1

/-- slices.IndexFunc[[]int,int] -/
def slices_IndexFunc_int_int_cLeastNeeds_1.l0 (n : Nat) (K : Unit → Option (Int)) : Nat → (List (Int)) → (List (Int)) → Int → Int → Option (Int)
  | 0, _, _, _, _ => none
  | k + 1, x0, x1, x7, x8 =>
    if (decide (x8 < x7)) = true then
      if 0 ≤ x8 ∧ x8 < (x0.length : Int) then ((impl_LeastNeeds_1_c0.F n (x0.getD x8.toNat (0 : Int)) x1).bind fun r1 =>
      if r1 = true then
        some x8
      else
        slices_IndexFunc_int_int_cLeastNeeds_1.l0 n K k x0 x1 x7 (IntKind.wrap .i64 (x8 + (1 : Int)))) else none
    else
      K ()
def slices_IndexFunc_int_int_cLeastNeeds_1.F (n : Nat) (x0 : List (Int)) (x1 : List (Int)) : Option (Int) :=
  slices_IndexFunc_int_int_cLeastNeeds_1.l0 n (fun _ =>
    some (-1 : Int)) n x0 x1 (x0.length : Int) (0 : Int)

/-- slices.DeleteFunc[[]int,int] -/
def slices_DeleteFunc_int_int_cLeastNeeds_1.l0 (n : Nat) (K : (List (Int)) → Int → Option ((List (Int)))) : Nat → (List (Int)) → (List (Int)) → Int → Int → Option ((List (Int)))
  | 0, _, _, _, _ => none
  | k + 1, x0, x1, x5, x6 =>
    if (decide (x6 < (x0.length : Int))) = true then
      if 0 ≤ x6 ∧ x6 < (x0.length : Int) then ((impl_LeastNeeds_1_c0.F n (x0.getD x6.toNat (0 : Int)) x1).bind fun r2 =>
      if (!r2) = true then
        if 0 ≤ x5 ∧ x5 < (x0.length : Int) then (slices_DeleteFunc_int_int_cLeastNeeds_1.l0 n K k (x0.set x5.toNat (x0.getD x6.toNat (0 : Int))) x1 (IntKind.wrap .i64 (x5 + (1 : Int))) (IntKind.wrap .i64 (x6 + (1 : Int)))) else none
      else
        slices_DeleteFunc_int_int_cLeastNeeds_1.l0 n K k x0 x1 x5 (IntKind.wrap .i64 (x6 + (1 : Int)))) else none
    else
      K x0 x5
def slices_DeleteFunc_int_int_cLeastNeeds_1.F (n : Nat) (x0 : List (Int)) (x1 : List (Int)) : Option ((List (Int))) :=
  (slices_IndexFunc_int_int_cLeastNeeds_1.F n x0 x1).bind fun r1 =>
  if (decide (r1 = (-1 : Int))) = true then
    some x0
  else
    slices_DeleteFunc_int_int_cLeastNeeds_1.l0 n (fun y3 y4 =>
      if 0 ≤ y4 ∧ y4 ≤ (y3.length : Int) then (if 0 ≤ y4 ∧ y4 ≤ ((y3.take y4.toNat ++ List.replicate (y3.length - y4.toNat) (0 : Int)).length : Int) then (some ((y3.take y4.toNat ++ List.replicate (y3.length - y4.toNat) (0 : Int)).take y4.toNat)) else none) else none) n x0 x1 r1 (IntKind.wrap .i64 (r1 + (1 : Int)))

/-- loop.example/g01158/impl.LeastNeeds -/
def impl_LeastNeeds.l0 (n : Nat) (K : (List (Int)) → Option ((List (Int)) × Bool)) : Nat → Int → Int → (List (Int)) → (List (Int × Int × Int)) → Int → Int → Option ((List (Int)) × Bool)
  | 0, _, _, _, _, _, _ => none
  | k + 1, x1, x2, x8, x19, x20, x21 =>
    if (decide (x21 < x20)) = true then
      if 0 ≤ x21 ∧ x21 < (x19.length : Int) then (if (decide (((x19.getD x21.toNat ((0 : Int), (0 : Int), (0 : Int))).1) = (if x2 < x1 then x2 else x1))) = true then
        if (decide (((x19.getD x21.toNat ((0 : Int), (0 : Int), (0 : Int))).2.1) = (if x2 > x1 then x2 else x1))) = true then
          if x8.length + ([(x19.getD x21.toNat ((0 : Int), (0 : Int), (0 : Int))).2.2] : List (Int)).length ≤ 4398046511104 then (impl_LeastNeeds.l0 n K k x1 x2 (x8 ++ ([(x19.getD x21.toNat ((0 : Int), (0 : Int), (0 : Int))).2.2] : List (Int))) x19 x20 (IntKind.wrap .i64 (x21 + (1 : Int)))) else none
        else
          impl_LeastNeeds.l0 n K k x1 x2 x8 x19 x20 (IntKind.wrap .i64 (x21 + (1 : Int)))
      else
        impl_LeastNeeds.l0 n K k x1 x2 x8 x19 x20 (IntKind.wrap .i64 (x21 + (1 : Int)))) else none
    else
      K x8
def impl_LeastNeeds.F (n : Nat) (x0_0 : Int) (x0_1 : List (Int × Int × Int)) (x0_2 : List (Int)) (x1 : Int) (x2 : Int) : Option ((List (Int)) × Bool) :=
  (impl_isNode.F n x0_0 x0_1 x0_2 ([x1, x2] : List (Int))).bind fun r1 =>
  if (!r1) = true then
    some (([] : List (Int)), false)
  else
    impl_LeastNeeds.l0 n (fun y2 =>
      (slices_Clone_int_int.F n y2).bind fun r3 =>
      (slices_DeleteFunc_int_int_cLeastNeeds_1.F n r3 y2).bind fun r4 =>
      some (r4, true)) n x1 x2 ([] : List (Int)) x0_1 (x0_1.length : Int) (0 : Int)

/-- loop.example/g01158/laws.FnExactLeastNeeds -/
def laws_FnExactLeastNeeds.F (n : Nat) (x0_0 : Int) (x0_1 : List (Int × Int × Int)) (x0_2 : List (Int)) (x1 : Int) (x2 : Int) : Option (Bool) :=
  (laws_szMaze.F n x0_0 x0_1 x0_2 (1048576 : Int)).bind fun r1 =>
  if (decide (r1 < (0 : Int))) = true then
    some true
  else
    (laws_toMaze.F n x0_0 x0_1 x0_2).bind fun r2 =>
    (spec_LeastNeeds.F n r2.1 r2.2.1 r2.2.2 x1 x2).bind fun r3 =>
    (laws_toMaze.F n x0_0 x0_1 x0_2).bind fun r4 =>
    (impl_LeastNeeds.F n r4.1 r4.2.1 r4.2.2 x1 x2).bind fun r5 =>
    let j10 : (Int) → (Int) → (Int) → (List (Int × Int × Int)) → (List (Int)) → (List (Int)) → (Bool) → (Int) → (List (Int × Int × Int)) → (List (Int)) → (List (Int)) → (Bool) → Option (Bool) := fun j10_x1 j10_x2 j10_x3_0 j10_x3_1 j10_x3_2 j10_x8 j10_x9 j10_x10_0 j10_x10_1 j10_x10_2 j10_x11 j10_x12 =>
      (laws_toMaze.F n j10_x3_0 j10_x3_1 j10_x3_2).bind fun r7 =>
      (laws_eqMaze.F n j10_x10_0 j10_x10_1 j10_x10_2 r7.1 r7.2.1 r7.2.2).bind fun r8 =>
      if (!r8) = true then
        some false
      else
        (laws_markMaze.F n j10_x10_0 j10_x10_1 j10_x10_2 (1 : Int)).bind fun r9 =>
        let j16 : (Int) → (Int) → (Int) → (List (Int × Int × Int)) → (List (Int)) → (List (Int)) → (Bool) → (List (Int)) → Option (Bool) := fun j16_x1 j16_x2 j16_x3_0 j16_x3_1 j16_x3_2 j16_x8 j16_x9 j16_x11 =>
          (laws_markIntS.F n j16_x11 (1 : Int)).bind fun r11 =>
          (laws_heldIntS.F n r11.2 (1 : Int)).bind fun r12 =>
          if (decide (r12 < (0 : Int))) = true then
            some false
          else
            if (!decide (r12 = r11.1)) = true then
              some false
            else
              (laws_toMaze.F n j16_x3_0 j16_x3_1 j16_x3_2).bind fun r13 =>
              (impl_LeastNeeds.F n r13.1 r13.2.1 r13.2.2 j16_x1 j16_x2).bind fun r14 =>
              (laws_eqIntS.F n r14.1 j16_x8).bind fun r15 =>
              if (!r15) = true then
                some false
              else
                if (!(r14.2 == j16_x9)) = true then
                  some false
                else
                  (laws_heldIntS.F n r11.2 (1 : Int)).bind fun r16 =>
                  if (decide (r16 < (0 : Int))) = true then
                    some false
                  else
                    if (!decide (r16 = r11.1)) = true then
                      some false
                    else
                      some true
        if (decide (r9.1 < (0 : Int))) = true then
          some false
        else
          (laws_eqIntS.F n j10_x11 j10_x8).bind fun r10 =>
          if (!r10) = true then
            some false
          else
            if (!(j10_x12 == j10_x9)) = true then
              some false
            else
              j16 j10_x1 j10_x2 j10_x3_0 j10_x3_1 j10_x3_2 j10_x8 j10_x9 j10_x11
    (laws_eqIntS.F n r5.1 r3.1).bind fun r6 =>
    if (!r6) = true then
      some false
    else
      if (!(r5.2 == r3.2)) = true then
        some false
      else
        j10 x1 x2 x0_0 x0_1 x0_2 r3.1 r3.2 r4.1 r4.2.1 r4.2.2 r5.1 r5.2

/-- loop.example/g01158/spec.l1Least -/
def spec_l1Least.F (n : Nat) (x0 : Int) (x1 : Int) : Option (Int) :=
  if (decide (x0 < x1)) = true then
    some x0
  else
    some x1

/-- loop.example/g01158/spec.l1Most -/
def spec_l1Most.F (n : Nat) (x0 : Int) (x1 : Int) : Option (Int) :=
  if (decide (x0 > x1)) = true then
    some x0
  else
    some x1

/-- loop.example/g01158/spec.l2Put -/
def spec_l2Put.l0 (n : Nat) (K : (List (Int × Int × Int)) → Int → Int → Int → Int → Option ((List (Int × Int × Int)))) : Nat → (List (Int × Int × Int)) → Int → Int → Int → Int → Option ((List (Int × Int × Int)))
  | 0, _, _, _, _, _ => none
  | k + 1, x0, x9_0, x9_1, x9_2, x10 =>
    if (decide (x10 < (x0.length : Int))) = true then
      if 0 ≤ x10 ∧ x10 < (x0.length : Int) then ((spec_l2Before.F n ((x0.getD x10.toNat ((0 : Int), (0 : Int), (0 : Int))).1) ((x0.getD x10.toNat ((0 : Int), (0 : Int), (0 : Int))).2.1) ((x0.getD x10.toNat ((0 : Int), (0 : Int), (0 : Int))).2.2) x9_0 x9_1 x9_2).bind fun r3 =>
      if r3 = true then
        spec_l2Put.l0 n K k x0 x9_0 x9_1 x9_2 (IntKind.wrap .i64 (x10 + (1 : Int)))
      else
        K x0 x9_0 x9_1 x9_2 x10) else none
    else
      K x0 x9_0 x9_1 x9_2 x10
def spec_l2Put.F (n : Nat) (x0 : List (Int × Int × Int)) (x1 : Int) (x2 : Int) (x3 : Int) : Option ((List (Int × Int × Int))) :=
  (spec_l1Least.F n x1 x2).bind fun r1 =>
  (spec_l1Most.F n x1 x2).bind fun r2 =>
  spec_l2Put.l0 n (fun y4 y5 y6 y7 y8 =>
    if (decide (y8 < (y4.length : Int))) = true then
      if 0 ≤ y8 ∧ y8 < (y4.length : Int) then (if (decide (((y4.getD y8.toNat ((0 : Int), (0 : Int), (0 : Int))).1) = y5) && (decide (((y4.getD y8.toNat ((0 : Int), (0 : Int), (0 : Int))).2.1) = y6) && (decide (((y4.getD y8.toNat ((0 : Int), (0 : Int), (0 : Int))).2.2) = y7) && true))) = true then
        some y4
      else
        if 0 ≤ y8 ∧ y8 ≤ (y4.length : Int) then (if ([] : List (Int × Int × Int)).length + (y4.take y8.toNat).length ≤ 4398046511104 then (if (([] : List (Int × Int × Int)) ++ (y4.take y8.toNat)).length + ([(y5, y6, y7)] : List (Int × Int × Int)).length ≤ 4398046511104 then (if 0 ≤ y8 ∧ y8 ≤ (y4.length : Int) then (if ((([] : List (Int × Int × Int)) ++ (y4.take y8.toNat)) ++ ([(y5, y6, y7)] : List (Int × Int × Int))).length + (y4.drop y8.toNat).length ≤ 4398046511104 then (some (((([] : List (Int × Int × Int)) ++ (y4.take y8.toNat)) ++ ([(y5, y6, y7)] : List (Int × Int × Int))) ++ (y4.drop y8.toNat))) else none) else none) else none) else none) else none) else none
    else
      if 0 ≤ y8 ∧ y8 ≤ (y4.length : Int) then (if ([] : List (Int × Int × Int)).length + (y4.take y8.toNat).length ≤ 4398046511104 then (if (([] : List (Int × Int × Int)) ++ (y4.take y8.toNat)).length + ([(y5, y6, y7)] : List (Int × Int × Int)).length ≤ 4398046511104 then (if 0 ≤ y8 ∧ y8 ≤ (y4.length : Int) then (if ((([] : List (Int × Int × Int)) ++ (y4.take y8.toNat)) ++ ([(y5, y6, y7)] : List (Int × Int × Int))).length + (y4.drop y8.toNat).length ≤ 4398046511104 then (some (((([] : List (Int × Int × Int)) ++ (y4.take y8.toNat)) ++ ([(y5, y6, y7)] : List (Int × Int × Int))) ++ (y4.drop y8.toNat))) else none) else none) else none) else none) else none) n x0 r1 r2 x3 (0 : Int)

/-- loop.example/g01158/spec.l2Kept -/
def spec_l2Kept.F (n : Nat) (x0_0 : Int) (x0_1 : List (Int × Int × Int)) (x0_2 : List (Int)) : Option (Int × (List (Int × Int × Int)) × (List (Int)) × Bool) :=
  (spec_l2Maze.F n x0_0 x0_1 x0_2).bind fun r1 =>
  if (!r1) = true then
    some ((0 : Int), ([] : List (Int × Int × Int)), ([] : List (Int)), false)
  else
    some (x0_0, x0_1, x0_2, true)

/-- loop.example/g01158/spec.JoinMazes -/
def spec_JoinMazes.l0 (n : Nat) (K : Int → (List (Int × Int × Int)) → (List (Int)) → Int → (List (Int × Int × Int)) → (List (Int)) → Option (Int × (List (Int × Int × Int)) × (List (Int)) × Bool)) : Nat → Int → (List (Int × Int × Int)) → (List (Int)) → Int → (List (Int × Int × Int)) → (List (Int)) → Int → (List (Int × Int × Int)) → (List (Int)) → Int → Int → Option (Int × (List (Int × Int × Int)) × (List (Int)) × Bool)
  | 0, _, _, _, _, _, _, _, _, _, _, _ => none
  | k + 1, x3_0, x3_1, x3_2, x4_0, x4_1, x4_2, x6_0, x6_1, x6_2, x7, x8 =>
    if (decide (x8 < (x3_1.length : Int))) = true then
      if 0 ≤ x8 ∧ x8 < (x3_1.length : Int) then (if 0 ≤ x8 ∧ x8 < (x3_1.length : Int) then (if 0 ≤ x8 ∧ x8 < (x3_1.length : Int) then ((spec_l2Put.F n x6_1 (IntKind.wrap .i64 (((x3_1.getD x8.toNat ((0 : Int), (0 : Int), (0 : Int))).1) + x7)) (IntKind.wrap .i64 (((x3_1.getD x8.toNat ((0 : Int), (0 : Int), (0 : Int))).2.1) + x7)) ((x3_1.getD x8.toNat ((0 : Int), (0 : Int), (0 : Int))).2.2)).bind fun r4 =>
      spec_JoinMazes.l0 n K k x3_0 x3_1 x3_2 x4_0 x4_1 x4_2 x6_0 r4 x6_2 x7 (IntKind.wrap .i64 (x8 + (1 : Int)))) else none) else none) else none
    else
      K x4_0 x4_1 x4_2 x6_0 x6_1 x6_2
def spec_JoinMazes.F (n : Nat) (x0_0 : Int) (x0_1 : List (Int × Int × Int)) (x0_2 : List (Int)) (x1_0 : Int) (x1_1 : List (Int × Int × Int)) (x1_2 : List (Int)) : Option (Int × (List (Int × Int × Int)) × (List (Int)) × Bool) :=
  let j3 : (Int) → (List (Int × Int × Int)) → (List (Int)) → (Int) → (List (Int × Int × Int)) → (List (Int)) → (Int) → (List (Int × Int × Int)) → (List (Int)) → Option (Int × (List (Int × Int × Int)) × (List (Int)) × Bool) := fun j3_x2_0 j3_x2_1 j3_x2_2 j3_x3_0 j3_x3_1 j3_x3_2 j3_x4_0 j3_x4_1 j3_x4_2 =>
    (spec_l2Own.F n j3_x2_0 j3_x2_1 j3_x2_2).bind fun r3 =>
    if 0 ≤ (IntKind.wrap .i64 (j3_x2_0 - (1 : Int))) ∧ (IntKind.wrap .i64 (j3_x2_0 - (1 : Int))) < (r3.2.2.length : Int) then (if 0 ≤ (0 : Int) ∧ (0 : Int) < (j3_x3_2.length : Int) then (if 0 ≤ (IntKind.wrap .i64 (j3_x2_0 - (1 : Int))) ∧ (IntKind.wrap .i64 (j3_x2_0 - (1 : Int))) < (r3.2.2.length : Int) then (if 0 ≤ (1 : Int) ∧ (1 : Int) ≤ (j3_x3_2.length : Int) then (if (r3.2.2.set ((IntKind.wrap .i64 (j3_x2_0 - (1 : Int))).toNat) (bitOr .i64 (r3.2.2.getD ((IntKind.wrap .i64 (j3_x2_0 - (1 : Int))).toNat) (0 : Int)) (j3_x3_2.getD 0 (0 : Int)))).length + (j3_x3_2.drop 1).length ≤ 4398046511104 then (spec_JoinMazes.l0 n (fun y5 y6 y7 y8 y9 y10 =>
      (spec_l2Kept.F n y8 y9 y10).bind fun r11 =>
      some (r11.1, r11.2.1, r11.2.2.1, r11.2.2.2)) n j3_x3_0 j3_x3_1 j3_x3_2 j3_x4_0 j3_x4_1 j3_x4_2 (IntKind.wrap .i64 ((IntKind.wrap .i64 (j3_x2_0 + j3_x3_0)) - (1 : Int))) r3.2.1 ((r3.2.2.set ((IntKind.wrap .i64 (j3_x2_0 - (1 : Int))).toNat) (bitOr .i64 (r3.2.2.getD ((IntKind.wrap .i64 (j3_x2_0 - (1 : Int))).toNat) (0 : Int)) (j3_x3_2.getD 0 (0 : Int)))) ++ (j3_x3_2.drop 1)) (IntKind.wrap .i64 (j3_x2_0 - (1 : Int))) (0 : Int)) else none) else none) else none) else none) else none
  (spec_l2Maze.F n x0_0 x0_1 x0_2).bind fun r1 =>
  if (!r1) = true then
    some ((0 : Int), ([] : List (Int × Int × Int)), ([] : List (Int)), false)
  else
    (spec_l2Maze.F n x1_0 x1_1 x1_2).bind fun r2 =>
    if (!r2) = true then
      some ((0 : Int), ([] : List (Int × Int × Int)), ([] : List (Int)), false)
    else
      j3 x0_0 x0_1 x0_2 x1_0 x1_1 x1_2 (0 : Int) ([] : List (Int × Int × Int)) ([] : List (Int))

/-- loop.example/g01158/impl.JoinMazes -/
def impl_JoinMazes.l0 (n : Nat) (K : Int → (List (Int × Int × Int)) → (List (Int)) → Int → (List (Int × Int × Int)) → (List (Int)) → Int → (List (Int × Int × Int)) → (List (Int)) → Int → Option (Int × (List (Int × Int × Int)) × (List (Int)) × Bool)) : Nat → Int → (List (Int × Int × Int)) → (List (Int)) → Int → (List (Int × Int × Int)) → (List (Int)) → Int → (List (Int × Int × Int)) → (List (Int)) → Int → Int → Int → Option (Int × (List (Int × Int × Int)) × (List (Int)) × Bool)
  | 0, _, _, _, _, _, _, _, _, _, _, _, _ => none
  | k + 1, x3_0, x3_1, x3_2, x4_0, x4_1, x4_2, x6_0, x6_1, x6_2, x7, x42, x43 =>
    if (decide (x43 < x42)) = true then
      if 0 ≤ x43 ∧ x43 < (x3_1.length : Int) then (if x6_1.length + ([(IntKind.wrap .i64 (((x3_1.getD x43.toNat ((0 : Int), (0 : Int), (0 : Int))).1) + x7), IntKind.wrap .i64 (((x3_1.getD x43.toNat ((0 : Int), (0 : Int), (0 : Int))).2.1) + x7), (x3_1.getD x43.toNat ((0 : Int), (0 : Int), (0 : Int))).2.2)] : List (Int × Int × Int)).length ≤ 4398046511104 then (impl_JoinMazes.l0 n K k x3_0 x3_1 x3_2 x4_0 x4_1 x4_2 x6_0 (x6_1 ++ ([(IntKind.wrap .i64 (((x3_1.getD x43.toNat ((0 : Int), (0 : Int), (0 : Int))).1) + x7), IntKind.wrap .i64 (((x3_1.getD x43.toNat ((0 : Int), (0 : Int), (0 : Int))).2.1) + x7), (x3_1.getD x43.toNat ((0 : Int), (0 : Int), (0 : Int))).2.2)] : List (Int × Int × Int))) x6_2 x7 x42 (IntKind.wrap .i64 (x43 + (1 : Int)))) else none) else none
    else
      K x3_0 x3_1 x3_2 x4_0 x4_1 x4_2 x6_0 x6_1 x6_2 x7
def impl_JoinMazes.F (n : Nat) (x0_0 : Int) (x0_1 : List (Int × Int × Int)) (x0_2 : List (Int)) (x1_0 : Int) (x1_1 : List (Int × Int × Int)) (x1_2 : List (Int)) : Option (Int × (List (Int × Int × Int)) × (List (Int)) × Bool) :=
  let j3 : (Int) → (List (Int × Int × Int)) → (List (Int)) → (Int) → (List (Int × Int × Int)) → (List (Int)) → (Int) → (List (Int × Int × Int)) → (List (Int)) → Option (Int × (List (Int × Int × Int)) × (List (Int)) × Bool) := fun j3_x2_0 j3_x2_1 j3_x2_2 j3_x3_0 j3_x3_1 j3_x3_2 j3_x4_0 j3_x4_1 j3_x4_2 =>
    (impl_own.F n j3_x2_0 j3_x2_1 j3_x2_2).bind fun r3 =>
    impl_JoinMazes.l0 n (fun y4 y5 y6 y7 y8 y9 y10 y11 y12 y13 =>
      if 0 ≤ y13 ∧ y13 < (y12.length : Int) then (if 0 ≤ (0 : Int) ∧ (0 : Int) < (y6.length : Int) then (if 0 ≤ y13 ∧ y13 < (y12.length : Int) then (if 0 ≤ (1 : Int) ∧ (1 : Int) ≤ (y6.length : Int) then (if (y12.set y13.toNat (bitOr .i64 (y12.getD y13.toNat (0 : Int)) (y6.getD 0 (0 : Int)))).length + (y6.drop 1).length ≤ 4398046511104 then ((impl_IsMaze.F n y10 y11 ((y12.set y13.toNat (bitOr .i64 (y12.getD y13.toNat (0 : Int)) (y6.getD 0 (0 : Int)))) ++ (y6.drop 1))).bind fun r14 =>
      if (!r14) = true then
        some ((0 : Int), ([] : List (Int × Int × Int)), ([] : List (Int)), false)
      else
        some (y10, y11, (y12.set y13.toNat (bitOr .i64 (y12.getD y13.toNat (0 : Int)) (y6.getD 0 (0 : Int)))) ++ (y6.drop 1), true)) else none) else none) else none) else none) else none) n j3_x3_0 j3_x3_1 j3_x3_2 j3_x4_0 j3_x4_1 j3_x4_2 (IntKind.wrap .i64 (r3.1 + (IntKind.wrap .i64 (j3_x3_0 - (1 : Int))))) r3.2.1 r3.2.2 (IntKind.wrap .i64 (j3_x2_0 - (1 : Int))) (j3_x3_1.length : Int) (0 : Int)
  (impl_IsMaze.F n x0_0 x0_1 x0_2).bind fun r1 =>
  if (!r1) = true then
    some ((0 : Int), ([] : List (Int × Int × Int)), ([] : List (Int)), false)
  else
    (impl_IsMaze.F n x1_0 x1_1 x1_2).bind fun r2 =>
    if (!r2) = true then
      some ((0 : Int), ([] : List (Int × Int × Int)), ([] : List (Int)), false)
    else
      if (decide ((IntKind.wrap .i64 ((IntKind.wrap .i64 (x0_0 + x1_0)) - (1 : Int))) > (12 : Int))) = true then
        some ((0 : Int), ([] : List (Int × Int × Int)), ([] : List (Int)), false)
      else
        j3 x0_0 x0_1 x0_2 x1_0 x1_1 x1_2 (0 : Int) ([] : List (Int × Int × Int)) ([] : List (Int))

/-- loop.example/g01158/laws.FnExactJoinMazes -/
def laws_FnExactJoinMazes.F (n : Nat) (x0_0 : Int) (x0_1 : List (Int × Int × Int)) (x0_2 : List (Int)) (x1_0 : Int) (x1_1 : List (Int × Int × Int)) (x1_2 : List (Int)) : Option (Bool) :=
  (laws_szMaze.F n x0_0 x0_1 x0_2 (1048576 : Int)).bind fun r1 =>
  if (decide (r1 < (0 : Int))) = true then
    some true
  else
    (laws_szMaze.F n x1_0 x1_1 x1_2 r1).bind fun r2 =>
    if (decide (r2 < (0 : Int))) = true then
      some true
    else
      (laws_toMaze.F n x0_0 x0_1 x0_2).bind fun r3 =>
      (laws_toMaze.F n x1_0 x1_1 x1_2).bind fun r4 =>
      (spec_JoinMazes.F n r3.1 r3.2.1 r3.2.2 r4.1 r4.2.1 r4.2.2).bind fun r5 =>
      (laws_toMaze.F n x0_0 x0_1 x0_2).bind fun r6 =>
      (laws_toMaze.F n x1_0 x1_1 x1_2).bind fun r7 =>
      (impl_JoinMazes.F n r6.1 r6.2.1 r6.2.2 r7.1 r7.2.1 r7.2.2).bind fun r8 =>
      let j14 : (Int) → (List (Int × Int × Int)) → (List (Int)) → (Int) → (List (Int × Int × Int)) → (List (Int)) → (Int) → (List (Int × Int × Int)) → (List (Int)) → (Bool) → (Int) → (List (Int × Int × Int)) → (List (Int)) → (Int) → (List (Int × Int × Int)) → (List (Int)) → (Int) → (List (Int × Int × Int)) → (List (Int)) → (Bool) → Option (Bool) := fun j14_x2_0 j14_x2_1 j14_x2_2 j14_x3_0 j14_x3_1 j14_x3_2 j14_x6_0 j14_x6_1 j14_x6_2 j14_x7 j14_x8_0 j14_x8_1 j14_x8_2 j14_x9_0 j14_x9_1 j14_x9_2 j14_x10_0 j14_x10_1 j14_x10_2 j14_x11 =>
        (laws_toMaze.F n j14_x2_0 j14_x2_1 j14_x2_2).bind fun r10 =>
        (laws_eqMaze.F n j14_x8_0 j14_x8_1 j14_x8_2 r10.1 r10.2.1 r10.2.2).bind fun r11 =>
        if (!r11) = true then
          some false
        else
          (laws_toMaze.F n j14_x3_0 j14_x3_1 j14_x3_2).bind fun r12 =>
          (laws_eqMaze.F n j14_x9_0 j14_x9_1 j14_x9_2 r12.1 r12.2.1 r12.2.2).bind fun r13 =>
          if (!r13) = true then
            some false
          else
            (laws_markMaze.F n j14_x8_0 j14_x8_1 j14_x8_2 (1 : Int)).bind fun r14 =>
            (laws_markMaze.F n j14_x9_0 j14_x9_1 j14_x9_2 r14.1).bind fun r15 =>
            let j23 : (Int) → (List (Int × Int × Int)) → (List (Int)) → (Int) → (List (Int × Int × Int)) → (List (Int)) → (Int) → (List (Int × Int × Int)) → (List (Int)) → (Bool) → (Int) → (List (Int × Int × Int)) → (List (Int)) → Option (Bool) := fun j23_x2_0 j23_x2_1 j23_x2_2 j23_x3_0 j23_x3_1 j23_x3_2 j23_x6_0 j23_x6_1 j23_x6_2 j23_x7 j23_x10_0 j23_x10_1 j23_x10_2 =>
              (laws_markMaze.F n j23_x10_0 j23_x10_1 j23_x10_2 (1 : Int)).bind fun r17 =>
              (laws_heldMaze.F n j23_x10_0 r17.2.2.1 r17.2.2.2 (1 : Int)).bind fun r18 =>
              if (decide (r18 < (0 : Int))) = true then
                some false
              else
                if (!decide (r18 = r17.1)) = true then
                  some false
                else
                  (laws_toMaze.F n j23_x2_0 j23_x2_1 j23_x2_2).bind fun r19 =>
                  (laws_toMaze.F n j23_x3_0 j23_x3_1 j23_x3_2).bind fun r20 =>
                  (impl_JoinMazes.F n r19.1 r19.2.1 r19.2.2 r20.1 r20.2.1 r20.2.2).bind fun r21 =>
                  (laws_eqMaze.F n r21.1 r21.2.1 r21.2.2.1 j23_x6_0 j23_x6_1 j23_x6_2).bind fun r22 =>
                  if (!r22) = true then
                    some false
                  else
                    if (!(r21.2.2.2 == j23_x7)) = true then
                      some false
                    else
                      (laws_heldMaze.F n j23_x10_0 r17.2.2.1 r17.2.2.2 (1 : Int)).bind fun r23 =>
                      if (decide (r23 < (0 : Int))) = true then
                        some false
                      else
                        if (!decide (r23 = r17.1)) = true then
                          some false
                        else
                          some true
            if (decide (r15.1 < (0 : Int))) = true then
              some false
            else
              (laws_eqMaze.F n j14_x10_0 j14_x10_1 j14_x10_2 j14_x6_0 j14_x6_1 j14_x6_2).bind fun r16 =>
              if (!r16) = true then
                some false
              else
                if (!(j14_x11 == j14_x7)) = true then
                  some false
                else
                  j23 j14_x2_0 j14_x2_1 j14_x2_2 j14_x3_0 j14_x3_1 j14_x3_2 j14_x6_0 j14_x6_1 j14_x6_2 j14_x7 j14_x10_0 j14_x10_1 j14_x10_2
      (laws_eqMaze.F n r8.1 r8.2.1 r8.2.2.1 r5.1 r5.2.1 r5.2.2.1).bind fun r9 =>
      if (!r9) = true then
        some false
      else
        if (!(r8.2.2.2 == r5.2.2.2)) = true then
          some false
        else
          j14 x0_0 x0_1 x0_2 x1_0 x1_1 x1_2 r5.1 r5.2.1 r5.2.2.1 r5.2.2.2 r6.1 r6.2.1 r6.2.2 r7.1 r7.2.1 r7.2.2 r8.1 r8.2.1 r8.2.2.1 r8.2.2.2

end Go.Pf
