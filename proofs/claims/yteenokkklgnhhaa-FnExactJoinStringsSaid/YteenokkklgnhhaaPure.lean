/- The pure functions of this seat's Go functions, as a program of mine (mach.py) printed them. -/
import Derived.Test.YteenokkklgnhhaaGwA
import Derived.Test.YteenokkklgnhhaaGwT
set_option linter.unusedVariables false
set_option autoImplicit false
namespace Go.Pf
open Go Go.Fx

/-- loop.example/g01158/laws.szStringS -/
def laws_szStringS.l0 (n : Nat) (K : Int → Option (Int)) : Nat → (List (ByteArray)) → Int → Int → Option (Int)
  | 0, _, _, _ => none
  | k + 1, x0, x1, x5 =>
    if (decide (x5 < (x0.length : Int))) = true then
      if 0 ≤ x5 ∧ x5 < (x0.length : Int) then (if (decide ((IntKind.wrap .i64 (x1 - ((x0.getD x5.toNat ByteArray.empty).size : Int))) < (0 : Int))) = true then
        some (-1 : Int)
      else
        laws_szStringS.l0 n K k x0 (IntKind.wrap .i64 (x1 - ((x0.getD x5.toNat ByteArray.empty).size : Int))) (IntKind.wrap .i64 (x5 + (1 : Int)))) else none
    else
      K x1
def laws_szStringS.F (n : Nat) (x0 : List (ByteArray)) (x1 : Int) : Option (Int) :=
  if (decide ((IntKind.wrap .i64 (x1 - (x0.length : Int))) < (0 : Int))) = true then
    some (-1 : Int)
  else
    laws_szStringS.l0 n (fun y1 =>
      some y1) n x0 (IntKind.wrap .i64 (x1 - (x0.length : Int))) (0 : Int)

/-- loop.example/g01158/laws.toStringS -/
def laws_toStringS.l0 (n : Nat) (K : (List (ByteArray)) → Option ((List (ByteArray)))) : Nat → (List (ByteArray)) → (List (ByteArray)) → Int → Option ((List (ByteArray)))
  | 0, _, _, _ => none
  | k + 1, x0, x3, x4 =>
    if (decide (x4 < (x0.length : Int))) = true then
      if 0 ≤ x4 ∧ x4 < (x0.length : Int) then (if 0 ≤ x4 ∧ x4 < (x3.length : Int) then (laws_toStringS.l0 n K k x0 (x3.set x4.toNat (x0.getD x4.toNat ByteArray.empty)) (IntKind.wrap .i64 (x4 + (1 : Int)))) else none) else none
    else
      K x3
def laws_toStringS.F (n : Nat) (x0 : List (ByteArray)) : Option ((List (ByteArray))) :=
  if 0 ≤ (x0.length : Int) ∧ (x0.length : Int) ≤ (x0.length : Int) ∧ (x0.length : Int) ≤ 4398046511104 then (laws_toStringS.l0 n (fun y1 =>
    some y1) n x0 (List.replicate ((x0.length : Int).toNat) ByteArray.empty) (0 : Int)) else none

/-- loop.example/g01158/spec.l1Stands -/
def spec_l1Stands.l0 (n : Nat) (K : Unit → Option (Bool)) : Nat → ByteArray → Int → Int → Option (Bool)
  | 0, _, _, _ => none
  | k + 1, x0, x1, x5 =>
    if (decide (x5 < (x0.size : Int))) = true then
      if 0 ≤ x5 ∧ x5 < (x0.size : Int) then (if (decide ((bAt x0 x5.toNat) = x1)) = true then
        some true
      else
        spec_l1Stands.l0 n K k x0 x1 (IntKind.wrap .i64 (x5 + (1 : Int)))) else none
    else
      K ()
def spec_l1Stands.F (n : Nat) (x0 : ByteArray) (x1 : Int) : Option (Bool) :=
  spec_l1Stands.l0 n (fun _ =>
    some false) n x0 x1 (0 : Int)

/-- loop.example/g01158/spec.JoinStrings -/
def spec_JoinStrings.l0 (n : Nat) (K : ByteArray → Option (ByteArray × Bool)) : Nat → (List (ByteArray)) → ByteArray → ByteArray → Int → Option (ByteArray × Bool)
  | 0, _, _, _, _ => none
  | k + 1, x0, x1, x6, x7 =>
    if (decide (x7 < (x0.length : Int))) = true then
      if 0 ≤ x7 ∧ x7 < (x0.length : Int) then (if 0 ≤ (0 : Int) ∧ (0 : Int) < (x1.size : Int) then ((spec_l1Stands.F n (x0.getD x7.toNat ByteArray.empty) (bAt x1 0)).bind fun r1 =>
      if r1 = true then
        some (ByteArray.empty, false)
      else
        if (decide (x7 > (0 : Int))) = true then
          if x6.size + x1.size ≤ 4398046511104 then (if 0 ≤ x7 ∧ x7 < (x0.length : Int) then (if (x6 ++ x1).size + (x0.getD x7.toNat ByteArray.empty).size ≤ 4398046511104 then (if (decide ((((x6 ++ x1) ++ (x0.getD x7.toNat ByteArray.empty)).size : Int) > (4000 : Int))) = true then
            some (ByteArray.empty, false)
          else
            spec_JoinStrings.l0 n K k x0 x1 ((x6 ++ x1) ++ (x0.getD x7.toNat ByteArray.empty)) (IntKind.wrap .i64 (x7 + (1 : Int)))) else none) else none) else none
        else
          if 0 ≤ x7 ∧ x7 < (x0.length : Int) then (if x6.size + (x0.getD x7.toNat ByteArray.empty).size ≤ 4398046511104 then (if (decide (((x6 ++ (x0.getD x7.toNat ByteArray.empty)).size : Int) > (4000 : Int))) = true then
            some (ByteArray.empty, false)
          else
            spec_JoinStrings.l0 n K k x0 x1 (x6 ++ (x0.getD x7.toNat ByteArray.empty)) (IntKind.wrap .i64 (x7 + (1 : Int)))) else none) else none) else none) else none
    else
      K x6
def spec_JoinStrings.F (n : Nat) (x0 : List (ByteArray)) (x1 : ByteArray) : Option (ByteArray × Bool) :=
  if (!decide ((x1.size : Int) = (1 : Int))) = true then
    some (ByteArray.empty, false)
  else
    if (decide ((x0.length : Int) = (0 : Int))) = true then
      some (ByteArray.empty, false)
    else
      spec_JoinStrings.l0 n (fun y2 =>
        some (y2, true)) n x0 x1 ByteArray.empty (0 : Int)

/-- loop.example/g01158/impl.JoinStrings -/
def impl_JoinStrings.l0 (n : Nat) (K : (List (ByteArray)) → ByteArray → Option (ByteArray × Bool)) : Nat → (List (ByteArray)) → ByteArray → Int → Int → Int → Option (ByteArray × Bool)
  | 0, _, _, _, _, _ => none
  | k + 1, x0, x1, x6, x21, x22 =>
    if (decide (x22 < x21)) = true then
      if 0 ≤ x22 ∧ x22 < (x0.length : Int) then ((strContains.F n (x0.getD x22.toNat ByteArray.empty) x1).bind fun r1 =>
      if r1 = true then
        some (ByteArray.empty, false)
      else
        if (decide ((IntKind.wrap .i64 (x6 + ((x0.getD x22.toNat ByteArray.empty).size : Int))) > (4000 : Int))) = true then
          some (ByteArray.empty, false)
        else
          impl_JoinStrings.l0 n K k x0 x1 (IntKind.wrap .i64 (x6 + ((x0.getD x22.toNat ByteArray.empty).size : Int))) x21 (IntKind.wrap .i64 (x22 + (1 : Int)))) else none
    else
      K x0 x1
def impl_JoinStrings.F (n : Nat) (x0 : List (ByteArray)) (x1 : ByteArray) : Option (ByteArray × Bool) :=
  if (decide ((x0.length : Int) = (0 : Int))) = true then
    some (ByteArray.empty, false)
  else
    if (!decide ((x1.size : Int) = (1 : Int))) = true then
      some (ByteArray.empty, false)
    else
      impl_JoinStrings.l0 n (fun y2 y3 =>
        (strJoin.F n y2 y3).bind fun r4 =>
        some (r4, true)) n x0 x1 (IntKind.wrap .i64 ((x0.length : Int) - (1 : Int))) (x0.length : Int) (0 : Int)

/-- loop.example/g01158/laws.eqStringS -/
def laws_eqStringS.l0 (n : Nat) (K : Unit → Option (Bool)) : Nat → (List (ByteArray)) → (List (ByteArray)) → Int → Option (Bool)
  | 0, _, _, _ => none
  | k + 1, x0, x1, x5 =>
    if (decide (x5 < (x0.length : Int))) = true then
      if 0 ≤ x5 ∧ x5 < (x0.length : Int) then (if 0 ≤ x5 ∧ x5 < (x1.length : Int) then (if (!((x0.getD x5.toNat ByteArray.empty).toList == (x1.getD x5.toNat ByteArray.empty).toList)) = true then
        some false
      else
        laws_eqStringS.l0 n K k x0 x1 (IntKind.wrap .i64 (x5 + (1 : Int)))) else none) else none
    else
      K ()
def laws_eqStringS.F (n : Nat) (x0 : List (ByteArray)) (x1 : List (ByteArray)) : Option (Bool) :=
  if (!decide ((x0.length : Int) = (x1.length : Int))) = true then
    some false
  else
    laws_eqStringS.l0 n (fun _ =>
      some true) n x0 x1 (0 : Int)

/-- loop.example/g01158/laws.FnExactJoinStrings -/
def laws_FnExactJoinStrings.F (n : Nat) (x0 : List (ByteArray)) (x1 : ByteArray) : Option (Bool) :=
  if (decide ((x1.size : Int) > (1048576 : Int))) = true then
    some true
  else
    (laws_szStringS.F n x0 (1048576 : Int)).bind fun r1 =>
    if (decide (r1 < (0 : Int))) = true then
      some true
    else
      (laws_toStringS.F n x0).bind fun r2 =>
      (spec_JoinStrings.F n r2 x1).bind fun r3 =>
      (laws_toStringS.F n x0).bind fun r4 =>
      (impl_JoinStrings.F n r4 x1).bind fun r5 =>
      if (!(r5.1.toList == r3.1.toList)) = true then
        some false
      else
        if (!(r5.2 == r3.2)) = true then
          some false
        else
          (laws_toStringS.F n x0).bind fun r6 =>
          (laws_eqStringS.F n r4 r6).bind fun r7 =>
          if (!r7) = true then
            some false
          else
            some true

end Go.Pf
