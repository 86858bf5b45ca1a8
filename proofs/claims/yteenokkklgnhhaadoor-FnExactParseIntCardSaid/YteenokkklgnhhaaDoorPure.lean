/- The pure functions of this seat's Go functions, as a program of mine (mach.py) printed them. -/
import Derived.Test.YteenokkklgnhhaaDoorGwA
import Derived.Test.YteenokkklgnhhaaDoorGwT
set_option linter.unusedVariables false
set_option autoImplicit false
namespace Go.Pf
open Go Go.Fx

/-- loop.example/g01158/spec.l1In -/
def spec_l1In.F (n : Nat) (x0 : Int) (x1 : Int) (x2 : Int) : Option (Bool) :=
  if (decide (x0 ≥ x1)) = true then
    some (decide (x0 ≤ x2))
  else
    some false

/-- loop.example/g01158/spec.l1Num -/
def spec_l1Num.F : Nat → Int → Option (ByteArray)
  | 0, _ => none
  | n + 1, x0 =>
    if (decide (x0 < (0 : Int))) = true then
      (spec_l1Num.F n (IntKind.wrap .i64 (-x0))).bind fun r1 =>
      if (⟨#[45]⟩ : ByteArray).size + r1.size ≤ 4398046511104 then (some ((⟨#[45]⟩ : ByteArray) ++ r1)) else none
    else
      if (decide (x0 < (10 : Int))) = true then
        if 0 ≤ x0 ∧ x0 ≤ (IntKind.wrap .i64 (x0 + (1 : Int))) ∧ (IntKind.wrap .i64 (x0 + (1 : Int))) ≤ ((⟨#[48, 49, 50, 51, 52, 53, 54, 55, 56, 57]⟩ : ByteArray).size : Int) then (some ((⟨#[48, 49, 50, 51, 52, 53, 54, 55, 56, 57]⟩ : ByteArray).extract x0.toNat ((IntKind.wrap .i64 (x0 + (1 : Int))).toNat))) else none
      else
        (spec_l1Num.F n (IntKind.wrap .i64 (Int.tdiv x0 10))).bind fun r2 =>
        if 0 ≤ (Int.tmod x0 10) ∧ (Int.tmod x0 10) ≤ (IntKind.wrap .i64 ((Int.tmod x0 10) + (1 : Int))) ∧ (IntKind.wrap .i64 ((Int.tmod x0 10) + (1 : Int))) ≤ ((⟨#[48, 49, 50, 51, 52, 53, 54, 55, 56, 57]⟩ : ByteArray).size : Int) then (if r2.size + ((⟨#[48, 49, 50, 51, 52, 53, 54, 55, 56, 57]⟩ : ByteArray).extract ((Int.tmod x0 10).toNat) ((IntKind.wrap .i64 ((Int.tmod x0 10) + (1 : Int))).toNat)).size ≤ 4398046511104 then (some (r2 ++ ((⟨#[48, 49, 50, 51, 52, 53, 54, 55, 56, 57]⟩ : ByteArray).extract ((Int.tmod x0 10).toNat) ((IntKind.wrap .i64 ((Int.tmod x0 10) + (1 : Int))).toNat)))) else none) else none

/-- loop.example/g01158/spec.l1Read -/
def spec_l1Read.l0 (n : Nat) (K : ByteArray → ByteArray → Int → Option (Int × Bool)) : Nat → ByteArray → ByteArray → Int → Int → Option (Int × Bool)
  | 0, _, _, _, _ => none
  | k + 1, x0, x4, x5, x6 =>
    if (decide (x6 < (x4.size : Int))) = true then
      if 0 ≤ x6 ∧ x6 < (x4.size : Int) then (if (decide ((bAt x4 x6.toNat) < (48 : Int))) = true then
        some ((0 : Int), false)
      else
        if 0 ≤ x6 ∧ x6 < (x4.size : Int) then (if (decide ((bAt x4 x6.toNat) > (57 : Int))) = true then
          some ((0 : Int), false)
        else
          if 0 ≤ x6 ∧ x6 < (x4.size : Int) then (spec_l1Read.l0 n K k x0 x4 (IntKind.wrap .i64 ((IntKind.wrap .i64 ((10 : Int) * x5)) + (IntKind.wrap .i64 (IntKind.wrap .u8 ((bAt x4 x6.toNat) - (48 : Int)))))) (IntKind.wrap .i64 (x6 + (1 : Int)))) else none) else none) else none
    else
      K x0 x4 x5
def spec_l1Read.F (n : Nat) (x0 : ByteArray) : Option (Int × Bool) :=
  let j4 : (ByteArray) → (ByteArray) → Option (Int × Bool) := fun j4_x0 j4_x4 =>
    (spec_l1In.F n (j4_x4.size : Int) (1 : Int) (6 : Int)).bind fun r1 =>
    if (!r1) = true then
      some ((0 : Int), false)
    else
      spec_l1Read.l0 n (fun y2 y3 y4 =>
        if (decide ((y3.size : Int) < (y2.size : Int))) = true then
          (spec_l1Num.F n (IntKind.wrap .i64 (-y4))).bind fun r5 =>
          if (!(r5.toList == y2.toList)) = true then
            some ((0 : Int), false)
          else
            some (IntKind.wrap .i64 (-y4), true)
        else
          (spec_l1Num.F n y4).bind fun r6 =>
          if (!(r6.toList == y2.toList)) = true then
            some ((0 : Int), false)
          else
            some (y4, true)) n j4_x0 j4_x4 (0 : Int) (0 : Int)
  if (decide ((x0.size : Int) > (1 : Int))) = true then
    if 0 ≤ (0 : Int) ∧ (0 : Int) < (x0.size : Int) then (if (decide ((bAt x0 0) = (45 : Int))) = true then
      if 0 ≤ (1 : Int) ∧ (1 : Int) ≤ (x0.size : Int) then (j4 x0 (x0.extract 1 x0.size)) else none
    else
      j4 x0 x0) else none
  else
    j4 x0 x0

/-- loop.example/g01158/spec.ParseInt -/
def spec_ParseInt.F (n : Nat) (x0 : ByteArray) : Option (Int × Bool) :=
  (spec_l1Read.F n x0).bind fun r1 =>
  some (r1.1, r1.2)

/-- loop.example/g01158/laws.FnExactParseInt -/
def laws_FnExactParseInt.F (n : Nat) (x0 : ByteArray) : Option (Bool) :=
  if (decide ((x0.size : Int) > (1048576 : Int))) = true then
    some true
  else
    (spec_ParseInt.F n x0).bind fun r1 =>
    (strParse.F n x0).bind fun r2 =>
    if (!decide (r2.1 = r1.1)) = true then
      some false
    else
      if (!(r2.2 == r1.2)) = true then
        some false
      else
        some true

end Go.Pf
