/- The pure functions of this seat's Go functions, as a program of mine (mach.py) printed them. -/
import Derived.Test.YteenokkklgnhhaaDoorGwA
import Derived.Test.YteenokkklgnhhaaDoorGwT
set_option linter.unusedVariables false
set_option autoImplicit false
namespace Go.Pf
open Go Go.Fx

/-- loop.example/g01158/spec.l1Split -/
def spec_l1Split.l0 (n : Nat) (K : ByteArray → (List (ByteArray)) → Int → Option ((List (ByteArray)))) : Nat → ByteArray → Int → (List (ByteArray)) → Int → Int → Option ((List (ByteArray)))
  | 0, _, _, _, _, _ => none
  | k + 1, x0, x1, x5, x6, x7 =>
    if (decide (x7 < (x0.size : Int))) = true then
      if 0 ≤ x7 ∧ x7 < (x0.size : Int) then (if (decide ((bAt x0 x7.toNat) = x1)) = true then
        if 0 ≤ x6 ∧ x6 ≤ x7 ∧ x7 ≤ (x0.size : Int) then (if x5.length + ([x0.extract x6.toNat x7.toNat] : List (ByteArray)).length ≤ 4398046511104 then (spec_l1Split.l0 n K k x0 x1 (x5 ++ ([x0.extract x6.toNat x7.toNat] : List (ByteArray))) (IntKind.wrap .i64 (x7 + (1 : Int))) (IntKind.wrap .i64 (x7 + (1 : Int)))) else none) else none
      else
        spec_l1Split.l0 n K k x0 x1 x5 x6 (IntKind.wrap .i64 (x7 + (1 : Int)))) else none
    else
      K x0 x5 x6
def spec_l1Split.F (n : Nat) (x0 : ByteArray) (x1 : Int) : Option ((List (ByteArray))) :=
  spec_l1Split.l0 n (fun y1 y2 y3 =>
    if 0 ≤ y3 ∧ y3 ≤ (y1.size : Int) then (if y2.length + ([y1.extract y3.toNat y1.size] : List (ByteArray)).length ≤ 4398046511104 then (some (y2 ++ ([y1.extract y3.toNat y1.size] : List (ByteArray)))) else none) else none) n x0 x1 ([] : List (ByteArray)) (0 : Int) (0 : Int)

/-- loop.example/g01158/spec.l1Sum -/
def spec_l1Sum.l0 (n : Nat) (K : Int → Option (Int)) : Nat → ByteArray → Int → Int → Option (Int)
  | 0, _, _, _ => none
  | k + 1, x0, x3, x4 =>
    if (decide (x4 < (x0.size : Int))) = true then
      if 0 ≤ x4 ∧ x4 < (x0.size : Int) then (spec_l1Sum.l0 n K k x0 (Int.tmod (IntKind.wrap .i64 ((IntKind.wrap .i64 ((IntKind.wrap .i64 ((41 : Int) * x3)) + (IntKind.wrap .i64 (bAt x0 x4.toNat)))) + (1 : Int))) 999979) (IntKind.wrap .i64 (x4 + (1 : Int)))) else none
    else
      K x3
def spec_l1Sum.F (n : Nat) (x0 : ByteArray) : Option (Int) :=
  spec_l1Sum.l0 n (fun y1 =>
    some y1) n x0 (7 : Int) (0 : Int)

/-- loop.example/g01158/spec.l1Num -/
def spec_l1Num.F : Nat → Int → Option (ByteArray)
  | 0, _ => none
  | n + 1, x0 =>
    if (decide (x0 < (0 : Int))) = true then
      (spec_l1Num.F n (IntKind.wrap .i64 (-x0))).bind fun r1 =>
      if (⟨#[45]⟩ : ByteArray).size + r1.size ≤ 4398046511104 then (some ((⟨#[45]⟩ : ByteArray) ++ r1)) else none
    else
      if (decide (x0 < (10 : Int))) = true then
        if 0 ≤ x0 ∧ x0 ≤ (IntKind.wrap .i64 (x0 + (1 : Int))) ∧ (IntKind.wrap .i64 (x0 + (1 : Int))) ≤ ((⟨#[48, 49, 50, 51, 52, 53, 54, 55, 56, 57]⟩ : ByteArray).size : Int) then (some ((⟨#[48, 49, 50, 51, 52, 53, 54, 55, 56, 57]⟩ : ByteArray).extract x0.toNat ((IntKind.wrap .i64 (x0 + (1 : Int))).toNat))) else none
      else
        (spec_l1Num.F n (IntKind.wrap .i64 (Int.tdiv x0 10))).bind fun r2 =>
        if 0 ≤ (Int.tmod x0 10) ∧ (Int.tmod x0 10) ≤ (IntKind.wrap .i64 ((Int.tmod x0 10) + (1 : Int))) ∧ (IntKind.wrap .i64 ((Int.tmod x0 10) + (1 : Int))) ≤ ((⟨#[48, 49, 50, 51, 52, 53, 54, 55, 56, 57]⟩ : ByteArray).size : Int) then (if r2.size + ((⟨#[48, 49, 50, 51, 52, 53, 54, 55, 56, 57]⟩ : ByteArray).extract ((Int.tmod x0 10).toNat) ((IntKind.wrap .i64 ((Int.tmod x0 10) + (1 : Int))).toNat)).size ≤ 4398046511104 then (some (r2 ++ ((⟨#[48, 49, 50, 51, 52, 53, 54, 55, 56, 57]⟩ : ByteArray).extract ((Int.tmod x0 10).toNat) ((IntKind.wrap .i64 ((Int.tmod x0 10) + (1 : Int))).toNat)))) else none) else none

/-- loop.example/g01158/spec.l1Seal -/
def spec_l1Seal.F (n : Nat) (x0 : ByteArray) : Option (ByteArray) :=
  if x0.size + (⟨#[35]⟩ : ByteArray).size ≤ 4398046511104 then ((spec_l1Sum.F n x0).bind fun r1 =>
  (spec_l1Num.F n r1).bind fun r2 =>
  if (x0 ++ (⟨#[35]⟩ : ByteArray)).size + r2.size ≤ 4398046511104 then (some ((x0 ++ (⟨#[35]⟩ : ByteArray)) ++ r2)) else none) else none

/-- loop.example/g01158/spec.VerifyChecksum -/
def spec_VerifyChecksum.F (n : Nat) (x0 : ByteArray) : Option (ByteArray × Bool) :=
  if (decide ((x0.size : Int) > (4000 : Int))) = true then
    some (ByteArray.empty, false)
  else
    (spec_l1Split.F n x0 (35 : Int)).bind fun r1 =>
    if 0 ≤ (0 : Int) ∧ (0 : Int) < (r1.length : Int) then ((spec_l1Seal.F n (r1.getD 0 ByteArray.empty)).bind fun r2 =>
    if (!(r2.toList == x0.toList)) = true then
      some (ByteArray.empty, false)
    else
      some ((r1.getD 0 ByteArray.empty), true)) else none

/-- loop.example/g01158/impl.checksum -/
def impl_checksum.l0 (n : Nat) (K : Int → Option (Int)) : Nat → ByteArray → Int → Int → Int → Option (Int)
  | 0, _, _, _, _ => none
  | k + 1, x0, x3, x6, x7 =>
    if (decide (x7 < x6)) = true then
      if 0 ≤ x7 ∧ x7 < (x0.size : Int) then (impl_checksum.l0 n K k x0 (Int.tmod (IntKind.wrap .i64 ((IntKind.wrap .i64 ((IntKind.wrap .i64 ((41 : Int) * x3)) + (IntKind.wrap .i64 (bAt x0 x7.toNat)))) + (1 : Int))) 999979) x6 (IntKind.wrap .i64 (x7 + (1 : Int)))) else none
    else
      K x3
def impl_checksum.F (n : Nat) (x0 : ByteArray) : Option (Int) :=
  impl_checksum.l0 n (fun y1 =>
    some y1) n x0 (7 : Int) (x0.size : Int) (0 : Int)

/-- loop.example/g01158/impl.AppendChecksum -/
def impl_AppendChecksum.F (n : Nat) (x0 : ByteArray) : Option (ByteArray × Bool) :=
  if (decide ((x0.size : Int) > (4000 : Int))) = true then
    some (ByteArray.empty, false)
  else
    (strContains.F n x0 (⟨#[35]⟩ : ByteArray)).bind fun r1 =>
    if r1 = true then
      some (ByteArray.empty, false)
    else
      if x0.size + (⟨#[35]⟩ : ByteArray).size ≤ 4398046511104 then ((impl_checksum.F n x0).bind fun r2 =>
      (strItoa.F n r2).bind fun r3 =>
      if (x0 ++ (⟨#[35]⟩ : ByteArray)).size + r3.size ≤ 4398046511104 then (if (decide ((((x0 ++ (⟨#[35]⟩ : ByteArray)) ++ r3).size : Int) > (4000 : Int))) = true then
        some (ByteArray.empty, false)
      else
        some (((x0 ++ (⟨#[35]⟩ : ByteArray)) ++ r3), true)) else none) else none

/-- loop.example/g01158/impl.VerifyChecksum -/
def impl_VerifyChecksum.F (n : Nat) (x0 : ByteArray) : Option (ByteArray × Bool) :=
  (strCut.F n x0 (⟨#[35]⟩ : ByteArray)).bind fun r1 =>
  (impl_AppendChecksum.F n r1.1).bind fun r2 =>
  if (!r2.2) = true then
    some (ByteArray.empty, false)
  else
    if (!(r2.1.toList == x0.toList)) = true then
      some (ByteArray.empty, false)
    else
      some (r1.1, true)

/-- loop.example/g01158/laws.FnExactVerifyChecksum -/
def laws_FnExactVerifyChecksum.F (n : Nat) (x0 : ByteArray) : Option (Bool) :=
  if (decide ((x0.size : Int) > (1048576 : Int))) = true then
    some true
  else
    (spec_VerifyChecksum.F n x0).bind fun r1 =>
    (impl_VerifyChecksum.F n x0).bind fun r2 =>
    if (!(r2.1.toList == r1.1.toList)) = true then
      some false
    else
      if (!(r2.2 == r1.2)) = true then
        some false
      else
        some true

/-- loop.example/g01158/spec.l1In -/
def spec_l1In.F (n : Nat) (x0 : Int) (x1 : Int) (x2 : Int) : Option (Bool) :=
  if (decide (x0 ≥ x1)) = true then
    some (decide (x0 ≤ x2))
  else
    some false

/-- loop.example/g01158/spec.FormatInt -/
def spec_FormatInt.F (n : Nat) (x0 : Int) : Option (ByteArray × Bool) :=
  (spec_l1In.F n x0 (-999999 : Int) (999999 : Int)).bind fun r1 =>
  if (!r1) = true then
    some (ByteArray.empty, false)
  else
    (spec_l1Num.F n x0).bind fun r2 =>
    some (r2, true)

/-- loop.example/g01158/impl.FormatInt -/
def impl_FormatInt.F (n : Nat) (x0 : Int) : Option (ByteArray × Bool) :=
  if (decide (x0 < (-999999 : Int))) = true then
    some (ByteArray.empty, false)
  else
    if (decide (x0 > (999999 : Int))) = true then
      some (ByteArray.empty, false)
    else
      (strItoa.F n x0).bind fun r1 =>
      some (r1, true)

/-- loop.example/g01158/laws.FnExactFormatInt -/
def laws_FnExactFormatInt.F (n : Nat) (x0 : Int) : Option (Bool) :=
  (spec_FormatInt.F n x0).bind fun r1 =>
  (impl_FormatInt.F n x0).bind fun r2 =>
  if (!(r2.1.toList == r1.1.toList)) = true then
    some false
  else
    if (!(r2.2 == r1.2)) = true then
      some false
    else
      some true

/-- loop.example/g01158/spec.l1Stands -/
def spec_l1Stands.l0 (n : Nat) (K : Unit → Option (Bool)) : Nat → ByteArray → Int → Int → Option (Bool)
  | 0, _, _, _ => none
  | k + 1, x0, x1, x5 =>
    if (decide (x5 < (x0.size : Int))) = true then
      if 0 ≤ x5 ∧ x5 < (x0.size : Int) then (if (decide ((bAt x0 x5.toNat) = x1)) = true then
        some true
      else
        spec_l1Stands.l0 n K k x0 x1 (IntKind.wrap .i64 (x5 + (1 : Int)))) else none
    else
      K ()
def spec_l1Stands.F (n : Nat) (x0 : ByteArray) (x1 : Int) : Option (Bool) :=
  spec_l1Stands.l0 n (fun _ =>
    some false) n x0 x1 (0 : Int)

/-- loop.example/g01158/spec.AppendChecksum -/
def spec_AppendChecksum.F (n : Nat) (x0 : ByteArray) : Option (ByteArray × Bool) :=
  if (decide ((x0.size : Int) > (4000 : Int))) = true then
    some (ByteArray.empty, false)
  else
    (spec_l1Stands.F n x0 (35 : Int)).bind fun r1 =>
    if r1 = true then
      some (ByteArray.empty, false)
    else
      (spec_l1Seal.F n x0).bind fun r2 =>
      if (decide ((r2.size : Int) > (4000 : Int))) = true then
        some (ByteArray.empty, false)
      else
        (spec_l1Seal.F n x0).bind fun r3 =>
        some (r3, true)

/-- loop.example/g01158/laws.FnExactAppendChecksum -/
def laws_FnExactAppendChecksum.F (n : Nat) (x0 : ByteArray) : Option (Bool) :=
  if (decide ((x0.size : Int) > (1048576 : Int))) = true then
    some true
  else
    (spec_AppendChecksum.F n x0).bind fun r1 =>
    (impl_AppendChecksum.F n x0).bind fun r2 =>
    if (!(r2.1.toList == r1.1.toList)) = true then
      some false
    else
      if (!(r2.2 == r1.2)) = true then
        some false
      else
        some true

end Go.Pf
