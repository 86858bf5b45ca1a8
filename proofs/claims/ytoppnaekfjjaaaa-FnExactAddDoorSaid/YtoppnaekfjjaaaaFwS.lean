/- The reflective executor: what sorting makes of rows, as Lean functions. -/
import Derived.Test.YtoppnaekfjjaaaaFw1
set_option linter.unusedVariables false
set_option autoImplicit false
namespace Go.Fx
open Go

def sortT (cf : (Int × Int × Int) → (Int × Int × Int) → Int) (l : List (Int × Int × Int)) : List (Int × Int × Int) := l.mergeSort fun x y => !(decide (cf y x < 0))
def sortI (l : List Int) : List Int := l.mergeSort fun x y => decide (x ≤ y)
def cmpZ (x y : Int) : Int := if x < y then -1 else if x > y then 1 else 0
/-- Three numbers are compared one after the other. -/
def cfD (p q : Int × Int × Int) : Int := if cmpZ p.1 q.1 ≠ 0 then cmpZ p.1 q.1 else if cmpZ p.2.1 q.2.1 ≠ 0 then cmpZ p.2.1 q.2.1 else cmpZ p.2.2 q.2.2
end Go.Fx
namespace Go.Pf
open Go.Fx
def sortDoors.F (n : Nat) (l : List (Int × Int × Int)) : Option (List (Int × Int × Int)) := if l.length ≤ 4398046511104 then some (sortT cfD l) else none
def sortInts.F (n : Nat) (l : List Int) : Option (List Int) := if l.length ≤ 4398046511104 then some (sortI l) else none
end Go.Pf
