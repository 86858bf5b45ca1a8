/- The plain law of FnExactIsMaze: both tellings of what a maze is agree at every maze. -/
import Derived.Test.YteenokkklgnhhaaDoorPvBase
set_option linter.unusedVariables false
set_option linter.unusedSimpArgs false
set_option autoImplicit false
namespace Go.Pv
open Go Go.Fx Go.Pf

def setB (x : Int) : Bool := decide (0 ≤ x) && decide (x ≤ 63)
def lex3 (p q : Int × Int × Int) : Bool := decide (p.1 < q.1) || (decide (p.1 = q.1) && (decide (p.2.1 < q.2.1) || (decide (p.2.1 = q.2.1) && decide (p.2.2 < q.2.2))))
def cmpI (x y : Int) : Int := if x < y then -1 else if x > y then 1 else 0
end Go.Pv
