/- The reflective executor: functions of the library over texts, as Lean functions. -/
import Derived.Test.YtfgncboicamdjaaGreatDoorGwA
import Derived.Lib.AtoiAll
import Derived.Lib.IndexMore
import Derived.Lib.ItoaNum
import Derived.Lib.Join
import Derived.Lib.Split
import Derived.Lib.SplitLaws
noncomputable section
set_option linter.unusedVariables false
set_option autoImplicit false
namespace Go.Pf
open Go

def strContains.F (n : Nat) (s sub : ByteArray) : Option Bool := if s.size < 4294967281 then some (Lib.contains s.data.toList sub.data.toList) else none
def strCut.F (n : Nat) (s sep : ByteArray) : Option (ByteArray × ByteArray × Bool) :=
  if s.size < 4294967281 then some (⟨(Lib.cut s.data.toList sep.data.toList).1.toArray⟩, ⟨(Lib.cut s.data.toList sep.data.toList).2.1.toArray⟩, (Lib.cut s.data.toList sep.data.toList).2.2) else none
def strItoa.F (n : Nat) (x : Int) : Option ByteArray := if -9223372036854775808 ≤ x ∧ x ≤ 9223372036854775807 then some ⟨(Lib.itoa x).toArray⟩ else none
def strJoin.F (n : Nat) (xs : List ByteArray) (sep : ByteArray) : Option ByteArray :=
  if xs.length ≤ 140737488355328 ∧ (Lib.join (xs.map (·.data.toList)) sep.data.toList).length ≤ 140737488355328 then some ⟨(Lib.join (xs.map (·.data.toList)) sep.data.toList).toArray⟩ else none
def strSplit.F (n : Nat) (s sep : ByteArray) : Option (List ByteArray) := if s.size < 4294967281 ∧ 1 ≤ sep.size then some (Lib.splitB sep 0 (Lib.countB s sep) s) else none
/-- The program's reading of a number, by the library's. -/
def strParse.F (n : Nat) (s : ByteArray) : Option (Int × Bool) :=
  if s.size ≤ 1048576 then some (match Lib.atoiAll s.data.toList with
    | .ok v => if (-999999 ≤ v ∧ v ≤ 999999) ∧ Lib.itoa v = s.data.toList then (v, true) else (0, false)
    | _ => (0, false)) else none
end Go.Pf
end
