/-
  No cell of these rows narrows 'for every input' (looked for: loops, veiled, ifaces, maps, wideKeys, modest, calm, conditions, laid).
  DERIVED. THE GIVEN ROWS OF THIS SEAT. 10 by the template 'for every input the law returns true; each argument reads behind the call as it read before'; 0 by the template 'total and deterministic' (their statements: YtoppnaekfjjaaaaTotals.lean).
  GIVEN WITH THE SEED: the statements are not yours to turn. If you find one false, say at which input.
  Laid BY PROGRAM, IN A SANDBOX (cutbox-rows.mjs): the forced cells as the released guide's own fill.sh prints them over the translation f97fc136db4adc73… (all of the seat's roots in one cut). By AI agents, Wed Nov 11 2026. No macro, syntax, notation, axiom, sorry.
-/
import Derived.Test.YtoppnaekfjjaaaaChecked
import GoSem.Claim
import GoSem.ClaimJoined
import GoSem.ClaimMapViews
import Derived.JoinedTies
import Derived.KernelRfl
namespace Go.Proofs.Ytoppnaekfjjaaaa
/- THE CELL 'sum', in the pinned program and in every row, IS THE sha256 OF THE DUMP (.gsa) THAT YtoppnaekfjjaaaaProg.lean LOADS. Nothing in Lean hashes anything: it is a label: what it is worth is what the hold of that sum in a sandbox is worth. -/
noncomputable def Try.pinned : Pinned := { name := "ytoppnaekfjjaaaa", sum := "f97fc136db4adc73a6fdf8fda18f36211a131a2760c27aee32e6ac86e6de2ef7", checked := Try.checked }
namespace Rows
def none {H : Type} : Left H := { results := [], args := [] }

/-- 'laws.FnExactRepaintMaze': WHATEVER THE INPUT: true; the input reads as it did. -/
def fnExactRepaintMazeSpec : ChangeSpec := { name := "fnExactRepaintMaze", fn := fun _ => fun
  | [d1, d2] => { results := [.lit (.bool true)], args := [d1, d2] }
  | _ => none }
def fnExactRepaintMazeRow : OpenClaim := { program := "ytoppnaekfjjaaaa", sum := "f97fc136db4adc73a6fdf8fda18f36211a131a2760c27aee32e6ac86e6de2ef7", func := "loop.example/g01158/laws.FnExactRepaintMaze", spec := "fnExactRepaintMaze", unfollowed := true, recurses := true, plainKeys := false, apart := false }
def FnExactRepaintMazeSaid : Prop := fnExactRepaintMazeRow.holds Try.pinned (OpenSpec.ofChange fnExactRepaintMazeSpec)

/-- ITS FALSE NEIGHBOUR: 'it returns false'. Refute it at one input. -/
def fnExactRepaintMazeWrong : ChangeSpec := { name := "fnExactRepaintMaze", fn := fun _ => fun
  | [d1, d2] => { results := [.lit (.bool false)], args := [d1, d2] }
  | _ => none }
def FnExactRepaintMazeWrongFalsely : Prop := fnExactRepaintMazeRow.holds Try.pinned (OpenSpec.ofChange fnExactRepaintMazeWrong)

/-- 'laws.FnExactBarColours': WHATEVER THE INPUT: true; the input reads as it did. -/
def fnExactBarColoursSpec : ChangeSpec := { name := "fnExactBarColours", fn := fun _ => fun
  | [d1, d2] => { results := [.lit (.bool true)], args := [d1, d2] }
  | _ => none }
def fnExactBarColoursRow : OpenClaim := { program := "ytoppnaekfjjaaaa", sum := "f97fc136db4adc73a6fdf8fda18f36211a131a2760c27aee32e6ac86e6de2ef7", func := "loop.example/g01158/laws.FnExactBarColours", spec := "fnExactBarColours", unfollowed := true, recurses := true, plainKeys := false, apart := false }
def FnExactBarColoursSaid : Prop := fnExactBarColoursRow.holds Try.pinned (OpenSpec.ofChange fnExactBarColoursSpec)

/-- ITS FALSE NEIGHBOUR: 'it returns false'. Refute it at one input. -/
def fnExactBarColoursWrong : ChangeSpec := { name := "fnExactBarColours", fn := fun _ => fun
  | [d1, d2] => { results := [.lit (.bool false)], args := [d1, d2] }
  | _ => none }
def FnExactBarColoursWrongFalsely : Prop := fnExactBarColoursRow.holds Try.pinned (OpenSpec.ofChange fnExactBarColoursWrong)

/-- 'laws.FnExactFreeColours': WHATEVER THE INPUT: true; the input reads as it did. -/
def fnExactFreeColoursSpec : ChangeSpec := { name := "fnExactFreeColours", fn := fun _ => fun
  | [d1, d2] => { results := [.lit (.bool true)], args := [d1, d2] }
  | _ => none }
def fnExactFreeColoursRow : OpenClaim := { program := "ytoppnaekfjjaaaa", sum := "f97fc136db4adc73a6fdf8fda18f36211a131a2760c27aee32e6ac86e6de2ef7", func := "loop.example/g01158/laws.FnExactFreeColours", spec := "fnExactFreeColours", unfollowed := true, recurses := true, plainKeys := false, apart := false }
def FnExactFreeColoursSaid : Prop := fnExactFreeColoursRow.holds Try.pinned (OpenSpec.ofChange fnExactFreeColoursSpec)

/-- ITS FALSE NEIGHBOUR: 'it returns false'. Refute it at one input. -/
def fnExactFreeColoursWrong : ChangeSpec := { name := "fnExactFreeColours", fn := fun _ => fun
  | [d1, d2] => { results := [.lit (.bool false)], args := [d1, d2] }
  | _ => none }
def FnExactFreeColoursWrongFalsely : Prop := fnExactFreeColoursRow.holds Try.pinned (OpenSpec.ofChange fnExactFreeColoursWrong)

/-- 'laws.FnExactAddDoor': WHATEVER THE INPUT: true; the input reads as it did. -/
def fnExactAddDoorSpec : ChangeSpec := { name := "fnExactAddDoor", fn := fun _ => fun
  | [d1, d2, d3, d4] => { results := [.lit (.bool true)], args := [d1, d2, d3, d4] }
  | _ => none }
def fnExactAddDoorRow : OpenClaim := { program := "ytoppnaekfjjaaaa", sum := "f97fc136db4adc73a6fdf8fda18f36211a131a2760c27aee32e6ac86e6de2ef7", func := "loop.example/g01158/laws.FnExactAddDoor", spec := "fnExactAddDoor", unfollowed := true, recurses := true, plainKeys := false, apart := false }
def FnExactAddDoorSaid : Prop := fnExactAddDoorRow.holds Try.pinned (OpenSpec.ofChange fnExactAddDoorSpec)

/-- ITS FALSE NEIGHBOUR: 'it returns false'. Refute it at one input. -/
def fnExactAddDoorWrong : ChangeSpec := { name := "fnExactAddDoor", fn := fun _ => fun
  | [d1, d2, d3, d4] => { results := [.lit (.bool false)], args := [d1, d2, d3, d4] }
  | _ => none }
def FnExactAddDoorWrongFalsely : Prop := fnExactAddDoorRow.holds Try.pinned (OpenSpec.ofChange fnExactAddDoorWrong)

/-- 'laws.FnExactMirrorMaze': WHATEVER THE INPUT: true; the input reads as it did. -/
def fnExactMirrorMazeSpec : ChangeSpec := { name := "fnExactMirrorMaze", fn := fun _ => fun
  | [d] => { results := [.lit (.bool true)], args := [d] }
  | _ => none }
def fnExactMirrorMazeRow : OpenClaim := { program := "ytoppnaekfjjaaaa", sum := "f97fc136db4adc73a6fdf8fda18f36211a131a2760c27aee32e6ac86e6de2ef7", func := "loop.example/g01158/laws.FnExactMirrorMaze", spec := "fnExactMirrorMaze", unfollowed := true, recurses := true, plainKeys := false, apart := false }
def FnExactMirrorMazeSaid : Prop := fnExactMirrorMazeRow.holds Try.pinned (OpenSpec.ofChange fnExactMirrorMazeSpec)

/-- ITS FALSE NEIGHBOUR: 'it returns false'. Refute it at one input. -/
def fnExactMirrorMazeWrong : ChangeSpec := { name := "fnExactMirrorMaze", fn := fun _ => fun
  | [d] => { results := [.lit (.bool false)], args := [d] }
  | _ => none }
def FnExactMirrorMazeWrongFalsely : Prop := fnExactMirrorMazeRow.holds Try.pinned (OpenSpec.ofChange fnExactMirrorMazeWrong)

/-- 'laws.FnExactNumberMaze': WHATEVER THE INPUT: true; the input reads as it did. -/
def fnExactNumberMazeSpec : ChangeSpec := { name := "fnExactNumberMaze", fn := fun _ => fun
  | [d1, d2] => { results := [.lit (.bool true)], args := [d1, d2] }
  | _ => none }
def fnExactNumberMazeRow : OpenClaim := { program := "ytoppnaekfjjaaaa", sum := "f97fc136db4adc73a6fdf8fda18f36211a131a2760c27aee32e6ac86e6de2ef7", func := "loop.example/g01158/laws.FnExactNumberMaze", spec := "fnExactNumberMaze", unfollowed := true, recurses := true, plainKeys := false, apart := false }
def FnExactNumberMazeSaid : Prop := fnExactNumberMazeRow.holds Try.pinned (OpenSpec.ofChange fnExactNumberMazeSpec)

/-- ITS FALSE NEIGHBOUR: 'it returns false'. Refute it at one input. -/
def fnExactNumberMazeWrong : ChangeSpec := { name := "fnExactNumberMaze", fn := fun _ => fun
  | [d1, d2] => { results := [.lit (.bool false)], args := [d1, d2] }
  | _ => none }
def FnExactNumberMazeWrongFalsely : Prop := fnExactNumberMazeRow.holds Try.pinned (OpenSpec.ofChange fnExactNumberMazeWrong)

/-- 'laws.FnMazeForms': WHATEVER THE INPUT: true; the input reads as it did. -/
def fnMazeFormsSpec : ChangeSpec := { name := "fnMazeForms", fn := fun _ => fun
  | [d] => { results := [.lit (.bool true)], args := [d] }
  | _ => none }
def fnMazeFormsRow : OpenClaim := { program := "ytoppnaekfjjaaaa", sum := "f97fc136db4adc73a6fdf8fda18f36211a131a2760c27aee32e6ac86e6de2ef7", func := "loop.example/g01158/laws.FnMazeForms", spec := "fnMazeForms", unfollowed := true, recurses := true, plainKeys := false, apart := false }
def FnMazeFormsSaid : Prop := fnMazeFormsRow.holds Try.pinned (OpenSpec.ofChange fnMazeFormsSpec)

/-- ITS FALSE NEIGHBOUR: 'it returns false'. Refute it at one input. -/
def fnMazeFormsWrong : ChangeSpec := { name := "fnMazeForms", fn := fun _ => fun
  | [d] => { results := [.lit (.bool false)], args := [d] }
  | _ => none }
def FnMazeFormsWrongFalsely : Prop := fnMazeFormsRow.holds Try.pinned (OpenSpec.ofChange fnMazeFormsWrong)

/-- 'laws.FnRemaining': WHATEVER THE INPUT: true; the input reads as it did. -/
def fnRemainingSpec : ChangeSpec := { name := "fnRemaining", fn := fun _ => fun
  | [d] => { results := [.lit (.bool true)], args := [d] }
  | _ => none }
def fnRemainingRow : OpenClaim := { program := "ytoppnaekfjjaaaa", sum := "f97fc136db4adc73a6fdf8fda18f36211a131a2760c27aee32e6ac86e6de2ef7", func := "loop.example/g01158/laws.FnRemaining", spec := "fnRemaining", unfollowed := true, recurses := true, plainKeys := false, apart := false }
def FnRemainingSaid : Prop := fnRemainingRow.holds Try.pinned (OpenSpec.ofChange fnRemainingSpec)

/-- ITS FALSE NEIGHBOUR: 'it returns false'. Refute it at one input. -/
def fnRemainingWrong : ChangeSpec := { name := "fnRemaining", fn := fun _ => fun
  | [d] => { results := [.lit (.bool false)], args := [d] }
  | _ => none }
def FnRemainingWrongFalsely : Prop := fnRemainingRow.holds Try.pinned (OpenSpec.ofChange fnRemainingWrong)

/-- 'laws.FnWays': WHATEVER THE INPUT: true; the input reads as it did. -/
def fnWaysSpec : ChangeSpec := { name := "fnWays", fn := fun _ => fun
  | [d] => { results := [.lit (.bool true)], args := [d] }
  | _ => none }
def fnWaysRow : OpenClaim := { program := "ytoppnaekfjjaaaa", sum := "f97fc136db4adc73a6fdf8fda18f36211a131a2760c27aee32e6ac86e6de2ef7", func := "loop.example/g01158/laws.FnWays", spec := "fnWays", unfollowed := true, recurses := true, plainKeys := false, apart := false }
def FnWaysSaid : Prop := fnWaysRow.holds Try.pinned (OpenSpec.ofChange fnWaysSpec)

/-- ITS FALSE NEIGHBOUR: 'it returns false'. Refute it at one input. -/
def fnWaysWrong : ChangeSpec := { name := "fnWays", fn := fun _ => fun
  | [d] => { results := [.lit (.bool false)], args := [d] }
  | _ => none }
def FnWaysWrongFalsely : Prop := fnWaysRow.holds Try.pinned (OpenSpec.ofChange fnWaysWrong)

/-- 'laws.FnWithout': WHATEVER THE INPUT: true; the input reads as it did. -/
def fnWithoutSpec : ChangeSpec := { name := "fnWithout", fn := fun _ => fun
  | [d] => { results := [.lit (.bool true)], args := [d] }
  | _ => none }
def fnWithoutRow : OpenClaim := { program := "ytoppnaekfjjaaaa", sum := "f97fc136db4adc73a6fdf8fda18f36211a131a2760c27aee32e6ac86e6de2ef7", func := "loop.example/g01158/laws.FnWithout", spec := "fnWithout", unfollowed := true, recurses := true, plainKeys := false, apart := false }
def FnWithoutSaid : Prop := fnWithoutRow.holds Try.pinned (OpenSpec.ofChange fnWithoutSpec)

/-- ITS FALSE NEIGHBOUR: 'it returns false'. Refute it at one input. -/
def fnWithoutWrong : ChangeSpec := { name := "fnWithout", fn := fun _ => fun
  | [d] => { results := [.lit (.bool false)], args := [d] }
  | _ => none }
def FnWithoutWrongFalsely : Prop := fnWithoutRow.holds Try.pinned (OpenSpec.ofChange fnWithoutWrong)

/- THE SECOND FORM. 'bulk': how many values and letters a reading holds, each counted each time it is reached (what is shared counts as often as it is met; a slice's spare places count too). A statement '..UptoSaid' is the law's where the arguments, and the package variables that the reading takes, are together of bulk at most 1048576: NARROWER than '..Said'. Prove '..Said' where nothing that the law and all that it calls make is longer than what came in: it says more and counts as full. Else prove '..UptoSaid'. A law counts once. -/
mutual
def uptoBulk {H : Type} : DataW H → Nat
  | .lit (.string bytes) => bytes.length + 1
  | .lit _ => 1
  | .nil => 1
  | .ptr d => uptoBulk d + 1
  | .slice elems spare => uptoBulkAll elems + uptoBulkAll spare + 1
  | .agg parts => uptoBulkAll parts + 1
  | .iface _ d => uptoBulk d + 1
  | .map entries => uptoBulkEntries entries + 1
  | .held _ => 1
def uptoBulkAll {H : Type} : List (DataW H) → Nat
  | [] => 0
  | d :: r => uptoBulk d + uptoBulkAll r
def uptoBulkEntries {H : Type} : List (Lit × DataW H) → Nat
  | [] => 0
  | x :: r => uptoBulkEntry x + uptoBulkEntries r
def uptoBulkEntry {H : Type} : Lit × DataW H → Nat
  | (.string bytes, d) => bytes.length + uptoBulk d + 1
  | (_, d) => uptoBulk d + 1
 end
def uptoSmall : (H : Type) → List (DataW H) → Bool := fun _ ds => decide (uptoBulkAll ds ≤ 1048576)
def OpenSpec.upto (s : _root_.Go.ChangeSpec) : _root_.Go.OpenSpec := { _root_.Go.OpenSpec.ofChange s with cond := some uptoSmall }

/-- 'laws.FnExactRepaintMaze', WHERE WHAT IT READS IS OF BULK AT MOST 1048576: true; the input reads as it did. -/
def fnExactRepaintMazeUptoRow : OpenClaim := { program := "ytoppnaekfjjaaaa", sum := "f97fc136db4adc73a6fdf8fda18f36211a131a2760c27aee32e6ac86e6de2ef7", func := "loop.example/g01158/laws.FnExactRepaintMaze", spec := "fnExactRepaintMaze", unfollowed := true, recurses := true, plainKeys := false, apart := false, narrowed := true }
def FnExactRepaintMazeUptoSaid : Prop := fnExactRepaintMazeUptoRow.holds Try.pinned (OpenSpec.upto fnExactRepaintMazeSpec)

/-- 'laws.FnExactBarColours', WHERE WHAT IT READS IS OF BULK AT MOST 1048576: true; the input reads as it did. -/
def fnExactBarColoursUptoRow : OpenClaim := { program := "ytoppnaekfjjaaaa", sum := "f97fc136db4adc73a6fdf8fda18f36211a131a2760c27aee32e6ac86e6de2ef7", func := "loop.example/g01158/laws.FnExactBarColours", spec := "fnExactBarColours", unfollowed := true, recurses := true, plainKeys := false, apart := false, narrowed := true }
def FnExactBarColoursUptoSaid : Prop := fnExactBarColoursUptoRow.holds Try.pinned (OpenSpec.upto fnExactBarColoursSpec)

/-- 'laws.FnExactFreeColours', WHERE WHAT IT READS IS OF BULK AT MOST 1048576: true; the input reads as it did. -/
def fnExactFreeColoursUptoRow : OpenClaim := { program := "ytoppnaekfjjaaaa", sum := "f97fc136db4adc73a6fdf8fda18f36211a131a2760c27aee32e6ac86e6de2ef7", func := "loop.example/g01158/laws.FnExactFreeColours", spec := "fnExactFreeColours", unfollowed := true, recurses := true, plainKeys := false, apart := false, narrowed := true }
def FnExactFreeColoursUptoSaid : Prop := fnExactFreeColoursUptoRow.holds Try.pinned (OpenSpec.upto fnExactFreeColoursSpec)

/-- 'laws.FnExactAddDoor', WHERE WHAT IT READS IS OF BULK AT MOST 1048576: true; the input reads as it did. -/
def fnExactAddDoorUptoRow : OpenClaim := { program := "ytoppnaekfjjaaaa", sum := "f97fc136db4adc73a6fdf8fda18f36211a131a2760c27aee32e6ac86e6de2ef7", func := "loop.example/g01158/laws.FnExactAddDoor", spec := "fnExactAddDoor", unfollowed := true, recurses := true, plainKeys := false, apart := false, narrowed := true }
def FnExactAddDoorUptoSaid : Prop := fnExactAddDoorUptoRow.holds Try.pinned (OpenSpec.upto fnExactAddDoorSpec)

/-- 'laws.FnExactMirrorMaze', WHERE WHAT IT READS IS OF BULK AT MOST 1048576: true; the input reads as it did. -/
def fnExactMirrorMazeUptoRow : OpenClaim := { program := "ytoppnaekfjjaaaa", sum := "f97fc136db4adc73a6fdf8fda18f36211a131a2760c27aee32e6ac86e6de2ef7", func := "loop.example/g01158/laws.FnExactMirrorMaze", spec := "fnExactMirrorMaze", unfollowed := true, recurses := true, plainKeys := false, apart := false, narrowed := true }
def FnExactMirrorMazeUptoSaid : Prop := fnExactMirrorMazeUptoRow.holds Try.pinned (OpenSpec.upto fnExactMirrorMazeSpec)

/-- 'laws.FnExactNumberMaze', WHERE WHAT IT READS IS OF BULK AT MOST 1048576: true; the input reads as it did. -/
def fnExactNumberMazeUptoRow : OpenClaim := { program := "ytoppnaekfjjaaaa", sum := "f97fc136db4adc73a6fdf8fda18f36211a131a2760c27aee32e6ac86e6de2ef7", func := "loop.example/g01158/laws.FnExactNumberMaze", spec := "fnExactNumberMaze", unfollowed := true, recurses := true, plainKeys := false, apart := false, narrowed := true }
def FnExactNumberMazeUptoSaid : Prop := fnExactNumberMazeUptoRow.holds Try.pinned (OpenSpec.upto fnExactNumberMazeSpec)

/-- 'laws.FnMazeForms', WHERE WHAT IT READS IS OF BULK AT MOST 1048576: true; the input reads as it did. -/
def fnMazeFormsUptoRow : OpenClaim := { program := "ytoppnaekfjjaaaa", sum := "f97fc136db4adc73a6fdf8fda18f36211a131a2760c27aee32e6ac86e6de2ef7", func := "loop.example/g01158/laws.FnMazeForms", spec := "fnMazeForms", unfollowed := true, recurses := true, plainKeys := false, apart := false, narrowed := true }
def FnMazeFormsUptoSaid : Prop := fnMazeFormsUptoRow.holds Try.pinned (OpenSpec.upto fnMazeFormsSpec)

/-- 'laws.FnRemaining', WHERE WHAT IT READS IS OF BULK AT MOST 1048576: true; the input reads as it did. -/
def fnRemainingUptoRow : OpenClaim := { program := "ytoppnaekfjjaaaa", sum := "f97fc136db4adc73a6fdf8fda18f36211a131a2760c27aee32e6ac86e6de2ef7", func := "loop.example/g01158/laws.FnRemaining", spec := "fnRemaining", unfollowed := true, recurses := true, plainKeys := false, apart := false, narrowed := true }
def FnRemainingUptoSaid : Prop := fnRemainingUptoRow.holds Try.pinned (OpenSpec.upto fnRemainingSpec)

/-- 'laws.FnWays', WHERE WHAT IT READS IS OF BULK AT MOST 1048576: true; the input reads as it did. -/
def fnWaysUptoRow : OpenClaim := { program := "ytoppnaekfjjaaaa", sum := "f97fc136db4adc73a6fdf8fda18f36211a131a2760c27aee32e6ac86e6de2ef7", func := "loop.example/g01158/laws.FnWays", spec := "fnWays", unfollowed := true, recurses := true, plainKeys := false, apart := false, narrowed := true }
def FnWaysUptoSaid : Prop := fnWaysUptoRow.holds Try.pinned (OpenSpec.upto fnWaysSpec)

/-- 'laws.FnWithout', WHERE WHAT IT READS IS OF BULK AT MOST 1048576: true; the input reads as it did. -/
def fnWithoutUptoRow : OpenClaim := { program := "ytoppnaekfjjaaaa", sum := "f97fc136db4adc73a6fdf8fda18f36211a131a2760c27aee32e6ac86e6de2ef7", func := "loop.example/g01158/laws.FnWithout", spec := "fnWithout", unfollowed := true, recurses := true, plainKeys := false, apart := false, narrowed := true }
def FnWithoutUptoSaid : Prop := fnWithoutUptoRow.holds Try.pinned (OpenSpec.upto fnWithoutSpec)

end Rows
end Go.Proofs.Ytoppnaekfjjaaaa
