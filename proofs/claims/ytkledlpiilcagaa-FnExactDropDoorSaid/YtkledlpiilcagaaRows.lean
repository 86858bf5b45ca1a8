/-
  No cell of these rows narrows 'for every input' (looked for: loops, veiled, ifaces, maps, wideKeys, modest, calm, conditions, laid).
  DERIVED. THE GIVEN ROWS OF THIS SEAT. 12 by the template 'for every input the law returns true; each argument reads behind the call as it read before'; 0 by the template 'total and deterministic' (their statements: YtkledlpiilcagaaTotals.lean).
  GIVEN WITH THE SEED: the statements are not yours to turn. If you find one false, say at which input.
  Laid BY PROGRAM, IN A SANDBOX (cutbox-rows.mjs): the forced cells as the released guide's own fill.sh prints them over the translation 72619e31d12fdbc2… (all of the seat's roots in one cut). By AI agents, Wed Nov 11 2026. No macro, syntax, notation, axiom, sorry.
-/
import Derived.Test.YtkledlpiilcagaaChecked
import GoSem.Claim
import GoSem.ClaimJoined
import GoSem.ClaimMapViews
import Derived.JoinedTies
import Derived.KernelRfl
namespace Go.Proofs.Ytkledlpiilcagaa
/- THE CELL 'sum', in the pinned program and in every row, IS THE sha256 OF THE DUMP (.gsa) THAT YtkledlpiilcagaaProg.lean LOADS. Nothing in Lean hashes anything: it is a label: what it is worth is what the hold of that sum in a sandbox is worth. -/
noncomputable def Try.pinned : Pinned := { name := "ytkledlpiilcagaa", sum := "72619e31d12fdbc2caebff4eb3b8171e6b30f8bcf62a815b47f120f14ff9b319", checked := Try.checked }
namespace Rows
def none {H : Type} : Left H := { results := [], args := [] }

/-- 'laws.FnExactIsMaze': WHATEVER THE INPUT: true; the input reads as it did. -/
def fnExactIsMazeSpec : ChangeSpec := { name := "fnExactIsMaze", fn := fun _ => fun
  | [d] => { results := [.lit (.bool true)], args := [d] }
  | _ => none }
def fnExactIsMazeRow : OpenClaim := { program := "ytkledlpiilcagaa", sum := "72619e31d12fdbc2caebff4eb3b8171e6b30f8bcf62a815b47f120f14ff9b319", func := "loop.example/g01158/laws.FnExactIsMaze", spec := "fnExactIsMaze", unfollowed := true, recurses := true, apart := false }
def FnExactIsMazeSaid : Prop := fnExactIsMazeRow.holds Try.pinned (OpenSpec.ofChange fnExactIsMazeSpec)

/-- ITS FALSE NEIGHBOUR: 'it returns false'. Refute it at one input. -/
def fnExactIsMazeWrong : ChangeSpec := { name := "fnExactIsMaze", fn := fun _ => fun
  | [d] => { results := [.lit (.bool false)], args := [d] }
  | _ => none }
def FnExactIsMazeWrongFalsely : Prop := fnExactIsMazeRow.holds Try.pinned (OpenSpec.ofChange fnExactIsMazeWrong)

/-- 'laws.FnExactIsOpenTo': WHATEVER THE INPUT: true; the input reads as it did. -/
def fnExactIsOpenToSpec : ChangeSpec := { name := "fnExactIsOpenTo", fn := fun _ => fun
  | [d1, d2, d3, d4] => { results := [.lit (.bool true)], args := [d1, d2, d3, d4] }
  | _ => none }
def fnExactIsOpenToRow : OpenClaim := { program := "ytkledlpiilcagaa", sum := "72619e31d12fdbc2caebff4eb3b8171e6b30f8bcf62a815b47f120f14ff9b319", func := "loop.example/g01158/laws.FnExactIsOpenTo", spec := "fnExactIsOpenTo", unfollowed := true, recurses := true, apart := false }
def FnExactIsOpenToSaid : Prop := fnExactIsOpenToRow.holds Try.pinned (OpenSpec.ofChange fnExactIsOpenToSpec)

/-- ITS FALSE NEIGHBOUR: 'it returns false'. Refute it at one input. -/
def fnExactIsOpenToWrong : ChangeSpec := { name := "fnExactIsOpenTo", fn := fun _ => fun
  | [d1, d2, d3, d4] => { results := [.lit (.bool false)], args := [d1, d2, d3, d4] }
  | _ => none }
def FnExactIsOpenToWrongFalsely : Prop := fnExactIsOpenToRow.holds Try.pinned (OpenSpec.ofChange fnExactIsOpenToWrong)

/-- 'laws.FnExactDoorsAt': WHATEVER THE INPUT: true; the input reads as it did. -/
def fnExactDoorsAtSpec : ChangeSpec := { name := "fnExactDoorsAt", fn := fun _ => fun
  | [d1, d2] => { results := [.lit (.bool true)], args := [d1, d2] }
  | _ => none }
def fnExactDoorsAtRow : OpenClaim := { program := "ytkledlpiilcagaa", sum := "72619e31d12fdbc2caebff4eb3b8171e6b30f8bcf62a815b47f120f14ff9b319", func := "loop.example/g01158/laws.FnExactDoorsAt", spec := "fnExactDoorsAt", unfollowed := true, recurses := true, apart := false }
def FnExactDoorsAtSaid : Prop := fnExactDoorsAtRow.holds Try.pinned (OpenSpec.ofChange fnExactDoorsAtSpec)

/-- ITS FALSE NEIGHBOUR: 'it returns false'. Refute it at one input. -/
def fnExactDoorsAtWrong : ChangeSpec := { name := "fnExactDoorsAt", fn := fun _ => fun
  | [d1, d2] => { results := [.lit (.bool false)], args := [d1, d2] }
  | _ => none }
def FnExactDoorsAtWrongFalsely : Prop := fnExactDoorsAtRow.holds Try.pinned (OpenSpec.ofChange fnExactDoorsAtWrong)

/-- 'laws.FnExactIsKeyWalk': WHATEVER THE INPUT: true; the input reads as it did. -/
def fnExactIsKeyWalkSpec : ChangeSpec := { name := "fnExactIsKeyWalk", fn := fun _ => fun
  | [d1, d2] => { results := [.lit (.bool true)], args := [d1, d2] }
  | _ => none }
def fnExactIsKeyWalkRow : OpenClaim := { program := "ytkledlpiilcagaa", sum := "72619e31d12fdbc2caebff4eb3b8171e6b30f8bcf62a815b47f120f14ff9b319", func := "loop.example/g01158/laws.FnExactIsKeyWalk", spec := "fnExactIsKeyWalk", unfollowed := true, recurses := true, apart := false }
def FnExactIsKeyWalkSaid : Prop := fnExactIsKeyWalkRow.holds Try.pinned (OpenSpec.ofChange fnExactIsKeyWalkSpec)

/-- ITS FALSE NEIGHBOUR: 'it returns false'. Refute it at one input. -/
def fnExactIsKeyWalkWrong : ChangeSpec := { name := "fnExactIsKeyWalk", fn := fun _ => fun
  | [d1, d2] => { results := [.lit (.bool false)], args := [d1, d2] }
  | _ => none }
def FnExactIsKeyWalkWrongFalsely : Prop := fnExactIsKeyWalkRow.holds Try.pinned (OpenSpec.ofChange fnExactIsKeyWalkWrong)

/-- 'laws.FnExactTakenOn': WHATEVER THE INPUT: true; the input reads as it did. -/
def fnExactTakenOnSpec : ChangeSpec := { name := "fnExactTakenOn", fn := fun _ => fun
  | [d1, d2] => { results := [.lit (.bool true)], args := [d1, d2] }
  | _ => none }
def fnExactTakenOnRow : OpenClaim := { program := "ytkledlpiilcagaa", sum := "72619e31d12fdbc2caebff4eb3b8171e6b30f8bcf62a815b47f120f14ff9b319", func := "loop.example/g01158/laws.FnExactTakenOn", spec := "fnExactTakenOn", unfollowed := true, recurses := true, apart := false }
def FnExactTakenOnSaid : Prop := fnExactTakenOnRow.holds Try.pinned (OpenSpec.ofChange fnExactTakenOnSpec)

/-- ITS FALSE NEIGHBOUR: 'it returns false'. Refute it at one input. -/
def fnExactTakenOnWrong : ChangeSpec := { name := "fnExactTakenOn", fn := fun _ => fun
  | [d1, d2] => { results := [.lit (.bool false)], args := [d1, d2] }
  | _ => none }
def FnExactTakenOnWrongFalsely : Prop := fnExactTakenOnRow.holds Try.pinned (OpenSpec.ofChange fnExactTakenOnWrong)

/-- 'laws.FnExactPutKeys': WHATEVER THE INPUT: true; the input reads as it did. -/
def fnExactPutKeysSpec : ChangeSpec := { name := "fnExactPutKeys", fn := fun _ => fun
  | [d1, d2, d3] => { results := [.lit (.bool true)], args := [d1, d2, d3] }
  | _ => none }
def fnExactPutKeysRow : OpenClaim := { program := "ytkledlpiilcagaa", sum := "72619e31d12fdbc2caebff4eb3b8171e6b30f8bcf62a815b47f120f14ff9b319", func := "loop.example/g01158/laws.FnExactPutKeys", spec := "fnExactPutKeys", unfollowed := true, recurses := true, apart := false }
def FnExactPutKeysSaid : Prop := fnExactPutKeysRow.holds Try.pinned (OpenSpec.ofChange fnExactPutKeysSpec)

/-- ITS FALSE NEIGHBOUR: 'it returns false'. Refute it at one input. -/
def fnExactPutKeysWrong : ChangeSpec := { name := "fnExactPutKeys", fn := fun _ => fun
  | [d1, d2, d3] => { results := [.lit (.bool false)], args := [d1, d2, d3] }
  | _ => none }
def FnExactPutKeysWrongFalsely : Prop := fnExactPutKeysRow.holds Try.pinned (OpenSpec.ofChange fnExactPutKeysWrong)

/-- 'laws.FnExactWithoutColour': WHATEVER THE INPUT: true; the input reads as it did. -/
def fnExactWithoutColourSpec : ChangeSpec := { name := "fnExactWithoutColour", fn := fun _ => fun
  | [d1, d2] => { results := [.lit (.bool true)], args := [d1, d2] }
  | _ => none }
def fnExactWithoutColourRow : OpenClaim := { program := "ytkledlpiilcagaa", sum := "72619e31d12fdbc2caebff4eb3b8171e6b30f8bcf62a815b47f120f14ff9b319", func := "loop.example/g01158/laws.FnExactWithoutColour", spec := "fnExactWithoutColour", unfollowed := true, recurses := true, apart := false }
def FnExactWithoutColourSaid : Prop := fnExactWithoutColourRow.holds Try.pinned (OpenSpec.ofChange fnExactWithoutColourSpec)

/-- ITS FALSE NEIGHBOUR: 'it returns false'. Refute it at one input. -/
def fnExactWithoutColourWrong : ChangeSpec := { name := "fnExactWithoutColour", fn := fun _ => fun
  | [d1, d2] => { results := [.lit (.bool false)], args := [d1, d2] }
  | _ => none }
def FnExactWithoutColourWrongFalsely : Prop := fnExactWithoutColourRow.holds Try.pinned (OpenSpec.ofChange fnExactWithoutColourWrong)

/-- 'laws.FnExactWithoutKeys': WHATEVER THE INPUT: true; the input reads as it did. -/
def fnExactWithoutKeysSpec : ChangeSpec := { name := "fnExactWithoutKeys", fn := fun _ => fun
  | [d1, d2] => { results := [.lit (.bool true)], args := [d1, d2] }
  | _ => none }
def fnExactWithoutKeysRow : OpenClaim := { program := "ytkledlpiilcagaa", sum := "72619e31d12fdbc2caebff4eb3b8171e6b30f8bcf62a815b47f120f14ff9b319", func := "loop.example/g01158/laws.FnExactWithoutKeys", spec := "fnExactWithoutKeys", unfollowed := true, recurses := true, apart := false }
def FnExactWithoutKeysSaid : Prop := fnExactWithoutKeysRow.holds Try.pinned (OpenSpec.ofChange fnExactWithoutKeysSpec)

/-- ITS FALSE NEIGHBOUR: 'it returns false'. Refute it at one input. -/
def fnExactWithoutKeysWrong : ChangeSpec := { name := "fnExactWithoutKeys", fn := fun _ => fun
  | [d1, d2] => { results := [.lit (.bool false)], args := [d1, d2] }
  | _ => none }
def FnExactWithoutKeysWrongFalsely : Prop := fnExactWithoutKeysRow.holds Try.pinned (OpenSpec.ofChange fnExactWithoutKeysWrong)

/-- 'laws.FnExactDropDoor': WHATEVER THE INPUT: true; the input reads as it did. -/
def fnExactDropDoorSpec : ChangeSpec := { name := "fnExactDropDoor", fn := fun _ => fun
  | [d1, d2] => { results := [.lit (.bool true)], args := [d1, d2] }
  | _ => none }
def fnExactDropDoorRow : OpenClaim := { program := "ytkledlpiilcagaa", sum := "72619e31d12fdbc2caebff4eb3b8171e6b30f8bcf62a815b47f120f14ff9b319", func := "loop.example/g01158/laws.FnExactDropDoor", spec := "fnExactDropDoor", unfollowed := true, recurses := true, apart := false }
def FnExactDropDoorSaid : Prop := fnExactDropDoorRow.holds Try.pinned (OpenSpec.ofChange fnExactDropDoorSpec)

/-- ITS FALSE NEIGHBOUR: 'it returns false'. Refute it at one input. -/
def fnExactDropDoorWrong : ChangeSpec := { name := "fnExactDropDoor", fn := fun _ => fun
  | [d1, d2] => { results := [.lit (.bool false)], args := [d1, d2] }
  | _ => none }
def FnExactDropDoorWrongFalsely : Prop := fnExactDropDoorRow.holds Try.pinned (OpenSpec.ofChange fnExactDropDoorWrong)

/-- 'laws.FnExactWithoutNode': WHATEVER THE INPUT: true; the input reads as it did. -/
def fnExactWithoutNodeSpec : ChangeSpec := { name := "fnExactWithoutNode", fn := fun _ => fun
  | [d1, d2] => { results := [.lit (.bool true)], args := [d1, d2] }
  | _ => none }
def fnExactWithoutNodeRow : OpenClaim := { program := "ytkledlpiilcagaa", sum := "72619e31d12fdbc2caebff4eb3b8171e6b30f8bcf62a815b47f120f14ff9b319", func := "loop.example/g01158/laws.FnExactWithoutNode", spec := "fnExactWithoutNode", unfollowed := true, recurses := true, apart := false }
def FnExactWithoutNodeSaid : Prop := fnExactWithoutNodeRow.holds Try.pinned (OpenSpec.ofChange fnExactWithoutNodeSpec)

/-- ITS FALSE NEIGHBOUR: 'it returns false'. Refute it at one input. -/
def fnExactWithoutNodeWrong : ChangeSpec := { name := "fnExactWithoutNode", fn := fun _ => fun
  | [d1, d2] => { results := [.lit (.bool false)], args := [d1, d2] }
  | _ => none }
def FnExactWithoutNodeWrongFalsely : Prop := fnExactWithoutNodeRow.holds Try.pinned (OpenSpec.ofChange fnExactWithoutNodeWrong)

/-- 'laws.FnExactLeastNeeds': WHATEVER THE INPUT: true; the input reads as it did. -/
def fnExactLeastNeedsSpec : ChangeSpec := { name := "fnExactLeastNeeds", fn := fun _ => fun
  | [d1, d2, d3] => { results := [.lit (.bool true)], args := [d1, d2, d3] }
  | _ => none }
def fnExactLeastNeedsRow : OpenClaim := { program := "ytkledlpiilcagaa", sum := "72619e31d12fdbc2caebff4eb3b8171e6b30f8bcf62a815b47f120f14ff9b319", func := "loop.example/g01158/laws.FnExactLeastNeeds", spec := "fnExactLeastNeeds", unfollowed := true, recurses := true, apart := false }
def FnExactLeastNeedsSaid : Prop := fnExactLeastNeedsRow.holds Try.pinned (OpenSpec.ofChange fnExactLeastNeedsSpec)

/-- ITS FALSE NEIGHBOUR: 'it returns false'. Refute it at one input. -/
def fnExactLeastNeedsWrong : ChangeSpec := { name := "fnExactLeastNeeds", fn := fun _ => fun
  | [d1, d2, d3] => { results := [.lit (.bool false)], args := [d1, d2, d3] }
  | _ => none }
def FnExactLeastNeedsWrongFalsely : Prop := fnExactLeastNeedsRow.holds Try.pinned (OpenSpec.ofChange fnExactLeastNeedsWrong)

/-- 'laws.FnExactJoinMazes': WHATEVER THE INPUT: true; the input reads as it did. -/
def fnExactJoinMazesSpec : ChangeSpec := { name := "fnExactJoinMazes", fn := fun _ => fun
  | [d1, d2] => { results := [.lit (.bool true)], args := [d1, d2] }
  | _ => none }
def fnExactJoinMazesRow : OpenClaim := { program := "ytkledlpiilcagaa", sum := "72619e31d12fdbc2caebff4eb3b8171e6b30f8bcf62a815b47f120f14ff9b319", func := "loop.example/g01158/laws.FnExactJoinMazes", spec := "fnExactJoinMazes", unfollowed := true, recurses := true, apart := false }
def FnExactJoinMazesSaid : Prop := fnExactJoinMazesRow.holds Try.pinned (OpenSpec.ofChange fnExactJoinMazesSpec)

/-- ITS FALSE NEIGHBOUR: 'it returns false'. Refute it at one input. -/
def fnExactJoinMazesWrong : ChangeSpec := { name := "fnExactJoinMazes", fn := fun _ => fun
  | [d1, d2] => { results := [.lit (.bool false)], args := [d1, d2] }
  | _ => none }
def FnExactJoinMazesWrongFalsely : Prop := fnExactJoinMazesRow.holds Try.pinned (OpenSpec.ofChange fnExactJoinMazesWrong)

/- THE SECOND FORM. 'bulk': how many values and letters a reading holds, each counted each time it is reached (what is shared counts as often as it is met; a slice's spare places count too). A statement '..UptoSaid' is the law's where the arguments, and the package variables that the reading takes, are together of bulk at most 1048576: NARROWER than '..Said'. Prove '..Said' where nothing that the law and all that it calls make is longer than what came in: it says more and counts as full. Else prove '..UptoSaid'. A law counts once. -/
mutual
def uptoBulk {H : Type} : DataW H → Nat
  | .lit (.string bytes) => bytes.length + 1
  | .lit _ => 1
  | .nil => 1
  | .ptr d => uptoBulk d + 1
  | .slice elems spare => uptoBulkAll elems + uptoBulkAll spare + 1
  | .agg parts => uptoBulkAll parts + 1
  | .iface _ d => uptoBulk d + 1
  | .map entries => uptoBulkEntries entries + 1
  | .held _ => 1
def uptoBulkAll {H : Type} : List (DataW H) → Nat
  | [] => 0
  | d :: r => uptoBulk d + uptoBulkAll r
def uptoBulkEntries {H : Type} : List (Lit × DataW H) → Nat
  | [] => 0
  | x :: r => uptoBulkEntry x + uptoBulkEntries r
def uptoBulkEntry {H : Type} : Lit × DataW H → Nat
  | (.string bytes, d) => bytes.length + uptoBulk d + 1
  | (_, d) => uptoBulk d + 1
 end
def uptoSmall : (H : Type) → List (DataW H) → Bool := fun _ ds => decide (uptoBulkAll ds ≤ 1048576)
def OpenSpec.upto (s : _root_.Go.ChangeSpec) : _root_.Go.OpenSpec := { _root_.Go.OpenSpec.ofChange s with cond := some uptoSmall }

/-- 'laws.FnExactIsMaze', WHERE WHAT IT READS IS OF BULK AT MOST 1048576: true; the input reads as it did. -/
def fnExactIsMazeUptoRow : OpenClaim := { program := "ytkledlpiilcagaa", sum := "72619e31d12fdbc2caebff4eb3b8171e6b30f8bcf62a815b47f120f14ff9b319", func := "loop.example/g01158/laws.FnExactIsMaze", spec := "fnExactIsMaze", unfollowed := true, recurses := true, apart := false, narrowed := true }
def FnExactIsMazeUptoSaid : Prop := fnExactIsMazeUptoRow.holds Try.pinned (OpenSpec.upto fnExactIsMazeSpec)

/-- 'laws.FnExactIsOpenTo', WHERE WHAT IT READS IS OF BULK AT MOST 1048576: true; the input reads as it did. -/
def fnExactIsOpenToUptoRow : OpenClaim := { program := "ytkledlpiilcagaa", sum := "72619e31d12fdbc2caebff4eb3b8171e6b30f8bcf62a815b47f120f14ff9b319", func := "loop.example/g01158/laws.FnExactIsOpenTo", spec := "fnExactIsOpenTo", unfollowed := true, recurses := true, apart := false, narrowed := true }
def FnExactIsOpenToUptoSaid : Prop := fnExactIsOpenToUptoRow.holds Try.pinned (OpenSpec.upto fnExactIsOpenToSpec)

/-- 'laws.FnExactDoorsAt', WHERE WHAT IT READS IS OF BULK AT MOST 1048576: true; the input reads as it did. -/
def fnExactDoorsAtUptoRow : OpenClaim := { program := "ytkledlpiilcagaa", sum := "72619e31d12fdbc2caebff4eb3b8171e6b30f8bcf62a815b47f120f14ff9b319", func := "loop.example/g01158/laws.FnExactDoorsAt", spec := "fnExactDoorsAt", unfollowed := true, recurses := true, apart := false, narrowed := true }
def FnExactDoorsAtUptoSaid : Prop := fnExactDoorsAtUptoRow.holds Try.pinned (OpenSpec.upto fnExactDoorsAtSpec)

/-- 'laws.FnExactIsKeyWalk', WHERE WHAT IT READS IS OF BULK AT MOST 1048576: true; the input reads as it did. -/
def fnExactIsKeyWalkUptoRow : OpenClaim := { program := "ytkledlpiilcagaa", sum := "72619e31d12fdbc2caebff4eb3b8171e6b30f8bcf62a815b47f120f14ff9b319", func := "loop.example/g01158/laws.FnExactIsKeyWalk", spec := "fnExactIsKeyWalk", unfollowed := true, recurses := true, apart := false, narrowed := true }
def FnExactIsKeyWalkUptoSaid : Prop := fnExactIsKeyWalkUptoRow.holds Try.pinned (OpenSpec.upto fnExactIsKeyWalkSpec)

/-- 'laws.FnExactTakenOn', WHERE WHAT IT READS IS OF BULK AT MOST 1048576: true; the input reads as it did. -/
def fnExactTakenOnUptoRow : OpenClaim := { program := "ytkledlpiilcagaa", sum := "72619e31d12fdbc2caebff4eb3b8171e6b30f8bcf62a815b47f120f14ff9b319", func := "loop.example/g01158/laws.FnExactTakenOn", spec := "fnExactTakenOn", unfollowed := true, recurses := true, apart := false, narrowed := true }
def FnExactTakenOnUptoSaid : Prop := fnExactTakenOnUptoRow.holds Try.pinned (OpenSpec.upto fnExactTakenOnSpec)

/-- 'laws.FnExactPutKeys', WHERE WHAT IT READS IS OF BULK AT MOST 1048576: true; the input reads as it did. -/
def fnExactPutKeysUptoRow : OpenClaim := { program := "ytkledlpiilcagaa", sum := "72619e31d12fdbc2caebff4eb3b8171e6b30f8bcf62a815b47f120f14ff9b319", func := "loop.example/g01158/laws.FnExactPutKeys", spec := "fnExactPutKeys", unfollowed := true, recurses := true, apart := false, narrowed := true }
def FnExactPutKeysUptoSaid : Prop := fnExactPutKeysUptoRow.holds Try.pinned (OpenSpec.upto fnExactPutKeysSpec)

/-- 'laws.FnExactWithoutColour', WHERE WHAT IT READS IS OF BULK AT MOST 1048576: true; the input reads as it did. -/
def fnExactWithoutColourUptoRow : OpenClaim := { program := "ytkledlpiilcagaa", sum := "72619e31d12fdbc2caebff4eb3b8171e6b30f8bcf62a815b47f120f14ff9b319", func := "loop.example/g01158/laws.FnExactWithoutColour", spec := "fnExactWithoutColour", unfollowed := true, recurses := true, apart := false, narrowed := true }
def FnExactWithoutColourUptoSaid : Prop := fnExactWithoutColourUptoRow.holds Try.pinned (OpenSpec.upto fnExactWithoutColourSpec)

/-- 'laws.FnExactWithoutKeys', WHERE WHAT IT READS IS OF BULK AT MOST 1048576: true; the input reads as it did. -/
def fnExactWithoutKeysUptoRow : OpenClaim := { program := "ytkledlpiilcagaa", sum := "72619e31d12fdbc2caebff4eb3b8171e6b30f8bcf62a815b47f120f14ff9b319", func := "loop.example/g01158/laws.FnExactWithoutKeys", spec := "fnExactWithoutKeys", unfollowed := true, recurses := true, apart := false, narrowed := true }
def FnExactWithoutKeysUptoSaid : Prop := fnExactWithoutKeysUptoRow.holds Try.pinned (OpenSpec.upto fnExactWithoutKeysSpec)

/-- 'laws.FnExactDropDoor', WHERE WHAT IT READS IS OF BULK AT MOST 1048576: true; the input reads as it did. -/
def fnExactDropDoorUptoRow : OpenClaim := { program := "ytkledlpiilcagaa", sum := "72619e31d12fdbc2caebff4eb3b8171e6b30f8bcf62a815b47f120f14ff9b319", func := "loop.example/g01158/laws.FnExactDropDoor", spec := "fnExactDropDoor", unfollowed := true, recurses := true, apart := false, narrowed := true }
def FnExactDropDoorUptoSaid : Prop := fnExactDropDoorUptoRow.holds Try.pinned (OpenSpec.upto fnExactDropDoorSpec)

/-- 'laws.FnExactWithoutNode', WHERE WHAT IT READS IS OF BULK AT MOST 1048576: true; the input reads as it did. -/
def fnExactWithoutNodeUptoRow : OpenClaim := { program := "ytkledlpiilcagaa", sum := "72619e31d12fdbc2caebff4eb3b8171e6b30f8bcf62a815b47f120f14ff9b319", func := "loop.example/g01158/laws.FnExactWithoutNode", spec := "fnExactWithoutNode", unfollowed := true, recurses := true, apart := false, narrowed := true }
def FnExactWithoutNodeUptoSaid : Prop := fnExactWithoutNodeUptoRow.holds Try.pinned (OpenSpec.upto fnExactWithoutNodeSpec)

/-- 'laws.FnExactLeastNeeds', WHERE WHAT IT READS IS OF BULK AT MOST 1048576: true; the input reads as it did. -/
def fnExactLeastNeedsUptoRow : OpenClaim := { program := "ytkledlpiilcagaa", sum := "72619e31d12fdbc2caebff4eb3b8171e6b30f8bcf62a815b47f120f14ff9b319", func := "loop.example/g01158/laws.FnExactLeastNeeds", spec := "fnExactLeastNeeds", unfollowed := true, recurses := true, apart := false, narrowed := true }
def FnExactLeastNeedsUptoSaid : Prop := fnExactLeastNeedsUptoRow.holds Try.pinned (OpenSpec.upto fnExactLeastNeedsSpec)

/-- 'laws.FnExactJoinMazes', WHERE WHAT IT READS IS OF BULK AT MOST 1048576: true; the input reads as it did. -/
def fnExactJoinMazesUptoRow : OpenClaim := { program := "ytkledlpiilcagaa", sum := "72619e31d12fdbc2caebff4eb3b8171e6b30f8bcf62a815b47f120f14ff9b319", func := "loop.example/g01158/laws.FnExactJoinMazes", spec := "fnExactJoinMazes", unfollowed := true, recurses := true, apart := false, narrowed := true }
def FnExactJoinMazesUptoSaid : Prop := fnExactJoinMazesUptoRow.holds Try.pinned (OpenSpec.upto fnExactJoinMazesSpec)

end Rows
end Go.Proofs.Ytkledlpiilcagaa
