/-
  No cell of these rows narrows 'for every input' (looked for: loops, veiled, ifaces, maps, wideKeys, modest, calm, conditions, laid).
  DERIVED. THE GIVEN ROWS OF THIS SEAT. 12 by the template 'for every input the law returns true; each argument reads behind the call as it read before'; 0 by the template 'total and deterministic' (their statements: YtnnonephkmikmaaTotals.lean).
  GIVEN WITH THE SEED: the statements are not yours to turn. If you find one false, say at which input.
  Laid BY PROGRAM, IN A SANDBOX (cutbox-rows.mjs): the forced cells as the released guide's own fill.sh prints them over the translation c3410cafae1f6c03… (all of the seat's roots in one cut). By AI agents, Wed Nov 11 2026. No macro, syntax, notation, axiom, sorry.
-/
import Derived.Test.YtnnonephkmikmaaChecked
import GoSem.Claim
import GoSem.ClaimJoined
import GoSem.ClaimMapViews
import Derived.JoinedTies
import Derived.KernelRfl
namespace Go.Proofs.Ytnnonephkmikmaa
/- THE CELL 'sum', in the pinned program and in every row, IS THE sha256 OF THE DUMP (.gsa) THAT YtnnonephkmikmaaProg.lean LOADS. Nothing in Lean hashes anything: it is a label: what it is worth is what the hold of that sum in a sandbox is worth. -/
noncomputable def Try.pinned : Pinned := { name := "ytnnonephkmikmaa", sum := "c3410cafae1f6c032a89f9cd04b5da3d8a16831cb84ebed8298cb87e02a80d7d", checked := Try.checked }
namespace Rows
def none {H : Type} : Left H := { results := [], args := [] }

/-- 'laws.FnExactReachWith': WHATEVER THE INPUT: true; the input reads as it did. -/
def fnExactReachWithSpec : ChangeSpec := { name := "fnExactReachWith", fn := fun _ => fun
  | [d1, d2, d3] => { results := [.lit (.bool true)], args := [d1, d2, d3] }
  | _ => none }
def fnExactReachWithRow : OpenClaim := { program := "ytnnonephkmikmaa", sum := "c3410cafae1f6c032a89f9cd04b5da3d8a16831cb84ebed8298cb87e02a80d7d", func := "loop.example/g01158/laws.FnExactReachWith", spec := "fnExactReachWith", unfollowed := true, recurses := true, apart := false }
def FnExactReachWithSaid : Prop := fnExactReachWithRow.holds Try.pinned (OpenSpec.ofChange fnExactReachWithSpec)

/-- ITS FALSE NEIGHBOUR: 'it returns false'. Refute it at one input. -/
def fnExactReachWithWrong : ChangeSpec := { name := "fnExactReachWith", fn := fun _ => fun
  | [d1, d2, d3] => { results := [.lit (.bool false)], args := [d1, d2, d3] }
  | _ => none }
def FnExactReachWithWrongFalsely : Prop := fnExactReachWithRow.holds Try.pinned (OpenSpec.ofChange fnExactReachWithWrong)

/-- 'laws.FnExactCanWin': WHATEVER THE INPUT: true; the input reads as it did. -/
def fnExactCanWinSpec : ChangeSpec := { name := "fnExactCanWin", fn := fun _ => fun
  | [d1, d2] => { results := [.lit (.bool true)], args := [d1, d2] }
  | _ => none }
def fnExactCanWinRow : OpenClaim := { program := "ytnnonephkmikmaa", sum := "c3410cafae1f6c032a89f9cd04b5da3d8a16831cb84ebed8298cb87e02a80d7d", func := "loop.example/g01158/laws.FnExactCanWin", spec := "fnExactCanWin", unfollowed := true, recurses := true, apart := false }
def FnExactCanWinSaid : Prop := fnExactCanWinRow.holds Try.pinned (OpenSpec.ofChange fnExactCanWinSpec)

/-- ITS FALSE NEIGHBOUR: 'it returns false'. Refute it at one input. -/
def fnExactCanWinWrong : ChangeSpec := { name := "fnExactCanWin", fn := fun _ => fun
  | [d1, d2] => { results := [.lit (.bool false)], args := [d1, d2] }
  | _ => none }
def FnExactCanWinWrongFalsely : Prop := fnExactCanWinRow.holds Try.pinned (OpenSpec.ofChange fnExactCanWinWrong)

/-- 'laws.FnExactHelpfulColours': WHATEVER THE INPUT: true; the input reads as it did. -/
def fnExactHelpfulColoursSpec : ChangeSpec := { name := "fnExactHelpfulColours", fn := fun _ => fun
  | [d1, d2] => { results := [.lit (.bool true)], args := [d1, d2] }
  | _ => none }
def fnExactHelpfulColoursRow : OpenClaim := { program := "ytnnonephkmikmaa", sum := "c3410cafae1f6c032a89f9cd04b5da3d8a16831cb84ebed8298cb87e02a80d7d", func := "loop.example/g01158/laws.FnExactHelpfulColours", spec := "fnExactHelpfulColours", unfollowed := true, recurses := true, apart := false }
def FnExactHelpfulColoursSaid : Prop := fnExactHelpfulColoursRow.holds Try.pinned (OpenSpec.ofChange fnExactHelpfulColoursSpec)

/-- ITS FALSE NEIGHBOUR: 'it returns false'. Refute it at one input. -/
def fnExactHelpfulColoursWrong : ChangeSpec := { name := "fnExactHelpfulColours", fn := fun _ => fun
  | [d1, d2] => { results := [.lit (.bool false)], args := [d1, d2] }
  | _ => none }
def FnExactHelpfulColoursWrongFalsely : Prop := fnExactHelpfulColoursRow.holds Try.pinned (OpenSpec.ofChange fnExactHelpfulColoursWrong)

/-- 'laws.FnExactWinRound': WHATEVER THE INPUT: true; the input reads as it did. -/
def fnExactWinRoundSpec : ChangeSpec := { name := "fnExactWinRound", fn := fun _ => fun
  | [d1, d2] => { results := [.lit (.bool true)], args := [d1, d2] }
  | _ => none }
def fnExactWinRoundRow : OpenClaim := { program := "ytnnonephkmikmaa", sum := "c3410cafae1f6c032a89f9cd04b5da3d8a16831cb84ebed8298cb87e02a80d7d", func := "loop.example/g01158/laws.FnExactWinRound", spec := "fnExactWinRound", unfollowed := true, recurses := true, apart := false }
def FnExactWinRoundSaid : Prop := fnExactWinRoundRow.holds Try.pinned (OpenSpec.ofChange fnExactWinRoundSpec)

/-- ITS FALSE NEIGHBOUR: 'it returns false'. Refute it at one input. -/
def fnExactWinRoundWrong : ChangeSpec := { name := "fnExactWinRound", fn := fun _ => fun
  | [d1, d2] => { results := [.lit (.bool false)], args := [d1, d2] }
  | _ => none }
def FnExactWinRoundWrongFalsely : Prop := fnExactWinRoundRow.holds Try.pinned (OpenSpec.ofChange fnExactWinRoundWrong)

/-- 'laws.FnExactRoundsOf': WHATEVER THE INPUT: true; the input reads as it did. -/
def fnExactRoundsOfSpec : ChangeSpec := { name := "fnExactRoundsOf", fn := fun _ => fun
  | [d1, d2] => { results := [.lit (.bool true)], args := [d1, d2] }
  | _ => none }
def fnExactRoundsOfRow : OpenClaim := { program := "ytnnonephkmikmaa", sum := "c3410cafae1f6c032a89f9cd04b5da3d8a16831cb84ebed8298cb87e02a80d7d", func := "loop.example/g01158/laws.FnExactRoundsOf", spec := "fnExactRoundsOf", unfollowed := true, recurses := true, apart := false }
def FnExactRoundsOfSaid : Prop := fnExactRoundsOfRow.holds Try.pinned (OpenSpec.ofChange fnExactRoundsOfSpec)

/-- ITS FALSE NEIGHBOUR: 'it returns false'. Refute it at one input. -/
def fnExactRoundsOfWrong : ChangeSpec := { name := "fnExactRoundsOf", fn := fun _ => fun
  | [d1, d2] => { results := [.lit (.bool false)], args := [d1, d2] }
  | _ => none }
def FnExactRoundsOfWrongFalsely : Prop := fnExactRoundsOfRow.holds Try.pinned (OpenSpec.ofChange fnExactRoundsOfWrong)

/-- 'laws.FnExactGainAtLast': WHATEVER THE INPUT: true; the input reads as it did. -/
def fnExactGainAtLastSpec : ChangeSpec := { name := "fnExactGainAtLast", fn := fun _ => fun
  | [d1, d2] => { results := [.lit (.bool true)], args := [d1, d2] }
  | _ => none }
def fnExactGainAtLastRow : OpenClaim := { program := "ytnnonephkmikmaa", sum := "c3410cafae1f6c032a89f9cd04b5da3d8a16831cb84ebed8298cb87e02a80d7d", func := "loop.example/g01158/laws.FnExactGainAtLast", spec := "fnExactGainAtLast", unfollowed := true, recurses := true, apart := false }
def FnExactGainAtLastSaid : Prop := fnExactGainAtLastRow.holds Try.pinned (OpenSpec.ofChange fnExactGainAtLastSpec)

/-- ITS FALSE NEIGHBOUR: 'it returns false'. Refute it at one input. -/
def fnExactGainAtLastWrong : ChangeSpec := { name := "fnExactGainAtLast", fn := fun _ => fun
  | [d1, d2] => { results := [.lit (.bool false)], args := [d1, d2] }
  | _ => none }
def FnExactGainAtLastWrongFalsely : Prop := fnExactGainAtLastRow.holds Try.pinned (OpenSpec.ofChange fnExactGainAtLastWrong)

/-- 'laws.FnExactNodeRounds': WHATEVER THE INPUT: true; the input reads as it did. -/
def fnExactNodeRoundsSpec : ChangeSpec := { name := "fnExactNodeRounds", fn := fun _ => fun
  | [d1, d2] => { results := [.lit (.bool true)], args := [d1, d2] }
  | _ => none }
def fnExactNodeRoundsRow : OpenClaim := { program := "ytnnonephkmikmaa", sum := "c3410cafae1f6c032a89f9cd04b5da3d8a16831cb84ebed8298cb87e02a80d7d", func := "loop.example/g01158/laws.FnExactNodeRounds", spec := "fnExactNodeRounds", unfollowed := true, recurses := true, apart := false }
def FnExactNodeRoundsSaid : Prop := fnExactNodeRoundsRow.holds Try.pinned (OpenSpec.ofChange fnExactNodeRoundsSpec)

/-- ITS FALSE NEIGHBOUR: 'it returns false'. Refute it at one input. -/
def fnExactNodeRoundsWrong : ChangeSpec := { name := "fnExactNodeRounds", fn := fun _ => fun
  | [d1, d2] => { results := [.lit (.bool false)], args := [d1, d2] }
  | _ => none }
def FnExactNodeRoundsWrongFalsely : Prop := fnExactNodeRoundsRow.holds Try.pinned (OpenSpec.ofChange fnExactNodeRoundsWrong)

/-- 'laws.FnExactCountEntrySets': WHATEVER THE INPUT: true; the input reads as it did. -/
def fnExactCountEntrySetsSpec : ChangeSpec := { name := "fnExactCountEntrySets", fn := fun _ => fun
  | [d] => { results := [.lit (.bool true)], args := [d] }
  | _ => none }
def fnExactCountEntrySetsRow : OpenClaim := { program := "ytnnonephkmikmaa", sum := "c3410cafae1f6c032a89f9cd04b5da3d8a16831cb84ebed8298cb87e02a80d7d", func := "loop.example/g01158/laws.FnExactCountEntrySets", spec := "fnExactCountEntrySets", unfollowed := true, recurses := true, apart := false }
def FnExactCountEntrySetsSaid : Prop := fnExactCountEntrySetsRow.holds Try.pinned (OpenSpec.ofChange fnExactCountEntrySetsSpec)

/-- ITS FALSE NEIGHBOUR: 'it returns false'. Refute it at one input. -/
def fnExactCountEntrySetsWrong : ChangeSpec := { name := "fnExactCountEntrySets", fn := fun _ => fun
  | [d] => { results := [.lit (.bool false)], args := [d] }
  | _ => none }
def FnExactCountEntrySetsWrongFalsely : Prop := fnExactCountEntrySetsRow.holds Try.pinned (OpenSpec.ofChange fnExactCountEntrySetsWrong)

/-- 'laws.FnExactIsEntrySet': WHATEVER THE INPUT: true; the input reads as it did. -/
def fnExactIsEntrySetSpec : ChangeSpec := { name := "fnExactIsEntrySet", fn := fun _ => fun
  | [d1, d2] => { results := [.lit (.bool true)], args := [d1, d2] }
  | _ => none }
def fnExactIsEntrySetRow : OpenClaim := { program := "ytnnonephkmikmaa", sum := "c3410cafae1f6c032a89f9cd04b5da3d8a16831cb84ebed8298cb87e02a80d7d", func := "loop.example/g01158/laws.FnExactIsEntrySet", spec := "fnExactIsEntrySet", unfollowed := true, recurses := true, apart := false }
def FnExactIsEntrySetSaid : Prop := fnExactIsEntrySetRow.holds Try.pinned (OpenSpec.ofChange fnExactIsEntrySetSpec)

/-- ITS FALSE NEIGHBOUR: 'it returns false'. Refute it at one input. -/
def fnExactIsEntrySetWrong : ChangeSpec := { name := "fnExactIsEntrySet", fn := fun _ => fun
  | [d1, d2] => { results := [.lit (.bool false)], args := [d1, d2] }
  | _ => none }
def FnExactIsEntrySetWrongFalsely : Prop := fnExactIsEntrySetRow.holds Try.pinned (OpenSpec.ofChange fnExactIsEntrySetWrong)

/-- 'laws.FnExactIsEntryOrder': WHATEVER THE INPUT: true; the input reads as it did. -/
def fnExactIsEntryOrderSpec : ChangeSpec := { name := "fnExactIsEntryOrder", fn := fun _ => fun
  | [d1, d2] => { results := [.lit (.bool true)], args := [d1, d2] }
  | _ => none }
def fnExactIsEntryOrderRow : OpenClaim := { program := "ytnnonephkmikmaa", sum := "c3410cafae1f6c032a89f9cd04b5da3d8a16831cb84ebed8298cb87e02a80d7d", func := "loop.example/g01158/laws.FnExactIsEntryOrder", spec := "fnExactIsEntryOrder", unfollowed := true, recurses := true, apart := false }
def FnExactIsEntryOrderSaid : Prop := fnExactIsEntryOrderRow.holds Try.pinned (OpenSpec.ofChange fnExactIsEntryOrderSpec)

/-- ITS FALSE NEIGHBOUR: 'it returns false'. Refute it at one input. -/
def fnExactIsEntryOrderWrong : ChangeSpec := { name := "fnExactIsEntryOrder", fn := fun _ => fun
  | [d1, d2] => { results := [.lit (.bool false)], args := [d1, d2] }
  | _ => none }
def FnExactIsEntryOrderWrongFalsely : Prop := fnExactIsEntryOrderRow.holds Try.pinned (OpenSpec.ofChange fnExactIsEntryOrderWrong)

/-- 'laws.FnExactFirstEntryOrder': WHATEVER THE INPUT: true; the input reads as it did. -/
def fnExactFirstEntryOrderSpec : ChangeSpec := { name := "fnExactFirstEntryOrder", fn := fun _ => fun
  | [d] => { results := [.lit (.bool true)], args := [d] }
  | _ => none }
def fnExactFirstEntryOrderRow : OpenClaim := { program := "ytnnonephkmikmaa", sum := "c3410cafae1f6c032a89f9cd04b5da3d8a16831cb84ebed8298cb87e02a80d7d", func := "loop.example/g01158/laws.FnExactFirstEntryOrder", spec := "fnExactFirstEntryOrder", unfollowed := true, recurses := true, apart := false }
def FnExactFirstEntryOrderSaid : Prop := fnExactFirstEntryOrderRow.holds Try.pinned (OpenSpec.ofChange fnExactFirstEntryOrderSpec)

/-- ITS FALSE NEIGHBOUR: 'it returns false'. Refute it at one input. -/
def fnExactFirstEntryOrderWrong : ChangeSpec := { name := "fnExactFirstEntryOrder", fn := fun _ => fun
  | [d] => { results := [.lit (.bool false)], args := [d] }
  | _ => none }
def FnExactFirstEntryOrderWrongFalsely : Prop := fnExactFirstEntryOrderRow.holds Try.pinned (OpenSpec.ofChange fnExactFirstEntryOrderWrong)

/-- 'laws.FnExactPrecedes': WHATEVER THE INPUT: true; the input reads as it did. -/
def fnExactPrecedesSpec : ChangeSpec := { name := "fnExactPrecedes", fn := fun _ => fun
  | [d1, d2, d3] => { results := [.lit (.bool true)], args := [d1, d2, d3] }
  | _ => none }
def fnExactPrecedesRow : OpenClaim := { program := "ytnnonephkmikmaa", sum := "c3410cafae1f6c032a89f9cd04b5da3d8a16831cb84ebed8298cb87e02a80d7d", func := "loop.example/g01158/laws.FnExactPrecedes", spec := "fnExactPrecedes", unfollowed := true, recurses := true, apart := false }
def FnExactPrecedesSaid : Prop := fnExactPrecedesRow.holds Try.pinned (OpenSpec.ofChange fnExactPrecedesSpec)

/-- ITS FALSE NEIGHBOUR: 'it returns false'. Refute it at one input. -/
def fnExactPrecedesWrong : ChangeSpec := { name := "fnExactPrecedes", fn := fun _ => fun
  | [d1, d2, d3] => { results := [.lit (.bool false)], args := [d1, d2, d3] }
  | _ => none }
def FnExactPrecedesWrongFalsely : Prop := fnExactPrecedesRow.holds Try.pinned (OpenSpec.ofChange fnExactPrecedesWrong)

/- THE SECOND FORM. 'bulk': how many values and letters a reading holds, each counted each time it is reached (what is shared counts as often as it is met; a slice's spare places count too). A statement '..UptoSaid' is the law's where the arguments, and the package variables that the reading takes, are together of bulk at most 1048576: NARROWER than '..Said'. Prove '..Said' where nothing that the law and all that it calls make is longer than what came in: it says more and counts as full. Else prove '..UptoSaid'. A law counts once. -/
mutual
def uptoBulk {H : Type} : DataW H → Nat
  | .lit (.string bytes) => bytes.length + 1
  | .lit _ => 1
  | .nil => 1
  | .ptr d => uptoBulk d + 1
  | .slice elems spare => uptoBulkAll elems + uptoBulkAll spare + 1
  | .agg parts => uptoBulkAll parts + 1
  | .iface _ d => uptoBulk d + 1
  | .map entries => uptoBulkEntries entries + 1
  | .held _ => 1
def uptoBulkAll {H : Type} : List (DataW H) → Nat
  | [] => 0
  | d :: r => uptoBulk d + uptoBulkAll r
def uptoBulkEntries {H : Type} : List (Lit × DataW H) → Nat
  | [] => 0
  | x :: r => uptoBulkEntry x + uptoBulkEntries r
def uptoBulkEntry {H : Type} : Lit × DataW H → Nat
  | (.string bytes, d) => bytes.length + uptoBulk d + 1
  | (_, d) => uptoBulk d + 1
 end
def uptoSmall : (H : Type) → List (DataW H) → Bool := fun _ ds => decide (uptoBulkAll ds ≤ 1048576)
def OpenSpec.upto (s : _root_.Go.ChangeSpec) : _root_.Go.OpenSpec := { _root_.Go.OpenSpec.ofChange s with cond := some uptoSmall }

/-- 'laws.FnExactReachWith', WHERE WHAT IT READS IS OF BULK AT MOST 1048576: true; the input reads as it did. -/
def fnExactReachWithUptoRow : OpenClaim := { program := "ytnnonephkmikmaa", sum := "c3410cafae1f6c032a89f9cd04b5da3d8a16831cb84ebed8298cb87e02a80d7d", func := "loop.example/g01158/laws.FnExactReachWith", spec := "fnExactReachWith", unfollowed := true, recurses := true, apart := false, narrowed := true }
def FnExactReachWithUptoSaid : Prop := fnExactReachWithUptoRow.holds Try.pinned (OpenSpec.upto fnExactReachWithSpec)

/-- 'laws.FnExactCanWin', WHERE WHAT IT READS IS OF BULK AT MOST 1048576: true; the input reads as it did. -/
def fnExactCanWinUptoRow : OpenClaim := { program := "ytnnonephkmikmaa", sum := "c3410cafae1f6c032a89f9cd04b5da3d8a16831cb84ebed8298cb87e02a80d7d", func := "loop.example/g01158/laws.FnExactCanWin", spec := "fnExactCanWin", unfollowed := true, recurses := true, apart := false, narrowed := true }
def FnExactCanWinUptoSaid : Prop := fnExactCanWinUptoRow.holds Try.pinned (OpenSpec.upto fnExactCanWinSpec)

/-- 'laws.FnExactHelpfulColours', WHERE WHAT IT READS IS OF BULK AT MOST 1048576: true; the input reads as it did. -/
def fnExactHelpfulColoursUptoRow : OpenClaim := { program := "ytnnonephkmikmaa", sum := "c3410cafae1f6c032a89f9cd04b5da3d8a16831cb84ebed8298cb87e02a80d7d", func := "loop.example/g01158/laws.FnExactHelpfulColours", spec := "fnExactHelpfulColours", unfollowed := true, recurses := true, apart := false, narrowed := true }
def FnExactHelpfulColoursUptoSaid : Prop := fnExactHelpfulColoursUptoRow.holds Try.pinned (OpenSpec.upto fnExactHelpfulColoursSpec)

/-- 'laws.FnExactWinRound', WHERE WHAT IT READS IS OF BULK AT MOST 1048576: true; the input reads as it did. -/
def fnExactWinRoundUptoRow : OpenClaim := { program := "ytnnonephkmikmaa", sum := "c3410cafae1f6c032a89f9cd04b5da3d8a16831cb84ebed8298cb87e02a80d7d", func := "loop.example/g01158/laws.FnExactWinRound", spec := "fnExactWinRound", unfollowed := true, recurses := true, apart := false, narrowed := true }
def FnExactWinRoundUptoSaid : Prop := fnExactWinRoundUptoRow.holds Try.pinned (OpenSpec.upto fnExactWinRoundSpec)

/-- 'laws.FnExactRoundsOf', WHERE WHAT IT READS IS OF BULK AT MOST 1048576: true; the input reads as it did. -/
def fnExactRoundsOfUptoRow : OpenClaim := { program := "ytnnonephkmikmaa", sum := "c3410cafae1f6c032a89f9cd04b5da3d8a16831cb84ebed8298cb87e02a80d7d", func := "loop.example/g01158/laws.FnExactRoundsOf", spec := "fnExactRoundsOf", unfollowed := true, recurses := true, apart := false, narrowed := true }
def FnExactRoundsOfUptoSaid : Prop := fnExactRoundsOfUptoRow.holds Try.pinned (OpenSpec.upto fnExactRoundsOfSpec)

/-- 'laws.FnExactGainAtLast', WHERE WHAT IT READS IS OF BULK AT MOST 1048576: true; the input reads as it did. -/
def fnExactGainAtLastUptoRow : OpenClaim := { program := "ytnnonephkmikmaa", sum := "c3410cafae1f6c032a89f9cd04b5da3d8a16831cb84ebed8298cb87e02a80d7d", func := "loop.example/g01158/laws.FnExactGainAtLast", spec := "fnExactGainAtLast", unfollowed := true, recurses := true, apart := false, narrowed := true }
def FnExactGainAtLastUptoSaid : Prop := fnExactGainAtLastUptoRow.holds Try.pinned (OpenSpec.upto fnExactGainAtLastSpec)

/-- 'laws.FnExactNodeRounds', WHERE WHAT IT READS IS OF BULK AT MOST 1048576: true; the input reads as it did. -/
def fnExactNodeRoundsUptoRow : OpenClaim := { program := "ytnnonephkmikmaa", sum := "c3410cafae1f6c032a89f9cd04b5da3d8a16831cb84ebed8298cb87e02a80d7d", func := "loop.example/g01158/laws.FnExactNodeRounds", spec := "fnExactNodeRounds", unfollowed := true, recurses := true, apart := false, narrowed := true }
def FnExactNodeRoundsUptoSaid : Prop := fnExactNodeRoundsUptoRow.holds Try.pinned (OpenSpec.upto fnExactNodeRoundsSpec)

/-- 'laws.FnExactCountEntrySets', WHERE WHAT IT READS IS OF BULK AT MOST 1048576: true; the input reads as it did. -/
def fnExactCountEntrySetsUptoRow : OpenClaim := { program := "ytnnonephkmikmaa", sum := "c3410cafae1f6c032a89f9cd04b5da3d8a16831cb84ebed8298cb87e02a80d7d", func := "loop.example/g01158/laws.FnExactCountEntrySets", spec := "fnExactCountEntrySets", unfollowed := true, recurses := true, apart := false, narrowed := true }
def FnExactCountEntrySetsUptoSaid : Prop := fnExactCountEntrySetsUptoRow.holds Try.pinned (OpenSpec.upto fnExactCountEntrySetsSpec)

/-- 'laws.FnExactIsEntrySet', WHERE WHAT IT READS IS OF BULK AT MOST 1048576: true; the input reads as it did. -/
def fnExactIsEntrySetUptoRow : OpenClaim := { program := "ytnnonephkmikmaa", sum := "c3410cafae1f6c032a89f9cd04b5da3d8a16831cb84ebed8298cb87e02a80d7d", func := "loop.example/g01158/laws.FnExactIsEntrySet", spec := "fnExactIsEntrySet", unfollowed := true, recurses := true, apart := false, narrowed := true }
def FnExactIsEntrySetUptoSaid : Prop := fnExactIsEntrySetUptoRow.holds Try.pinned (OpenSpec.upto fnExactIsEntrySetSpec)

/-- 'laws.FnExactIsEntryOrder', WHERE WHAT IT READS IS OF BULK AT MOST 1048576: true; the input reads as it did. -/
def fnExactIsEntryOrderUptoRow : OpenClaim := { program := "ytnnonephkmikmaa", sum := "c3410cafae1f6c032a89f9cd04b5da3d8a16831cb84ebed8298cb87e02a80d7d", func := "loop.example/g01158/laws.FnExactIsEntryOrder", spec := "fnExactIsEntryOrder", unfollowed := true, recurses := true, apart := false, narrowed := true }
def FnExactIsEntryOrderUptoSaid : Prop := fnExactIsEntryOrderUptoRow.holds Try.pinned (OpenSpec.upto fnExactIsEntryOrderSpec)

/-- 'laws.FnExactFirstEntryOrder', WHERE WHAT IT READS IS OF BULK AT MOST 1048576: true; the input reads as it did. -/
def fnExactFirstEntryOrderUptoRow : OpenClaim := { program := "ytnnonephkmikmaa", sum := "c3410cafae1f6c032a89f9cd04b5da3d8a16831cb84ebed8298cb87e02a80d7d", func := "loop.example/g01158/laws.FnExactFirstEntryOrder", spec := "fnExactFirstEntryOrder", unfollowed := true, recurses := true, apart := false, narrowed := true }
def FnExactFirstEntryOrderUptoSaid : Prop := fnExactFirstEntryOrderUptoRow.holds Try.pinned (OpenSpec.upto fnExactFirstEntryOrderSpec)

/-- 'laws.FnExactPrecedes', WHERE WHAT IT READS IS OF BULK AT MOST 1048576: true; the input reads as it did. -/
def fnExactPrecedesUptoRow : OpenClaim := { program := "ytnnonephkmikmaa", sum := "c3410cafae1f6c032a89f9cd04b5da3d8a16831cb84ebed8298cb87e02a80d7d", func := "loop.example/g01158/laws.FnExactPrecedes", spec := "fnExactPrecedes", unfollowed := true, recurses := true, apart := false, narrowed := true }
def FnExactPrecedesUptoSaid : Prop := fnExactPrecedesUptoRow.holds Try.pinned (OpenSpec.upto fnExactPrecedesSpec)

end Rows
end Go.Proofs.Ytnnonephkmikmaa
