/-
  DERIVED. GIVEN WITH THE SEED: THE CARDS: each row of YtfgncboicamdjaaGreatDoorRows.lean that lists a variable, with what it lists TIED to the program's text (the seventh form; the later family's looks); each row that meets fmt, with fmt's text TOLD by the authors' own Lean function (tested against real Go, not proved from fmt's source: count such statements apart). THE CARD IS WHAT COUNTS. Prove the row's statement (the work); the ties are given (YtfgncboicamdjaaGreatDoorTie.lean); close each card by the builder's one call (the guide's Derived/Test/ToyasCard.lean, 'card_holds'). Laid BY PROGRAM, IN A SANDBOX (cutbox-door.mjs). By AI agents, Wed Nov 11 2026. No macro, syntax, notation, axiom, sorry.
-/
import Derived.Test.YtfgncboicamdjaaGreatDoorRows
import GoSem.ClaimSeven
namespace Go.Proofs.YtfgncboicamdjaaGreatDoor
namespace Rows

/-- THE TIED CARD OF 'laws.FnOpenDoors'. -/
def fnOpenDoorsCard : Claim7 := { stood := { row := fnOpenDoorsRow, standIns := [], harness := (true, "dc07ba5b104acdd10d56e7499115afdf3fb6fcaccd5f59f97504968095c4db19"), looks := true }, kinds := [], alts := [], laidByText := true, laidKinds := [.data, .data, .data, .data, .sentinel, .sentinel, .pinned], laidTests := true, laidLooks := .later }
def FnOpenDoorsCardSaid : Prop := Claim7.holds Tryz.pinned (.plain (OpenSpec.ofChange fnOpenDoorsSpec)) fnOpenDoorsCard

/-- THE SECOND FORM's CARD OF 'laws.FnOpenDoors'. -/
def fnOpenDoorsUptoCard : Claim7 := { stood := { row := fnOpenDoorsUptoRow, standIns := [], harness := (true, "dc07ba5b104acdd10d56e7499115afdf3fb6fcaccd5f59f97504968095c4db19"), looks := true }, kinds := [], alts := [], laidByText := true, laidKinds := [.data, .data, .data, .data, .sentinel, .sentinel, .pinned], laidTests := true, laidLooks := .later }
def FnOpenDoorsUptoCardSaid : Prop := Claim7.holds Tryz.pinned (.plain (OpenSpec.upto fnOpenDoorsSpec)) fnOpenDoorsUptoCard
end Rows
end Go.Proofs.YtfgncboicamdjaaGreatDoor
