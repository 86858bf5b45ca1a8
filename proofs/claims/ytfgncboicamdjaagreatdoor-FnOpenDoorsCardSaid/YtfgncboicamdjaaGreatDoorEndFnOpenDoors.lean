/- The law FnOpenDoors of the given program is true for all its inputs, under the row's own condition that the listed package-level variables hold what the program lays there. -/
import Derived.Test.YtfgncboicamdjaaGreatDoorLawFnOpenDoors
import Derived.Test.YtfgncboicamdjaaGreatDoorPvLawsOpen
namespace Go.Proofs.YtfgncboicamdjaaGreatDoor
theorem fnOpenDoors_holds : Rows.FnOpenDoorsCardSaid :=
  fnOpenDoors.over fun x hw => Go.Pv.lawOpenDoors x.1 hw.1.2
#print axioms fnOpenDoors_holds
end Go.Proofs.YtfgncboicamdjaaGreatDoor
