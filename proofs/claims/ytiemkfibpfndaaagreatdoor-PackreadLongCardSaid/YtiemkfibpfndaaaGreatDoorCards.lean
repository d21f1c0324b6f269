/-
  DERIVED. GIVEN WITH THE SEED: THE CARDS: each row of YtiemkfibpfndaaaGreatDoorRows.lean that lists a variable, with what it lists TIED to the program's text (the seventh form; the later family's looks); each row that meets fmt, with fmt's text TOLD by the authors' own Lean function (tested against real Go, not proved from fmt's source: count such statements apart). THE CARD IS WHAT COUNTS. Prove the row's statement (the work); the ties are given (YtiemkfibpfndaaaGreatDoorTie.lean); close each card by the builder's one call (the guide's Derived/Test/ToyasCard.lean, 'card_holds'). Laid BY PROGRAM, IN A SANDBOX (cutbox-door.mjs). By AI agents, Wed Nov 11 2026. No macro, syntax, notation, axiom, sorry.
-/
import Derived.Test.YtiemkfibpfndaaaGreatDoorRows
import GoSem.ClaimSeven
namespace Go.Proofs.YtiemkfibpfndaaaGreatDoor
namespace Rows

/-- THE TIED CARD OF 'cruciblelaw23.PackreadLong'. -/
def packreadLongCard : Claim7 := { stood := { row := packreadLongRow, standIns := [], harness := (true, "801851e071d0dfbcb40afbf2af91a2495fb9da40be0c331bff5fb35dc8617cff"), looks := true }, kinds := [], alts := [], laidByText := true, laidKinds := [.data, .handle, .sentinel, .sentinel, .sentinel, .sentinel, .sentinel, .sentinel, .sentinel, .sentinel, .sentinel, .sentinel, .sentinel, .data], laidTests := true, laidLooks := .later }
def PackreadLongCardSaid : Prop := Claim7.holds Tryz.pinned (.plain (OpenSpec.ofChange packreadLongSpec)) packreadLongCard

/-- THE SECOND FORM's CARD OF 'cruciblelaw23.PackreadLong'. -/
def packreadLongUptoCard : Claim7 := { stood := { row := packreadLongUptoRow, standIns := [], harness := (true, "801851e071d0dfbcb40afbf2af91a2495fb9da40be0c331bff5fb35dc8617cff"), looks := true }, kinds := [], alts := [], laidByText := true, laidKinds := [.data, .handle, .sentinel, .sentinel, .sentinel, .sentinel, .sentinel, .sentinel, .sentinel, .sentinel, .sentinel, .sentinel, .sentinel, .data], laidTests := true, laidLooks := .later }
def PackreadLongUptoCardSaid : Prop := Claim7.holds Tryz.pinned (.plain (OpenSpec.upto packreadLongSpec)) packreadLongUptoCard
end Rows
end Go.Proofs.YtiemkfibpfndaaaGreatDoor
