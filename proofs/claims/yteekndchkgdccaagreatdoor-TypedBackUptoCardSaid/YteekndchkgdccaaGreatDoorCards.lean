/-
  DERIVED. GIVEN WITH THE SEED: THE CARDS: each row of YteekndchkgdccaaGreatDoorRows.lean that lists a variable, with what it lists TIED to the program's text (the seventh form; the later family's looks); each row that meets fmt, with fmt's text TOLD by the authors' own Lean function (tested against real Go, not proved from fmt's source: count such statements apart). THE CARD IS WHAT COUNTS. Prove the row's statement (the work); the ties are given (YteekndchkgdccaaGreatDoorTie.lean); close each card by the builder's one call (the guide's Derived/Test/ToyasCard.lean, 'card_holds'). Laid BY PROGRAM, IN A SANDBOX (cutbox-door.mjs). By AI agents, Wed Nov 11 2026. No macro, syntax, notation, axiom, sorry.
-/
import Derived.Test.YteekndchkgdccaaGreatDoorRows
import GoSem.ClaimSeven
namespace Go.Proofs.YteekndchkgdccaaGreatDoor
namespace Rows

/-- THE TIED CARD OF 'cruciblelaw25.TypedBack'. -/
def typedBackCard : Claim7 := { stood := { row := typedBackRow, standIns := [], harness := (true, "38a5c20dc9ca420a4857c8b45cf68f7654ae54e020bfe1f9daa8175df9b829c3"), looks := true }, kinds := [], alts := [], laidByText := true, laidKinds := [.data, .data, .data, .sentinel, .sentinel, .sentinel, .sentinel, .sentinel, .sentinel, .sentinel, .sentinel, .sentinel, .sentinel, .sentinel, .data, .widerDeep], laidTests := true, laidLooks := .later }
def TypedBackCardSaid : Prop := Claim7.holds Tryz.pinned (.plain (OpenSpec.ofChange typedBackSpec)) typedBackCard

/-- THE SECOND FORM's CARD OF 'cruciblelaw25.TypedBack'. -/
def typedBackUptoCard : Claim7 := { stood := { row := typedBackUptoRow, standIns := [], harness := (true, "38a5c20dc9ca420a4857c8b45cf68f7654ae54e020bfe1f9daa8175df9b829c3"), looks := true }, kinds := [], alts := [], laidByText := true, laidKinds := [.data, .data, .data, .sentinel, .sentinel, .sentinel, .sentinel, .sentinel, .sentinel, .sentinel, .sentinel, .sentinel, .sentinel, .sentinel, .data, .widerDeep], laidTests := true, laidLooks := .later }
def TypedBackUptoCardSaid : Prop := Claim7.holds Tryz.pinned (.plain (OpenSpec.upto typedBackSpec)) typedBackUptoCard
end Rows
end Go.Proofs.YteekndchkgdccaaGreatDoor
