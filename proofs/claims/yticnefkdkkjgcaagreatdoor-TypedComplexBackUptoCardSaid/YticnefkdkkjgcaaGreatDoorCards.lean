/-
  DERIVED. GIVEN WITH THE SEED: THE CARDS: each row of YticnefkdkkjgcaaGreatDoorRows.lean that lists a variable, with what it lists TIED to the program's text (the seventh form; the later family's looks); each row that meets fmt, with fmt's text TOLD by the authors' own Lean function (tested against real Go, not proved from fmt's source: count such statements apart). THE CARD IS WHAT COUNTS. Prove the row's statement (the work); the ties are given (YticnefkdkkjgcaaGreatDoorTie.lean); close each card by the builder's one call (the guide's Derived/Test/ToyasCard.lean, 'card_holds'). Laid BY PROGRAM, IN A SANDBOX (cutbox-door.mjs). By AI agents, Wed Nov 11 2026. No macro, syntax, notation, axiom, sorry.
-/
import Derived.Test.YticnefkdkkjgcaaGreatDoorRows
import GoSem.ClaimSeven
namespace Go.Proofs.YticnefkdkkjgcaaGreatDoor
namespace Rows

/-- THE TIED CARD OF 'cruciblelaw25.TypedComplexBack'. -/
def typedComplexBackCard : Claim7 := { stood := { row := typedComplexBackRow, standIns := [], harness := (true, "eafbf27ad061e1daf51b131adb6e19132987e14d34714daa518b4b6019d0c8c6"), looks := true }, kinds := [], alts := [], laidByText := true, laidKinds := [.data, .data, .data, .data, .handle, .sentinel, .sentinel, .sentinel, .sentinel, .sentinel, .sentinel, .sentinel, .sentinel, .sentinel, .sentinel, .sentinel, .data, .sentinel, .widerDeep, .pinned], laidTests := true, laidLooks := .later }
def TypedComplexBackCardSaid : Prop := Claim7.holds Tryz.pinned (.plain (OpenSpec.ofChange typedComplexBackSpec)) typedComplexBackCard

/-- THE TIED CARD OF 'cruciblelaw25.TypedBytes'. -/
def typedBytesCard : Claim7 := { stood := { row := typedBytesRow, standIns := [], harness := (true, "eafbf27ad061e1daf51b131adb6e19132987e14d34714daa518b4b6019d0c8c6"), looks := true }, kinds := [], alts := [], laidByText := true, laidKinds := [.data, .data, .data, .handle, .sentinel, .sentinel, .sentinel, .sentinel, .sentinel, .sentinel, .sentinel, .sentinel, .sentinel, .sentinel, .sentinel, .data, .widerDeep], laidTests := true, laidLooks := .later }
def TypedBytesCardSaid : Prop := Claim7.holds Tryz.pinned (.plain (OpenSpec.ofChange typedBytesSpec)) typedBytesCard

/-- THE SECOND FORM's CARD OF 'cruciblelaw25.TypedComplexBack'. -/
def typedComplexBackUptoCard : Claim7 := { stood := { row := typedComplexBackUptoRow, standIns := [], harness := (true, "eafbf27ad061e1daf51b131adb6e19132987e14d34714daa518b4b6019d0c8c6"), looks := true }, kinds := [], alts := [], laidByText := true, laidKinds := [.data, .data, .data, .data, .handle, .sentinel, .sentinel, .sentinel, .sentinel, .sentinel, .sentinel, .sentinel, .sentinel, .sentinel, .sentinel, .sentinel, .data, .sentinel, .widerDeep, .pinned], laidTests := true, laidLooks := .later }
def TypedComplexBackUptoCardSaid : Prop := Claim7.holds Tryz.pinned (.plain (OpenSpec.upto typedComplexBackSpec)) typedComplexBackUptoCard

/-- THE SECOND FORM's CARD OF 'cruciblelaw25.TypedBytes'. -/
def typedBytesUptoCard : Claim7 := { stood := { row := typedBytesUptoRow, standIns := [], harness := (true, "eafbf27ad061e1daf51b131adb6e19132987e14d34714daa518b4b6019d0c8c6"), looks := true }, kinds := [], alts := [], laidByText := true, laidKinds := [.data, .data, .data, .handle, .sentinel, .sentinel, .sentinel, .sentinel, .sentinel, .sentinel, .sentinel, .sentinel, .sentinel, .sentinel, .sentinel, .data, .widerDeep], laidTests := true, laidLooks := .later }
def TypedBytesUptoCardSaid : Prop := Claim7.holds Tryz.pinned (.plain (OpenSpec.upto typedBytesSpec)) typedBytesUptoCard
end Rows
end Go.Proofs.YticnefkdkkjgcaaGreatDoor
