/-
  DERIVED. GIVEN WITH THE SEED: THE CARDS: each row of YtfpkjmpkhokodaaGreatDoorRows.lean that lists a variable, with what it lists TIED to the program's text (the seventh form; the later family's looks); each row that meets fmt, with fmt's text TOLD by the authors' own Lean function (tested against real Go, not proved from fmt's source: count such statements apart). THE CARD IS WHAT COUNTS. Prove the row's statement (the work); the ties are given (YtfpkjmpkhokodaaGreatDoorTie.lean); close each card by the builder's one call (the guide's Derived/Test/ToyasCard.lean, 'card_holds'). Laid BY PROGRAM, IN A SANDBOX (cutbox-door.mjs). By AI agents, Wed Nov 11 2026. No macro, syntax, notation, axiom, sorry.
-/
import Derived.Test.YtfpkjmpkhokodaaGreatDoorRows
import GoSem.ClaimSeven
namespace Go.Proofs.YtfpkjmpkhokodaaGreatDoor
namespace Rows

/-- THE TIED CARD OF 'cruciblelaw23.PackreadAhead'. -/
def packreadAheadCard : Claim7 := { stood := { row := packreadAheadRow, standIns := [], harness := (true, "125a3a114f86acee7ea349194f44ead8eb3337f646638c7fabeaed3b88c57a4d"), looks := true }, kinds := [], alts := [], laidByText := true, laidKinds := [.data, .handle, .sentinel, .sentinel, .sentinel, .sentinel, .sentinel, .sentinel, .sentinel, .sentinel, .sentinel, .sentinel, .sentinel, .data], laidTests := true, laidLooks := .later }
def PackreadAheadCardSaid : Prop := Claim7.holds Tryz.pinned (.plain (OpenSpec.ofChange packreadAheadSpec)) packreadAheadCard

/-- THE TIED CARD OF 'cruciblelaw23.PackreadWide'. -/
def packreadWideCard : Claim7 := { stood := { row := packreadWideRow, standIns := [], harness := (true, "125a3a114f86acee7ea349194f44ead8eb3337f646638c7fabeaed3b88c57a4d"), looks := true }, kinds := [], alts := [], laidByText := true, laidKinds := [.data, .handle, .sentinel, .sentinel, .sentinel, .sentinel, .sentinel, .sentinel, .sentinel, .sentinel, .sentinel, .sentinel, .sentinel, .data], laidTests := true, laidLooks := .later }
def PackreadWideCardSaid : Prop := Claim7.holds Tryz.pinned (.plain (OpenSpec.ofChange packreadWideSpec)) packreadWideCard

/-- THE TIED CARD OF 'cruciblelaw23.PackreadMay'. -/
def packreadMayCard : Claim7 := { stood := { row := packreadMayRow, standIns := [], harness := (true, "125a3a114f86acee7ea349194f44ead8eb3337f646638c7fabeaed3b88c57a4d"), looks := true }, kinds := [], alts := [], laidByText := true, laidKinds := [.data, .data, .data, .handle, .sentinel, .sentinel, .sentinel, .sentinel, .sentinel, .sentinel, .sentinel, .sentinel, .sentinel, .sentinel, .sentinel, .data], laidTests := true, laidLooks := .later }
def PackreadMayCardSaid : Prop := Claim7.holds Tryz.pinned (.plain (OpenSpec.ofChange packreadMaySpec)) packreadMayCard

/-- THE TIED CARD OF 'cruciblelaw23.PackreadNumbers'. -/
def packreadNumbersCard : Claim7 := { stood := { row := packreadNumbersRow, standIns := [], harness := (true, "125a3a114f86acee7ea349194f44ead8eb3337f646638c7fabeaed3b88c57a4d"), looks := true }, kinds := [], alts := [], laidByText := true, laidKinds := [.data, .data, .data, .handle, .sentinel, .sentinel, .sentinel, .sentinel, .sentinel, .sentinel, .sentinel, .sentinel, .sentinel, .sentinel, .sentinel, .data], laidTests := true, laidLooks := .later }
def PackreadNumbersCardSaid : Prop := Claim7.holds Tryz.pinned (.plain (OpenSpec.ofChange packreadNumbersSpec)) packreadNumbersCard

/-- THE SECOND FORM's CARD OF 'cruciblelaw23.PackreadAhead'. -/
def packreadAheadUptoCard : Claim7 := { stood := { row := packreadAheadUptoRow, standIns := [], harness := (true, "125a3a114f86acee7ea349194f44ead8eb3337f646638c7fabeaed3b88c57a4d"), looks := true }, kinds := [], alts := [], laidByText := true, laidKinds := [.data, .handle, .sentinel, .sentinel, .sentinel, .sentinel, .sentinel, .sentinel, .sentinel, .sentinel, .sentinel, .sentinel, .sentinel, .data], laidTests := true, laidLooks := .later }
def PackreadAheadUptoCardSaid : Prop := Claim7.holds Tryz.pinned (.plain (OpenSpec.upto packreadAheadSpec)) packreadAheadUptoCard

/-- THE SECOND FORM's CARD OF 'cruciblelaw23.PackreadWide'. -/
def packreadWideUptoCard : Claim7 := { stood := { row := packreadWideUptoRow, standIns := [], harness := (true, "125a3a114f86acee7ea349194f44ead8eb3337f646638c7fabeaed3b88c57a4d"), looks := true }, kinds := [], alts := [], laidByText := true, laidKinds := [.data, .handle, .sentinel, .sentinel, .sentinel, .sentinel, .sentinel, .sentinel, .sentinel, .sentinel, .sentinel, .sentinel, .sentinel, .data], laidTests := true, laidLooks := .later }
def PackreadWideUptoCardSaid : Prop := Claim7.holds Tryz.pinned (.plain (OpenSpec.upto packreadWideSpec)) packreadWideUptoCard

/-- THE SECOND FORM's CARD OF 'cruciblelaw23.PackreadMay'. -/
def packreadMayUptoCard : Claim7 := { stood := { row := packreadMayUptoRow, standIns := [], harness := (true, "125a3a114f86acee7ea349194f44ead8eb3337f646638c7fabeaed3b88c57a4d"), looks := true }, kinds := [], alts := [], laidByText := true, laidKinds := [.data, .data, .data, .handle, .sentinel, .sentinel, .sentinel, .sentinel, .sentinel, .sentinel, .sentinel, .sentinel, .sentinel, .sentinel, .sentinel, .data], laidTests := true, laidLooks := .later }
def PackreadMayUptoCardSaid : Prop := Claim7.holds Tryz.pinned (.plain (OpenSpec.upto packreadMaySpec)) packreadMayUptoCard

/-- THE SECOND FORM's CARD OF 'cruciblelaw23.PackreadNumbers'. -/
def packreadNumbersUptoCard : Claim7 := { stood := { row := packreadNumbersUptoRow, standIns := [], harness := (true, "125a3a114f86acee7ea349194f44ead8eb3337f646638c7fabeaed3b88c57a4d"), looks := true }, kinds := [], alts := [], laidByText := true, laidKinds := [.data, .data, .data, .handle, .sentinel, .sentinel, .sentinel, .sentinel, .sentinel, .sentinel, .sentinel, .sentinel, .sentinel, .sentinel, .sentinel, .data], laidTests := true, laidLooks := .later }
def PackreadNumbersUptoCardSaid : Prop := Claim7.holds Tryz.pinned (.plain (OpenSpec.upto packreadNumbersSpec)) packreadNumbersUptoCard
end Rows
end Go.Proofs.YtfpkjmpkhokodaaGreatDoor
