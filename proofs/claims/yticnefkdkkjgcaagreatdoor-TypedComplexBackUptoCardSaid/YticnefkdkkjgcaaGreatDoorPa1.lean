/- A world that meets what the row lays: what the door's run leaves, and the pinned table laid beside it. -/
import Derived.Test.YticnefkdkkjgcaaGreatDoorRows
import Derived.Test.YticnefkdkkjgcaaGreatDoorCards
import Derived.ChangeSame
import Derived.ChangeVars
import Derived.JoinedOf
import Derived.RowKit
import Derived.RowKitTokens
import Derived.LaidLaws
import Derived.LaidHandle
import Derived.Stop.Joined
import Derived.LaidMore
import Derived.Lay
namespace Go.Proofs.YticnefkdkkjgcaaGreatDoor
open Go.ChangeShapes Go.WideShapes Go.RowKit

noncomputable def wDoor (os : Os) : World := (World.doorLaid Tryz.prog 400 os).layVars Tryz.prog [("unicode/utf8.first", Rows.laid_unicode_utf8_first)]
theorem wDoor_os (os : Os) : (wDoor os).os = os := World.layVars_os _ _ _
theorem great1 : ((Rows.typedComplexBackUptoRow.laid.filter fun x => x.2.handleName?.isNone).filter fun x => ["unicode/utf8.first"].contains x.1) = [("unicode/utf8.first", Rows.laid_unicode_utf8_first)] := by kernel_rfl
theorem door_fits (os : Os) : (World.doorLaid Tryz.prog 400 os).layFits Tryz.prog [("unicode/utf8.first", Rows.laid_unicode_utf8_first)] ((List.range (World.doorLaid Tryz.prog 400 os).heap.size).filter (· != 18)) = true := by kernel_rfl
theorem door_ifs (os : Os) (args : Array Value) : (World.doorLaid Tryz.prog 400 os).layIfaces Tryz.prog [("unicode/utf8.first", Rows.laid_unicode_utf8_first)] ((wDoor os).forCall (fun _ _ => 0) ⟨#[], args, []⟩).memory = true := by kernel_rfl
theorem door_rest (os : Os) (args : Array Value) : LaidIn Tryz.prog ((wDoor os).forCall (fun _ _ => 0) ⟨#[], args, []⟩).memory ((Rows.typedComplexBackUptoRow.laid.filter fun x => x.2.handleName?.isNone).filter fun x => !["unicode/utf8.first"].contains x.1) ((List.range (World.doorLaid Tryz.prog 400 os).heap.size).filter (· != 18)) :=
  LaidIn.of_run _ 8 (by kernel_rfl) (by kernel_rfl) (by kernel_rfl) (by kernel_rfl)
theorem door_met (os : Os) (args : Array Value) : laidMetH Tryz.prog Rows.typedComplexBackUptoRow.laid ((wDoor os).forCall (fun _ _ => 0) ⟨#[], args, []⟩).memory :=
  laidMetH_of_parts (laidMet_layVars (w0 := World.doorLaid Tryz.prog 400 os) ["unicode/utf8.first"] ((List.range (World.doorLaid Tryz.prog 400 os).heap.size).filter (· != 18))
    (by rw [great1]; simp [World.memory, World.forCall, Input.heap, wDoor]) (by rw [great1]; exact door_fits os) (by rw [great1]; exact door_ifs os args) (door_rest os args)) (by kernel_rfl)
end Go.Proofs.YticnefkdkkjgcaaGreatDoor
