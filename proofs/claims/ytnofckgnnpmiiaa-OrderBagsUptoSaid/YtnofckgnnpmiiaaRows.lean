/-
  No cell of these rows narrows 'for every input' (looked for: loops, veiled, ifaces, maps, wideKeys, modest, calm, conditions, laid).
  DERIVED. THE GIVEN ROWS OF THIS SEAT. 9 by the template 'for every input the law returns true; each argument reads behind the call as it read before'; 0 by the template 'total and deterministic' (their statements: YtnofckgnnpmiiaaTotals.lean).
  GIVEN WITH THE SEED: the statements are not yours to turn. If you find one false, say at which input.
  Laid BY PROGRAM, IN A SANDBOX (cutbox-rows.mjs): the forced cells as the released guide's own fill.sh prints them over the translation 39563b1b4bdbd58d… (all of the seat's roots in one cut). By AI agents, Wed Nov 11 2026. No macro, syntax, notation, axiom, sorry.
-/
import Derived.Test.YtnofckgnnpmiiaaChecked
import GoSem.Claim
import GoSem.ClaimJoined
import GoSem.ClaimMapViews
import Derived.JoinedTies
import Derived.KernelRfl
namespace Go.Proofs.Ytnofckgnnpmiiaa
/- THE CELL 'sum', in the pinned program and in every row, IS THE sha256 OF THE DUMP (.gsa) THAT YtnofckgnnpmiiaaProg.lean LOADS. Nothing in Lean hashes anything: it is a label: what it is worth is what the hold of that sum in a sandbox is worth. -/
noncomputable def Try.pinned : Pinned := { name := "ytnofckgnnpmiiaa", sum := "39563b1b4bdbd58d5d5cdb731a3a2bc8220e15d3444d39b2b8f7d783503d08a6", checked := Try.checked }
namespace Rows
def none {H : Type} : Left H := { results := [], args := [] }

/-- 'cruciblelaw12.OrderSorts': WHATEVER THE INPUT: true; the input reads as it did. -/
def orderSortsSpec : ChangeSpec := { name := "orderSorts", fn := fun _ => fun
  | [d1, d2] => { results := [.lit (.bool true)], args := [d1, d2] }
  | _ => none }
def orderSortsRow : OpenClaim := { program := "ytnofckgnnpmiiaa", sum := "39563b1b4bdbd58d5d5cdb731a3a2bc8220e15d3444d39b2b8f7d783503d08a6", func := "crucible/cruciblelaw12.OrderSorts", spec := "orderSorts", unfollowed := true, recurses := true, apart := false }
def OrderSortsSaid : Prop := orderSortsRow.holds Try.pinned (OpenSpec.ofChange orderSortsSpec)

/-- ITS FALSE NEIGHBOUR: 'it returns false'. Refute it at one input. -/
def orderSortsWrong : ChangeSpec := { name := "orderSorts", fn := fun _ => fun
  | [d1, d2] => { results := [.lit (.bool false)], args := [d1, d2] }
  | _ => none }
def OrderSortsWrongFalsely : Prop := orderSortsRow.holds Try.pinned (OpenSpec.ofChange orderSortsWrong)

/-- 'cruciblelaw12.OrderFinds': WHATEVER THE INPUT: true; the input reads as it did. -/
def orderFindsSpec : ChangeSpec := { name := "orderFinds", fn := fun _ => fun
  | [d1, d2, d3] => { results := [.lit (.bool true)], args := [d1, d2, d3] }
  | _ => none }
def orderFindsRow : OpenClaim := { program := "ytnofckgnnpmiiaa", sum := "39563b1b4bdbd58d5d5cdb731a3a2bc8220e15d3444d39b2b8f7d783503d08a6", func := "crucible/cruciblelaw12.OrderFinds", spec := "orderFinds", unfollowed := true, recurses := true, apart := false }
def OrderFindsSaid : Prop := orderFindsRow.holds Try.pinned (OpenSpec.ofChange orderFindsSpec)

/-- ITS FALSE NEIGHBOUR: 'it returns false'. Refute it at one input. -/
def orderFindsWrong : ChangeSpec := { name := "orderFinds", fn := fun _ => fun
  | [d1, d2, d3] => { results := [.lit (.bool false)], args := [d1, d2, d3] }
  | _ => none }
def OrderFindsWrongFalsely : Prop := orderFindsRow.holds Try.pinned (OpenSpec.ofChange orderFindsWrong)

/-- 'cruciblelaw12.OrderPlaces': WHATEVER THE INPUT: true; the input reads as it did. -/
def orderPlacesSpec : ChangeSpec := { name := "orderPlaces", fn := fun _ => fun
  | [d1, d2, d3] => { results := [.lit (.bool true)], args := [d1, d2, d3] }
  | _ => none }
def orderPlacesRow : OpenClaim := { program := "ytnofckgnnpmiiaa", sum := "39563b1b4bdbd58d5d5cdb731a3a2bc8220e15d3444d39b2b8f7d783503d08a6", func := "crucible/cruciblelaw12.OrderPlaces", spec := "orderPlaces", unfollowed := true, recurses := true, apart := false }
def OrderPlacesSaid : Prop := orderPlacesRow.holds Try.pinned (OpenSpec.ofChange orderPlacesSpec)

/-- ITS FALSE NEIGHBOUR: 'it returns false'. Refute it at one input. -/
def orderPlacesWrong : ChangeSpec := { name := "orderPlaces", fn := fun _ => fun
  | [d1, d2, d3] => { results := [.lit (.bool false)], args := [d1, d2, d3] }
  | _ => none }
def OrderPlacesWrongFalsely : Prop := orderPlacesRow.holds Try.pinned (OpenSpec.ofChange orderPlacesWrong)

/-- 'cruciblelaw12.OrderTexts': WHATEVER THE INPUT: true; the input reads as it did. -/
def orderTextsSpec : ChangeSpec := { name := "orderTexts", fn := fun _ => fun
  | [d] => { results := [.lit (.bool true)], args := [d] }
  | _ => none }
def orderTextsRow : OpenClaim := { program := "ytnofckgnnpmiiaa", sum := "39563b1b4bdbd58d5d5cdb731a3a2bc8220e15d3444d39b2b8f7d783503d08a6", func := "crucible/cruciblelaw12.OrderTexts", spec := "orderTexts", unfollowed := true, recurses := true, apart := false }
def OrderTextsSaid : Prop := orderTextsRow.holds Try.pinned (OpenSpec.ofChange orderTextsSpec)

/-- ITS FALSE NEIGHBOUR: 'it returns false'. Refute it at one input. -/
def orderTextsWrong : ChangeSpec := { name := "orderTexts", fn := fun _ => fun
  | [d] => { results := [.lit (.bool false)], args := [d] }
  | _ => none }
def OrderTextsWrongFalsely : Prop := orderTextsRow.holds Try.pinned (OpenSpec.ofChange orderTextsWrong)

/-- 'cruciblelaw12.OrderBags': WHATEVER THE INPUT: true; the input reads as it did. -/
def orderBagsSpec : ChangeSpec := { name := "orderBags", fn := fun _ => fun
  | [d1, d2, d3] => { results := [.lit (.bool true)], args := [d1, d2, d3] }
  | _ => none }
def orderBagsRow : OpenClaim := { program := "ytnofckgnnpmiiaa", sum := "39563b1b4bdbd58d5d5cdb731a3a2bc8220e15d3444d39b2b8f7d783503d08a6", func := "crucible/cruciblelaw12.OrderBags", spec := "orderBags", unfollowed := true, recurses := true, apart := false }
def OrderBagsSaid : Prop := orderBagsRow.holds Try.pinned (OpenSpec.ofChange orderBagsSpec)

/-- ITS FALSE NEIGHBOUR: 'it returns false'. Refute it at one input. -/
def orderBagsWrong : ChangeSpec := { name := "orderBags", fn := fun _ => fun
  | [d1, d2, d3] => { results := [.lit (.bool false)], args := [d1, d2, d3] }
  | _ => none }
def OrderBagsWrongFalsely : Prop := orderBagsRow.holds Try.pinned (OpenSpec.ofChange orderBagsWrong)

/-- 'cruciblelaw12.OrderDrains': WHATEVER THE INPUT: true; the input reads as it did. -/
def orderDrainsSpec : ChangeSpec := { name := "orderDrains", fn := fun _ => fun
  | [d] => { results := [.lit (.bool true)], args := [d] }
  | _ => none }
def orderDrainsRow : OpenClaim := { program := "ytnofckgnnpmiiaa", sum := "39563b1b4bdbd58d5d5cdb731a3a2bc8220e15d3444d39b2b8f7d783503d08a6", func := "crucible/cruciblelaw12.OrderDrains", spec := "orderDrains", unfollowed := true, recurses := true, apart := false }
def OrderDrainsSaid : Prop := orderDrainsRow.holds Try.pinned (OpenSpec.ofChange orderDrainsSpec)

/-- ITS FALSE NEIGHBOUR: 'it returns false'. Refute it at one input. -/
def orderDrainsWrong : ChangeSpec := { name := "orderDrains", fn := fun _ => fun
  | [d] => { results := [.lit (.bool false)], args := [d] }
  | _ => none }
def OrderDrainsWrongFalsely : Prop := orderDrainsRow.holds Try.pinned (OpenSpec.ofChange orderDrainsWrong)

/-- 'cruciblelaw12.OrderMerges': WHATEVER THE INPUT: true; the input reads as it did. -/
def orderMergesSpec : ChangeSpec := { name := "orderMerges", fn := fun _ => fun
  | [d1, d2, d3] => { results := [.lit (.bool true)], args := [d1, d2, d3] }
  | _ => none }
def orderMergesRow : OpenClaim := { program := "ytnofckgnnpmiiaa", sum := "39563b1b4bdbd58d5d5cdb731a3a2bc8220e15d3444d39b2b8f7d783503d08a6", func := "crucible/cruciblelaw12.OrderMerges", spec := "orderMerges", unfollowed := true, recurses := true, apart := false }
def OrderMergesSaid : Prop := orderMergesRow.holds Try.pinned (OpenSpec.ofChange orderMergesSpec)

/-- ITS FALSE NEIGHBOUR: 'it returns false'. Refute it at one input. -/
def orderMergesWrong : ChangeSpec := { name := "orderMerges", fn := fun _ => fun
  | [d1, d2, d3] => { results := [.lit (.bool false)], args := [d1, d2, d3] }
  | _ => none }
def OrderMergesWrongFalsely : Prop := orderMergesRow.holds Try.pinned (OpenSpec.ofChange orderMergesWrong)

/-- 'cruciblelaw12.OrderStands': WHATEVER THE INPUT: true; the input reads as it did. -/
def orderStandsSpec : ChangeSpec := { name := "orderStands", fn := fun _ => fun
  | [d1, d2, d3] => { results := [.lit (.bool true)], args := [d1, d2, d3] }
  | _ => none }
def orderStandsRow : OpenClaim := { program := "ytnofckgnnpmiiaa", sum := "39563b1b4bdbd58d5d5cdb731a3a2bc8220e15d3444d39b2b8f7d783503d08a6", func := "crucible/cruciblelaw12.OrderStands", spec := "orderStands", unfollowed := true, recurses := true, apart := false }
def OrderStandsSaid : Prop := orderStandsRow.holds Try.pinned (OpenSpec.ofChange orderStandsSpec)

/-- ITS FALSE NEIGHBOUR: 'it returns false'. Refute it at one input. -/
def orderStandsWrong : ChangeSpec := { name := "orderStands", fn := fun _ => fun
  | [d1, d2, d3] => { results := [.lit (.bool false)], args := [d1, d2, d3] }
  | _ => none }
def OrderStandsWrongFalsely : Prop := orderStandsRow.holds Try.pinned (OpenSpec.ofChange orderStandsWrong)

/-- 'cruciblelaw12.OrderCounts': WHATEVER THE INPUT: true; the input reads as it did. -/
def orderCountsSpec : ChangeSpec := { name := "orderCounts", fn := fun _ => fun
  | [d] => { results := [.lit (.bool true)], args := [d] }
  | _ => none }
def orderCountsRow : OpenClaim := { program := "ytnofckgnnpmiiaa", sum := "39563b1b4bdbd58d5d5cdb731a3a2bc8220e15d3444d39b2b8f7d783503d08a6", func := "crucible/cruciblelaw12.OrderCounts", spec := "orderCounts", unfollowed := true, recurses := true, apart := false }
def OrderCountsSaid : Prop := orderCountsRow.holds Try.pinned (OpenSpec.ofChange orderCountsSpec)

/-- ITS FALSE NEIGHBOUR: 'it returns false'. Refute it at one input. -/
def orderCountsWrong : ChangeSpec := { name := "orderCounts", fn := fun _ => fun
  | [d] => { results := [.lit (.bool false)], args := [d] }
  | _ => none }
def OrderCountsWrongFalsely : Prop := orderCountsRow.holds Try.pinned (OpenSpec.ofChange orderCountsWrong)

/- THE SECOND FORM. 'bulk': how many values and letters a reading holds, each counted each time it is reached (what is shared counts as often as it is met; a slice's spare places count too). A statement '..UptoSaid' is the law's where the arguments, and the package variables that the reading takes, are together of bulk at most 1048576: NARROWER than '..Said'. Prove '..Said' where nothing that the law and all that it calls make is longer than what came in: it says more and counts as full. Else prove '..UptoSaid'. A law counts once. -/
mutual
def uptoBulk {H : Type} : DataW H → Nat
  | .lit (.string bytes) => bytes.length + 1
  | .lit _ => 1
  | .nil => 1
  | .ptr d => uptoBulk d + 1
  | .slice elems spare => uptoBulkAll elems + uptoBulkAll spare + 1
  | .agg parts => uptoBulkAll parts + 1
  | .iface _ d => uptoBulk d + 1
  | .map entries => uptoBulkEntries entries + 1
  | .held _ => 1
def uptoBulkAll {H : Type} : List (DataW H) → Nat
  | [] => 0
  | d :: r => uptoBulk d + uptoBulkAll r
def uptoBulkEntries {H : Type} : List (Lit × DataW H) → Nat
  | [] => 0
  | x :: r => uptoBulkEntry x + uptoBulkEntries r
def uptoBulkEntry {H : Type} : Lit × DataW H → Nat
  | (.string bytes, d) => bytes.length + uptoBulk d + 1
  | (_, d) => uptoBulk d + 1
 end
def uptoSmall : (H : Type) → List (DataW H) → Bool := fun _ ds => decide (uptoBulkAll ds ≤ 1048576)
def OpenSpec.upto (s : _root_.Go.ChangeSpec) : _root_.Go.OpenSpec := { _root_.Go.OpenSpec.ofChange s with cond := some uptoSmall }

/-- 'cruciblelaw12.OrderSorts', WHERE WHAT IT READS IS OF BULK AT MOST 1048576: true; the input reads as it did. -/
def orderSortsUptoRow : OpenClaim := { program := "ytnofckgnnpmiiaa", sum := "39563b1b4bdbd58d5d5cdb731a3a2bc8220e15d3444d39b2b8f7d783503d08a6", func := "crucible/cruciblelaw12.OrderSorts", spec := "orderSorts", unfollowed := true, recurses := true, apart := false, narrowed := true }
def OrderSortsUptoSaid : Prop := orderSortsUptoRow.holds Try.pinned (OpenSpec.upto orderSortsSpec)

/-- 'cruciblelaw12.OrderFinds', WHERE WHAT IT READS IS OF BULK AT MOST 1048576: true; the input reads as it did. -/
def orderFindsUptoRow : OpenClaim := { program := "ytnofckgnnpmiiaa", sum := "39563b1b4bdbd58d5d5cdb731a3a2bc8220e15d3444d39b2b8f7d783503d08a6", func := "crucible/cruciblelaw12.OrderFinds", spec := "orderFinds", unfollowed := true, recurses := true, apart := false, narrowed := true }
def OrderFindsUptoSaid : Prop := orderFindsUptoRow.holds Try.pinned (OpenSpec.upto orderFindsSpec)

/-- 'cruciblelaw12.OrderPlaces', WHERE WHAT IT READS IS OF BULK AT MOST 1048576: true; the input reads as it did. -/
def orderPlacesUptoRow : OpenClaim := { program := "ytnofckgnnpmiiaa", sum := "39563b1b4bdbd58d5d5cdb731a3a2bc8220e15d3444d39b2b8f7d783503d08a6", func := "crucible/cruciblelaw12.OrderPlaces", spec := "orderPlaces", unfollowed := true, recurses := true, apart := false, narrowed := true }
def OrderPlacesUptoSaid : Prop := orderPlacesUptoRow.holds Try.pinned (OpenSpec.upto orderPlacesSpec)

/-- 'cruciblelaw12.OrderTexts', WHERE WHAT IT READS IS OF BULK AT MOST 1048576: true; the input reads as it did. -/
def orderTextsUptoRow : OpenClaim := { program := "ytnofckgnnpmiiaa", sum := "39563b1b4bdbd58d5d5cdb731a3a2bc8220e15d3444d39b2b8f7d783503d08a6", func := "crucible/cruciblelaw12.OrderTexts", spec := "orderTexts", unfollowed := true, recurses := true, apart := false, narrowed := true }
def OrderTextsUptoSaid : Prop := orderTextsUptoRow.holds Try.pinned (OpenSpec.upto orderTextsSpec)

/-- 'cruciblelaw12.OrderBags', WHERE WHAT IT READS IS OF BULK AT MOST 1048576: true; the input reads as it did. -/
def orderBagsUptoRow : OpenClaim := { program := "ytnofckgnnpmiiaa", sum := "39563b1b4bdbd58d5d5cdb731a3a2bc8220e15d3444d39b2b8f7d783503d08a6", func := "crucible/cruciblelaw12.OrderBags", spec := "orderBags", unfollowed := true, recurses := true, apart := false, narrowed := true }
def OrderBagsUptoSaid : Prop := orderBagsUptoRow.holds Try.pinned (OpenSpec.upto orderBagsSpec)

/-- 'cruciblelaw12.OrderDrains', WHERE WHAT IT READS IS OF BULK AT MOST 1048576: true; the input reads as it did. -/
def orderDrainsUptoRow : OpenClaim := { program := "ytnofckgnnpmiiaa", sum := "39563b1b4bdbd58d5d5cdb731a3a2bc8220e15d3444d39b2b8f7d783503d08a6", func := "crucible/cruciblelaw12.OrderDrains", spec := "orderDrains", unfollowed := true, recurses := true, apart := false, narrowed := true }
def OrderDrainsUptoSaid : Prop := orderDrainsUptoRow.holds Try.pinned (OpenSpec.upto orderDrainsSpec)

/-- 'cruciblelaw12.OrderMerges', WHERE WHAT IT READS IS OF BULK AT MOST 1048576: true; the input reads as it did. -/
def orderMergesUptoRow : OpenClaim := { program := "ytnofckgnnpmiiaa", sum := "39563b1b4bdbd58d5d5cdb731a3a2bc8220e15d3444d39b2b8f7d783503d08a6", func := "crucible/cruciblelaw12.OrderMerges", spec := "orderMerges", unfollowed := true, recurses := true, apart := false, narrowed := true }
def OrderMergesUptoSaid : Prop := orderMergesUptoRow.holds Try.pinned (OpenSpec.upto orderMergesSpec)

/-- 'cruciblelaw12.OrderStands', WHERE WHAT IT READS IS OF BULK AT MOST 1048576: true; the input reads as it did. -/
def orderStandsUptoRow : OpenClaim := { program := "ytnofckgnnpmiiaa", sum := "39563b1b4bdbd58d5d5cdb731a3a2bc8220e15d3444d39b2b8f7d783503d08a6", func := "crucible/cruciblelaw12.OrderStands", spec := "orderStands", unfollowed := true, recurses := true, apart := false, narrowed := true }
def OrderStandsUptoSaid : Prop := orderStandsUptoRow.holds Try.pinned (OpenSpec.upto orderStandsSpec)

/-- 'cruciblelaw12.OrderCounts', WHERE WHAT IT READS IS OF BULK AT MOST 1048576: true; the input reads as it did. -/
def orderCountsUptoRow : OpenClaim := { program := "ytnofckgnnpmiiaa", sum := "39563b1b4bdbd58d5d5cdb731a3a2bc8220e15d3444d39b2b8f7d783503d08a6", func := "crucible/cruciblelaw12.OrderCounts", spec := "orderCounts", unfollowed := true, recurses := true, apart := false, narrowed := true }
def OrderCountsUptoSaid : Prop := orderCountsUptoRow.holds Try.pinned (OpenSpec.upto orderCountsSpec)

end Rows
end Go.Proofs.Ytnofckgnnpmiiaa
