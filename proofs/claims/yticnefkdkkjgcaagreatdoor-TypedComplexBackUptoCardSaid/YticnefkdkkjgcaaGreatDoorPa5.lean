/- What the row lays: the package's variables. -/
import Derived.Stop.LaidErr
import Derived.LaidSub
import Derived.Lib.LaidTab
import Derived.Deep.Strs
import Derived.OpenShut
import Derived.Test.YticnefkdkkjgcaaGreatDoorPa4
namespace Go.Proofs.YticnefkdkkjgcaaGreatDoor
open Go.ChangeShapes Go.WideShapes Go.RowKit

theorem star : "*" ++ "errors.errorString" = "*errors.errorString" := by decide
theorem rowE (u : TypeId) (h : Tryz.prog.typeName? 3 u = some "*errors.errorString") : u = 260 :=
  typeName_ptr_named (nm := "errors.errorString") (by rw [star]; kernel_rfl) (by kernel_rfl) (by decide) u (by rw [star]; exact h)
theorem cellsE : Tryz.prog.cellsOf 280 = 1 := by kernel_rfl
theorem cellsS : Tryz.prog.cellsOf 9 = 1 := by kernel_rfl
set_option maxRecDepth 100000 in
theorem sent1 {n : String} {text : List UInt8} {r : List (String × DataW Unit)} {W : World} {g : Nat}
    (h : laidMet Tryz.prog ((n, .iface "*errors.errorString" (.ptr (.agg [.lit (.string text)]))) :: r) W) (hg : Tryz.prog.globalNamed n = some g) (ht : (Tryz.prog.globals[g]?).map (·.type) = some 42) :
    ∃ (a : Addr) (s : ByteArray) (c : Array Value) (t : TypeId), W.cell? ⟨g, 0, none⟩ = some (.iface 260 (.pointer (some a))) ∧ W.cell? a = some (.string s) ∧ s.data.toList = text ∧ W.heap[a.block]? = some (.cells c t (0, 0)) := by
  obtain ⟨ps, ⟨g0, t0, cs0, f0, p0, q0, hg0, ht0, hv0, hd0, _, e0⟩, _, hrows⟩ := h
  obtain rfl := Option.some.inj (hg.symm.trans hg0)
  obtain rfl := Option.some.inj (ht.symm.trans ht0)
  subst e0
  obtain ⟨l0⟩ := cs0
  have ok0 : ∀ u v, l0 = [.iface u v] → Value.okWide Tryz.prog W .any 0 u v := fun u v e => by
    subst e
    exact (hrows g 0 (by simp [MemPlace.row])).2 u v (by simpa using World.var?_cell hg0 hv0 0)
  obtain ⟨a, s, rfl, hc, hs, hz, rfl⟩ := errorString_of_trod Tryz.underlying42 rowE Tryz.underlying260 Tryz.underlying280 rfl rfl Tryz.underlying9 cellsE cellsS hd0 ok0
  obtain ⟨c0, t1, hb0⟩ := (hrows a.block a.off (by simp [MemPlace.row])).1
  refine ⟨a, s, c0, t1, ?_, hc, hs, hb0⟩
  simpa using World.var?_cell hg0 hv0 0
def textE : Nat → List UInt8
  | 1 => [97, 110, 32, 97, 114, 103, 117, 109, 101, 110, 116, 32, 116, 104, 97, 116, 32, 109, 97, 121, 32, 110, 111, 116, 32, 98, 101]
  | 2 => [97, 110, 32, 111, 98, 106, 101, 99, 116, 32, 116, 104, 97, 116, 32, 105, 115, 32, 110, 111, 116, 32, 116, 104, 101, 114, 101]
  | 3 => [110, 111, 32, 100, 111, 99, 117, 109, 101, 110, 116, 32, 111, 102, 32, 105, 116, 115, 32, 102, 111, 114, 109, 97, 116]
  | 4 => [97, 32, 118, 97, 108, 117, 101, 32, 116, 104, 97, 116, 32, 116, 104, 101, 32, 102, 111, 114, 109, 97, 116, 32, 104, 97, 115, 32, 110, 111, 116]
  | 5 => [97, 32, 108, 105, 109, 105, 116]
  | 6 => [110, 111, 32, 115, 117, 99, 104, 32, 116, 104, 105, 110, 103]
  | 7 => [116, 111, 111, 32, 109, 97, 110, 121, 32, 115, 101, 115, 115, 105, 111, 110, 115]
  | 8 => [110, 111, 32, 115, 117, 99, 104, 32, 115, 101, 115, 115, 105, 111, 110]
  | 9 => [97, 110, 111, 116, 104, 101, 114, 32, 107, 101, 121]
  | 10 => [115, 116, 111, 112, 112, 101, 100]
  | _ => [110, 111, 32, 115, 99, 114, 105, 112, 116]
set_option maxRecDepth 100000 in
theorem textE_inj : ((List.range 11).all fun i => (List.range 11).all fun j => decide (i = j) || !decide (textE (i + 1) = textE (j + 1))) = true := by kernel_rfl
set_option maxRecDepth 100000 in
theorem sent_1 {W : World} (h : laidMetH Tryz.prog Rows.typedComplexBackUptoRow.laid W) : ∃ (a : Addr) (s : ByteArray) (c : Array Value) (t : TypeId), W.cell? ⟨gerr 1, 0, none⟩ = some (.iface 260 (.pointer (some a))) ∧ W.cell? a = some (.string s) ∧ s.data.toList = textE 1 ∧ W.heap[a.block]? = some (.cells c t (0, 0)) := by
  have h1 : laidMetH Tryz.prog [("crucible/api.ErrArg", Rows.laid_crucible_api_ErrArg)] W := h.filter (fun x => x.1 == "crucible/api.ErrArg")
  have h2 : laidMet Tryz.prog [("crucible/api.ErrArg", Rows.laid_crucible_api_ErrArg)] W := h1
  exact sent1 h2 (g := gerr 1) (by kernel_rfl) (by kernel_rfl)
set_option maxRecDepth 100000 in
theorem sent_2 {W : World} (h : laidMetH Tryz.prog Rows.typedComplexBackUptoRow.laid W) : ∃ (a : Addr) (s : ByteArray) (c : Array Value) (t : TypeId), W.cell? ⟨gerr 2, 0, none⟩ = some (.iface 260 (.pointer (some a))) ∧ W.cell? a = some (.string s) ∧ s.data.toList = textE 2 ∧ W.heap[a.block]? = some (.cells c t (0, 0)) := by
  have h1 : laidMetH Tryz.prog [("crucible/api.ErrNil", Rows.laid_crucible_api_ErrNil)] W := h.filter (fun x => x.1 == "crucible/api.ErrNil")
  have h2 : laidMet Tryz.prog [("crucible/api.ErrNil", Rows.laid_crucible_api_ErrNil)] W := h1
  exact sent1 h2 (g := gerr 2) (by kernel_rfl) (by kernel_rfl)
set_option maxRecDepth 100000 in
theorem sent_3 {W : World} (h : laidMetH Tryz.prog Rows.typedComplexBackUptoRow.laid W) : ∃ (a : Addr) (s : ByteArray) (c : Array Value) (t : TypeId), W.cell? ⟨gerr 3, 0, none⟩ = some (.iface 260 (.pointer (some a))) ∧ W.cell? a = some (.string s) ∧ s.data.toList = textE 3 ∧ W.heap[a.block]? = some (.cells c t (0, 0)) := by
  have h1 : laidMetH Tryz.prog [("crucible/api.ErrInput", Rows.laid_crucible_api_ErrInput)] W := h.filter (fun x => x.1 == "crucible/api.ErrInput")
  have h2 : laidMet Tryz.prog [("crucible/api.ErrInput", Rows.laid_crucible_api_ErrInput)] W := h1
  exact sent1 h2 (g := gerr 3) (by kernel_rfl) (by kernel_rfl)
set_option maxRecDepth 100000 in
theorem sent_4 {W : World} (h : laidMetH Tryz.prog Rows.typedComplexBackUptoRow.laid W) : ∃ (a : Addr) (s : ByteArray) (c : Array Value) (t : TypeId), W.cell? ⟨gerr 4, 0, none⟩ = some (.iface 260 (.pointer (some a))) ∧ W.cell? a = some (.string s) ∧ s.data.toList = textE 4 ∧ W.heap[a.block]? = some (.cells c t (0, 0)) := by
  have h1 : laidMetH Tryz.prog [("crucible/api.ErrRep", Rows.laid_crucible_api_ErrRep)] W := h.filter (fun x => x.1 == "crucible/api.ErrRep")
  have h2 : laidMet Tryz.prog [("crucible/api.ErrRep", Rows.laid_crucible_api_ErrRep)] W := h1
  exact sent1 h2 (g := gerr 4) (by kernel_rfl) (by kernel_rfl)
set_option maxRecDepth 100000 in
theorem sent_5 {W : World} (h : laidMetH Tryz.prog Rows.typedComplexBackUptoRow.laid W) : ∃ (a : Addr) (s : ByteArray) (c : Array Value) (t : TypeId), W.cell? ⟨gerr 5, 0, none⟩ = some (.iface 260 (.pointer (some a))) ∧ W.cell? a = some (.string s) ∧ s.data.toList = textE 5 ∧ W.heap[a.block]? = some (.cells c t (0, 0)) := by
  have h1 : laidMetH Tryz.prog [("crucible/api.ErrLimit", Rows.laid_crucible_api_ErrLimit)] W := h.filter (fun x => x.1 == "crucible/api.ErrLimit")
  have h2 : laidMet Tryz.prog [("crucible/api.ErrLimit", Rows.laid_crucible_api_ErrLimit)] W := h1
  exact sent1 h2 (g := gerr 5) (by kernel_rfl) (by kernel_rfl)
set_option maxRecDepth 100000 in
theorem sent_6 {W : World} (h : laidMetH Tryz.prog Rows.typedComplexBackUptoRow.laid W) : ∃ (a : Addr) (s : ByteArray) (c : Array Value) (t : TypeId), W.cell? ⟨gerr 6, 0, none⟩ = some (.iface 260 (.pointer (some a))) ∧ W.cell? a = some (.string s) ∧ s.data.toList = textE 6 ∧ W.heap[a.block]? = some (.cells c t (0, 0)) := by
  have h1 : laidMetH Tryz.prog [("crucible/api.ErrNone", Rows.laid_crucible_api_ErrNone)] W := h.filter (fun x => x.1 == "crucible/api.ErrNone")
  have h2 : laidMet Tryz.prog [("crucible/api.ErrNone", Rows.laid_crucible_api_ErrNone)] W := h1
  exact sent1 h2 (g := gerr 6) (by kernel_rfl) (by kernel_rfl)
set_option maxRecDepth 100000 in
theorem sent_7 {W : World} (h : laidMetH Tryz.prog Rows.typedComplexBackUptoRow.laid W) : ∃ (a : Addr) (s : ByteArray) (c : Array Value) (t : TypeId), W.cell? ⟨gerr 7, 0, none⟩ = some (.iface 260 (.pointer (some a))) ∧ W.cell? a = some (.string s) ∧ s.data.toList = textE 7 ∧ W.heap[a.block]? = some (.cells c t (0, 0)) := by
  have h1 : laidMetH Tryz.prog [("crucible/api.ErrBusy", Rows.laid_crucible_api_ErrBusy)] W := h.filter (fun x => x.1 == "crucible/api.ErrBusy")
  have h2 : laidMet Tryz.prog [("crucible/api.ErrBusy", Rows.laid_crucible_api_ErrBusy)] W := h1
  exact sent1 h2 (g := gerr 7) (by kernel_rfl) (by kernel_rfl)
set_option maxRecDepth 100000 in
theorem sent_8 {W : World} (h : laidMetH Tryz.prog Rows.typedComplexBackUptoRow.laid W) : ∃ (a : Addr) (s : ByteArray) (c : Array Value) (t : TypeId), W.cell? ⟨gerr 8, 0, none⟩ = some (.iface 260 (.pointer (some a))) ∧ W.cell? a = some (.string s) ∧ s.data.toList = textE 8 ∧ W.heap[a.block]? = some (.cells c t (0, 0)) := by
  have h1 : laidMetH Tryz.prog [("crucible/api.ErrHandle", Rows.laid_crucible_api_ErrHandle)] W := h.filter (fun x => x.1 == "crucible/api.ErrHandle")
  have h2 : laidMet Tryz.prog [("crucible/api.ErrHandle", Rows.laid_crucible_api_ErrHandle)] W := h1
  exact sent1 h2 (g := gerr 8) (by kernel_rfl) (by kernel_rfl)
set_option maxRecDepth 100000 in
theorem sent_9 {W : World} (h : laidMetH Tryz.prog Rows.typedComplexBackUptoRow.laid W) : ∃ (a : Addr) (s : ByteArray) (c : Array Value) (t : TypeId), W.cell? ⟨gerr 9, 0, none⟩ = some (.iface 260 (.pointer (some a))) ∧ W.cell? a = some (.string s) ∧ s.data.toList = textE 9 ∧ W.heap[a.block]? = some (.cells c t (0, 0)) := by
  have h1 : laidMetH Tryz.prog [("crucible/api.ErrKey", Rows.laid_crucible_api_ErrKey)] W := h.filter (fun x => x.1 == "crucible/api.ErrKey")
  have h2 : laidMet Tryz.prog [("crucible/api.ErrKey", Rows.laid_crucible_api_ErrKey)] W := h1
  exact sent1 h2 (g := gerr 9) (by kernel_rfl) (by kernel_rfl)
set_option maxRecDepth 100000 in
theorem sent_10 {W : World} (h : laidMetH Tryz.prog Rows.typedComplexBackUptoRow.laid W) : ∃ (a : Addr) (s : ByteArray) (c : Array Value) (t : TypeId), W.cell? ⟨gerr 10, 0, none⟩ = some (.iface 260 (.pointer (some a))) ∧ W.cell? a = some (.string s) ∧ s.data.toList = textE 10 ∧ W.heap[a.block]? = some (.cells c t (0, 0)) := by
  have h1 : laidMetH Tryz.prog [("crucible/api.ErrStopped", Rows.laid_crucible_api_ErrStopped)] W := h.filter (fun x => x.1 == "crucible/api.ErrStopped")
  have h2 : laidMet Tryz.prog [("crucible/api.ErrStopped", Rows.laid_crucible_api_ErrStopped)] W := h1
  exact sent1 h2 (g := gerr 10) (by kernel_rfl) (by kernel_rfl)
set_option maxRecDepth 100000 in
theorem sent_11 {W : World} (h : laidMetH Tryz.prog Rows.typedComplexBackUptoRow.laid W) : ∃ (a : Addr) (s : ByteArray) (c : Array Value) (t : TypeId), W.cell? ⟨gerr 11, 0, none⟩ = some (.iface 260 (.pointer (some a))) ∧ W.cell? a = some (.string s) ∧ s.data.toList = textE 11 ∧ W.heap[a.block]? = some (.cells c t (0, 0)) := by
  have h1 : laidMetH Tryz.prog [("crucible/api.ErrScript", Rows.laid_crucible_api_ErrScript)] W := h.filter (fun x => x.1 == "crucible/api.ErrScript")
  have h2 : laidMet Tryz.prog [("crucible/api.ErrScript", Rows.laid_crucible_api_ErrScript)] W := h1
  exact sent1 h2 (g := gerr 11) (by kernel_rfl) (by kernel_rfl)
end Go.Proofs.YticnefkdkkjgcaaGreatDoor

/- What the row lays: the table of math/bits, errorType. -/
namespace Go.Proofs.YticnefkdkkjgcaaGreatDoor
open Go.ChangeShapes Go.WideShapes Go.RowKit

set_option maxRecDepth 100000 in
theorem tz_of_laid {W : World} (h : laidMetH Tryz.prog Rows.typedComplexBackUptoRow.laid W) : Lib.TabIs Tryz.prog W "math/bits.deBruijn64tab" .u8 (tzL.map fun n : Nat => (n : Int)) := by
  have h1 : laidMetH Tryz.prog [("math/bits.deBruijn64tab", Rows.laid_math_bits_deBruijn64tab)] W := h.filter (fun x => x.1 == "math/bits.deBruijn64tab")
  have h2 : laidMet Tryz.prog [("math/bits.deBruijn64tab", Rows.laid_math_bits_deBruijn64tab)] W := h1
  exact Lib.tabIs_of_head (rest := []) (g := 16) (t := 240) (e := 5) (n := 64) (by kernel_rfl) (by kernel_rfl) (by kernel_rfl) (by kernel_rfl) (by kernel_rfl) (by kernel_rfl) h2
set_option maxRecDepth 100000 in
theorem kd_of_laid {W : World} (h : laidMetH Tryz.prog Rows.typedComplexBackUptoRow.laid W) : Lib.TabIs Tryz.prog W "crucible/typed.kinds" .i8 (kdL.map fun n : Nat => (n : Int)) := by
  have h1 : laidMetH Tryz.prog [("crucible/typed.kinds", Rows.laid_crucible_typed_kinds)] W := h.filter (fun x => x.1 == "crucible/typed.kinds")
  have h2 : laidMet Tryz.prog [("crucible/typed.kinds", Rows.laid_crucible_typed_kinds)] W := h1
  exact Lib.tabIs_of_head (rest := []) (g := 11) (t := 129) (e := 48) (n := 23) (by kernel_rfl) (by kernel_rfl) (by kernel_rfl) (by kernel_rfl) (by kernel_rfl) (by kernel_rfl) h2
theorem pow_data : (Rows.laid_internal_strconv_uint64pow10 : DataW Unit) = Lib.tabData .u64 Lib.pow10Tab := by kernel_rfl
set_option maxRecDepth 100000 in
theorem pw_of_laid {W : World} (h : laidMetH Tryz.prog Rows.typedComplexBackUptoRow.laid W) : Lib.TabIs Tryz.prog W "internal/strconv.uint64pow10" .u64 Lib.pow10Tab := by
  have h1 : laidMetH Tryz.prog [("internal/strconv.uint64pow10", Rows.laid_internal_strconv_uint64pow10)] W := h.filter (fun x => x.1 == "internal/strconv.uint64pow10")
  have h2 : laidMet Tryz.prog [("internal/strconv.uint64pow10", Rows.laid_internal_strconv_uint64pow10)] W := h1
  rw [pow_data] at h2
  exact Lib.tabIs_of_head (rest := []) (g := 20) (t := 251) (e := 32) (n := 20) (by kernel_rfl) (by kernel_rfl) (by kernel_rfl) (by kernel_rfl) (by kernel_rfl) (by kernel_rfl) h2
theorem rtOne : (Tryz.prog.cutTypes.find? (·.1 == "internal/reflectlite.rtype")).map (·.2) = some 194 := by kernel_rfl
theorem nTypes : ∃ n, Hid (Tryz.prog.types.size = n ∧ ((List.range n).filter fun t => Tryz.prog.rowNamed t [101, 114, 114, 111, 114]) = [42]) := ⟨Tryz.prog.types.size, Lib.hid ⟨rfl, by kernel_rfl⟩⟩
set_option maxRecDepth 100000 in
theorem et_of_laid {W : World} (h : laidMetH Tryz.prog Rows.typedComplexBackUptoRow.laid W) : W.cell? ⟨12, 0, none⟩ = some (.iface 194 (.agg #[.pointer (some ⟨22, 42, none⟩)])) := by
  have h1 : laidMetH Tryz.prog [("errors.errorType", Rows.laid_errors_errorType)] W := h.filter (fun x => x.1 == "errors.errorType")
  have h' : laidMet Tryz.prog [] W ∧ handlesMet Tryz.prog [("errors.errorType", Rows.laid_errors_errorType)] W := h1
  obtain ⟨name, u, ty, e1, e2, e3, e4, e5⟩ := h'.2 _ (List.mem_singleton.2 rfl)
  have en : name = [101, 114, 114, 111, 114] := (Option.some.inj e1).symm
  subst en
  obtain rfl := Option.some.inj (rtOne.symm.trans e2)
  obtain ⟨n, HN⟩ := nTypes
  have hm : ty ∈ (List.range n).filter fun t => Tryz.prog.rowNamed t [101, 114, 114, 111, 114] := List.mem_filter.2 ⟨List.mem_range.2 (by rw [← HN.out.1]; exact e3), e4⟩
  rw [HN.out.2] at hm
  obtain rfl := List.mem_singleton.1 hm
  have hh : typeHandle Tryz.prog 42 = .pointer (some ⟨22, 42, none⟩) := by kernel_rfl
  rw [hh] at e5
  simpa using World.var?_cell (show Tryz.prog.globalNamed "errors.errorType" = some 12 by kernel_rfl) e5 0
end Go.Proofs.YticnefkdkkjgcaaGreatDoor

/- The package's variables, together. -/
namespace Go.Proofs.YticnefkdkkjgcaaGreatDoor
open Go.ChangeShapes Go.WideShapes Go.RowKit

/-- three integers, one behind the other -/
theorem three_of {cs : List Value} {W : World} {b0 : Nat} {sp : Nat → Bool} {held : Bool} {enc : TypeId × Value → Unit} {m k : Nat} {x0 x1 x2 : Int} {pl : List MemPlace}
    (h : DataW.trod enc Tryz.prog W b0 sp held m 179 ((cs.drop k).take 3) = some (.agg [.lit (.int .i64 x0), .lit (.int .i64 x1), .lit (.int .i64 x2)], pl)) :
    cs[k]? = some (.int .i64 x0) ∧ cs[k + 1]? = some (.int .i64 x1) ∧ cs[k + 2]? = some (.int .i64 x2) := by
  obtain ⟨y0, y1, y2, n, hx, _, e0, e1, e2⟩ := Go.Deep.trod_struct3 Tryz.underlying179 h
  obtain ⟨z0, c0, d0, _⟩ := DataW.trod_int Tryz.underlying3 e0
  obtain ⟨z1, c1, d1, _⟩ := DataW.trod_int Tryz.underlying3 e1
  obtain ⟨z2, c2, d2, _⟩ := DataW.trod_int Tryz.underlying3 e2
  subst d0; subst d1; subst d2
  simp only [Prod.mk.injEq, DataW.agg.injEq, List.cons.injEq, DataW.lit.injEq, Lit.int.injEq, true_and, and_true] at hx
  obtain ⟨⟨rfl, rfl, rfl⟩, _⟩ := hx
  have hc : Tryz.prog.cellsOf 3 = 1 := by kernel_rfl
  rw [hc] at c0 c1 c2
  have g0 := congrArg (·[0]?) c0
  have g1 := congrArg (·[0]?) c1
  have g2 := congrArg (·[0]?) c2
  simp [List.getElem?_drop] at g0 g1 g2
  exact ⟨g0, g1, g2⟩
set_option maxRecDepth 100000 in
theorem sh_of_laid {W : World} (h : laidMetH Tryz.prog Rows.typedComplexBackUptoRow.laid W) : ∀ i, i < 9 → W.cell? ⟨15, i, none⟩ = some (.int .i64 (shL.getD i 0)) := by
  have h1 : laidMetH Tryz.prog [("crucible/ieee.shapes", Rows.laid_crucible_ieee_shapes)] W := h.filter (fun x => x.1 == "crucible/ieee.shapes")
  have h2 : laidMet Tryz.prog [("crucible/ieee.shapes", Rows.laid_crucible_ieee_shapes)] W := h1
  obtain ⟨ps, ⟨g', t', cs, fuel, p, q, hg', ht', hvar, hd, _, _⟩, _⟩ := h2
  obtain rfl := Option.some.inj ((show Tryz.prog.globalNamed "crucible/ieee.shapes" = some 15 by kernel_rfl).symm.trans hg')
  obtain rfl := Option.some.inj ((show (Tryz.prog.globals[15]?).map (·.type) = some 227 by kernel_rfl).symm.trans ht')
  obtain ⟨xs, m, _, ex, _, hl, hel⟩ := DataW.trod_array Tryz.underlying227 hd
  have hc : Tryz.prog.cellsOf 179 = 3 := by kernel_rfl
  rw [hc] at hel
  match xs, hl with
  | [y0, y1, y2], _ =>
    have e0 : DataW.trod (fun _ => ()) Tryz.prog W 0 (fun _ => true) false m 179 ((cs.toList.drop 0).take 3) = some y0 := hel 0 (by decide)
    have e1 : DataW.trod (fun _ => ()) Tryz.prog W 0 (fun _ => true) false m 179 ((cs.toList.drop 3).take 3) = some y1 := hel 1 (by decide)
    have e2 : DataW.trod (fun _ => ()) Tryz.prog W 0 (fun _ => true) false m 179 ((cs.toList.drop 6).take 3) = some y2 := hel 2 (by decide)
    obtain ⟨y0, p0⟩ := y0
    obtain ⟨y1, p1⟩ := y1
    obtain ⟨y2, p2⟩ := y2
    have hx : [y0, y1, y2] = [.agg [.lit (.int .i64 10), .lit (.int .i64 (-24)), .lit (.int .i64 5)], .agg [.lit (.int .i64 23), .lit (.int .i64 (-149)), .lit (.int .i64 8)], .agg [.lit (.int .i64 52), .lit (.int .i64 (-1074)), .lit (.int .i64 11)]] := by
      have := congrArg Prod.fst ex
      simp only [List.map_cons, List.map_nil] at this
      have e : Rows.laid_crucible_ieee_shapes = (.agg [.agg [.lit (.int .i64 10), .lit (.int .i64 (-24)), .lit (.int .i64 5)], .agg [.lit (.int .i64 23), .lit (.int .i64 (-149)), .lit (.int .i64 8)], .agg [.lit (.int .i64 52), .lit (.int .i64 (-1074)), .lit (.int .i64 11)]] : DataW Unit) := rfl
      rw [e] at this
      exact (DataW.agg.inj this).symm
    simp only [List.cons.injEq, and_true] at hx
    obtain ⟨rfl, rfl, rfl⟩ := hx
    obtain ⟨a0, a1, a2⟩ := three_of e0
    obtain ⟨b0, b1, b2⟩ := three_of e1
    obtain ⟨c0, c1, c2⟩ := three_of e2
    have hcell : ∀ i v, cs.toList[i]? = some v → W.cell? ⟨15, i, none⟩ = some v := fun i v hv => by
      have := World.var?_cell hg' hvar i
      rw [Array.getElem?_toList] at hv
      rw [hv] at this
      simpa using this
    intro i hi
    match i, hi with
    | 0, _ => exact hcell 0 _ a0
    | 1, _ => exact hcell 1 _ a1
    | 2, _ => exact hcell 2 _ a2
    | 3, _ => exact hcell 3 _ b0
    | 4, _ => exact hcell 4 _ b1
    | 5, _ => exact hcell 5 _ b2
    | 6, _ => exact hcell 6 _ c0
    | 7, _ => exact hcell 7 _ c1
    | 8, _ => exact hcell 8 _ c2

set_option maxRecDepth 100000 in
theorem gl_of_laid {W : World} (h : laidMetH Tryz.prog Rows.typedComplexBackUptoRow.laid W) : ∃ sa, GL W.heap.size sa W := by
  obtain ⟨a1, s1, c1, t1, e1, f1, g1, k1⟩ := sent_1 h
  obtain ⟨a2, s2, c2, t2, e2, f2, g2, k2⟩ := sent_2 h
  obtain ⟨a3, s3, c3, t3, e3, f3, g3, k3⟩ := sent_3 h
  obtain ⟨a4, s4, c4, t4, e4, f4, g4, k4⟩ := sent_4 h
  obtain ⟨a5, s5, c5, t5, e5, f5, g5, k5⟩ := sent_5 h
  obtain ⟨a6, s6, c6, t6, e6, f6, g6, k6⟩ := sent_6 h
  obtain ⟨a7, s7, c7, t7, e7, f7, g7, k7⟩ := sent_7 h
  obtain ⟨a8, s8, c8, t8, e8, f8, g8, k8⟩ := sent_8 h
  obtain ⟨a9, s9, c9, t9, e9, f9, g9, k9⟩ := sent_9 h
  obtain ⟨a10, s10, c10, t10, e10, f10, g10, k10⟩ := sent_10 h
  obtain ⟨a11, s11, c11, t11, e11, f11, g11, k11⟩ := sent_11 h
  let sa : Nat → Addr := fun c => match c with
    | 1 => a1 | 2 => a2 | 3 => a3 | 4 => a4 | 5 => a5 | 6 => a6 | 7 => a7 | 8 => a8 | 9 => a9 | 10 => a10 | _ => a11
  have hall : ∀ c, 1 ≤ c → c ≤ 11 → W.cell? ⟨gerr c, 0, none⟩ = some (sent sa c) ∧ (∃ s, W.cell? (sa c) = some (.string s) ∧ s.data.toList = textE c) ∧ ∃ ca ta, W.heap[(sa c).block]? = some (.cells ca ta (0, 0)) := by
    intro c h1 h2
    match c, h1, h2 with
    | 1, _, _ => exact ⟨e1, ⟨s1, f1, g1⟩, c1, t1, k1⟩
    | 2, _, _ => exact ⟨e2, ⟨s2, f2, g2⟩, c2, t2, k2⟩
    | 3, _, _ => exact ⟨e3, ⟨s3, f3, g3⟩, c3, t3, k3⟩
    | 4, _, _ => exact ⟨e4, ⟨s4, f4, g4⟩, c4, t4, k4⟩
    | 5, _, _ => exact ⟨e5, ⟨s5, f5, g5⟩, c5, t5, k5⟩
    | 6, _, _ => exact ⟨e6, ⟨s6, f6, g6⟩, c6, t6, k6⟩
    | 7, _, _ => exact ⟨e7, ⟨s7, f7, g7⟩, c7, t7, k7⟩
    | 8, _, _ => exact ⟨e8, ⟨s8, f8, g8⟩, c8, t8, k8⟩
    | 9, _, _ => exact ⟨e9, ⟨s9, f9, g9⟩, c9, t9, k9⟩
    | 10, _, _ => exact ⟨e10, ⟨s10, f10, g10⟩, c10, t10, k10⟩
    | 11, _, _ => exact ⟨e11, ⟨s11, f11, g11⟩, c11, t11, k11⟩
  have htz : ∀ i, i < 64 → W.cell? ⟨16, i, none⟩ = some (.int .u8 (tzL.getD i 0 : Nat)) := fun i hi => by
    have h1 := (tz_of_laid h).cell (g := 16) (by kernel_rfl) i (by simpa [tzL] using hi)
    rw [h1, List.getD_eq_getElem?_getD, List.getElem?_map, List.getD_eq_getElem?_getD]
    cases tzL[i]? <;> rfl
  have hkd : ∀ i, i < 23 → W.cell? ⟨11, i, none⟩ = some (.int .i8 (kdL.getD i 0 : Nat)) := fun i hi => by
    have h1 := (kd_of_laid h).cell (g := 11) (by kernel_rfl) i (by simpa [kdL] using hi)
    rw [h1, List.getD_eq_getElem?_getD, List.getElem?_map, List.getD_eq_getElem?_getD]
    cases kdL[i]? <;> rfl
  refine ⟨sa, Nat.le_refl _, ?_, fun c h1 h2 => (hall c h1 h2).1, fun c h1 h2 => ⟨?_, (hall c h1 h2).2.2⟩, ?_, htz, sh_of_laid h, hkd, pw_of_laid h, et_of_laid h⟩
  · have h1 := World.block_lt_of_cell? W _ ((pw_of_laid h).cell (g := 20) (by kernel_rfl) 0 (by decide))
    exact h1
  · obtain ⟨s, hs, _⟩ := (hall c h1 h2).2.1
    exact World.block_lt_of_cell? W _ hs
  · intro c c' h1 h2 h3 h4 e
    obtain ⟨s, hs, ht⟩ := (hall c h1 h2).2.1
    obtain ⟨s', hs', ht'⟩ := (hall c' h3 h4).2.1
    rw [e, hs'] at hs
    have es : s' = s := by simpa using hs
    have et : textE (c - 1 + 1) = textE (c' - 1 + 1) := by rw [show c - 1 + 1 = c by omega, show c' - 1 + 1 = c' by omega, ← ht, ← ht', es]
    have h5 := List.all_eq_true.1 (List.all_eq_true.1 textE_inj (c - 1) (List.mem_range.2 (by omega))) (c' - 1) (List.mem_range.2 (by omega))
    simp only [Bool.or_eq_true, decide_eq_true_eq, Bool.not_eq_true', decide_eq_false_iff_not] at h5
    rcases h5 with h5 | h5
    · omega
    · exact absurd et h5
end Go.Proofs.YticnefkdkkjgcaaGreatDoor
