/- What is proved: for every input of bulk at most 1048576 the law OrderDrains returns true, and its arguments read as before. -/
import Derived.Test.YtnofckgnnpmiiaaDw
import Derived.Test.YtnofckgnnpmiiaaRw
import Derived.Lib.SmallJoins
namespace Go.Proofs.Ytnofckgnnpmiiaa.OrderDrains
open Go.ChangeShapes Go.WideShapes Go.ChangeAt Go.RowKit Go.Deep Go.Joins

theorem has_lt {P : Program} {w : World} {r : Reach} {base : Nat} {a : Addr} {e : TypeId} {n : Nat} (h : World.has P w r base a e n) : a.block < w.heap.size := by
  obtain ⟨_, _, row, cells, hs, _⟩ := h
  unfold World.shape? at hs
  by_cases hl : a.block < w.heap.size
  · exact hl
  · rw [Array.getElem?_eq_none (by omega)] at hs
    cases hs
set_option maxRecDepth 100000 in
theorem slice_lt {w : World} {base : Nat} {a : Addr} {n c : Nat} (h : Cell.okWide Try.prog w .any base 22 (.slice (some a) n c)) : a.block < w.heap.size := by
  simp only [Cell.okWide, Cell.ok, Try.underlying22] at h
  exact has_lt h.2.2
theorem types72 : Try.prog.cellTypes Try.prog.depth 72 = some [22, 22, 5, 3] := by kernel_rfl
theorem cells5 : Try.prog.cellsOf 5 = 1 := by kernel_rfl
theorem cells72 : Try.prog.cellsOf 72 = 4 := by kernel_rfl
set_option maxRecDepth 100000 in
theorem open_drain {H : Type} {enc : TypeId × Value → H} {W : World} {base : Nat} {v : Value} {d : DataW H} {ps : List MemPlace} (hval : Value.okWide Try.prog W .any base 72 v) (h : DataW.Trod enc Try.prog W 0 (fun _ => true) true 72 v d ps) :
    ∃ A0 c0, ∃ xs : List Item, ∃ A1 c1, ∃ ys : List Item, ∃ nb : Nat, ∃ o : Int, v = .agg #[.slice A0 xs.length c0, .slice A1 ys.length c1, .int .u8 (nb : Int), .int .i64 o] ∧ nb ≤ 255 ∧ Sl EI W A0 c0 xs ∧ Sl EI W A1 c1 ys ∧
      xs.length + ys.length ≤ Rows.uptoBulk d ∧ (∀ a, A0 = some a → a.block < W.heap.size) ∧ (∀ a, A1 = some a → a.block < W.heap.size) := by
  simp only [Value.okWide, Try.underlying72] at hval
  obtain ⟨cs, rfl, hsz, ts, hts, -, hcell⟩ := hval
  rw [types72] at hts
  obtain rfl := Option.some.inj hts
  obtain ⟨n, hn⟩ := h
  obtain ⟨y0, y1, y2, y3, k, e, hl, t0, t1, t2, t3⟩ := trod_struct4 Try.underlying72 hn
  rw [cells72] at hsz
  obtain ⟨l⟩ := cs
  match l, hsz with
  | [e0, e1, e2, e3], _ =>
    simp only [Value.cells, cells22, cells5, cells3, List.drop, List.take] at t0 t1 t2 t3
    obtain ⟨A0, c0, xs, x0, s0, b0⟩ := open_items_cells t0
    obtain ⟨A1, c1, ys, x1, s1, b1⟩ := open_items_cells t1
    obtain ⟨n2, x2, _, hwf⟩ := DataW.trod_int Try.underlying5 t2
    obtain ⟨n4, x4, _⟩ := DataW.trod_int Try.underlying3 t3
    have hwf' : 0 ≤ n2 ∧ n2 ≤ 255 := by simpa [Lit.wf, IntKind.min, IntKind.max, IntKind.bits, IntKind.signed] using hwf
    obtain ⟨nb, rfl⟩ : ∃ nb : Nat, n2 = (nb : Int) := ⟨n2.toNat, by omega⟩
    simp only [List.cons.injEq, and_true] at x0 x1 x2 x4
    subst x0 x1 x2 x4
    obtain ⟨u0, hu0, g0⟩ := hcell 0 _ rfl
    obtain ⟨u1, hu1, g1⟩ := hcell 1 _ rfl
    simp at hu0 hu1
    subst hu0 hu1
    refine ⟨A0, c0, xs, A1, c1, ys, nb, n4, rfl, by omega, s0, s1, ?_, fun a ha => ?_, fun a ha => ?_⟩
    · simp only [Prod.mk.injEq] at e
      rw [e.1]
      simp only [Rows.uptoBulk, Rows.uptoBulkAll]
      omega
    · subst ha
      exact slice_lt g0
    · subst ha
      exact slice_lt g1

theorem own : ownKnob Try.prog.godebug = none := by kernel_rfl

set_option maxRecDepth 100000 in
theorem contract (H : Type) (enc : TypeId × Value → H) (W : World) (base : Nat) (args : Array Value) (ds gs : List (DataW H)) (before : List MemPlace)
    (hval : ∀ (j : Nat) t v, Try.f8.params[j]? = some t → args[j]? = some v → Value.okWide Try.prog W .any base t v)
    (hW : DataW.Whole enc Try.prog Try.f8.params.toList Rows.orderDrainsSpec.vars false W args.toList ds gs before) (hk : Rows.uptoSmall H (ds ++ gs) = true) :
    Calls Try.prog 8 args W fun e W' => ∃ v, e = .returned v ∧ Rows.orderDrainsSpec.post enc Try.prog Try.f8 false true false false W args v W' := by
  have hW' := hW
  obtain ⟨p, q, hA0, hV, rfl, hfz, hnd⟩ := hW
  have hA : DataW.TrodAll enc Try.prog W 0 (fun _ => true) true Try.f8.params.toList args.toList ds p := hA0
  rw [Try.params8] at hA hval
  obtain ⟨v0, vs0, d0, ds0, p0, q0, hargs, rfl, rfl, h0, r0⟩ := trodAll_cons hA
  obtain ⟨rfl, rfl, rfl⟩ := trodAll_nil r0
  obtain rfl : args = #[v0] := Array.toList_inj.1 hargs
  obtain ⟨A0, c0, xs, A1, c1, ys, nb, o, rfl, hnb, s0, s1, hbl, -, -⟩ := open_drain (hval 0 72 v0 rfl rfl) h0
  have hb := bulk_bound hk
  obtain ⟨rfl, rfl⟩ := trodVars_none hV
  simp only [List.append_nil, Rows.uptoBulkAll] at hb
  clear hA0 hA
  refine (drains_ok A0 c0 xs A1 c1 ys nb o W s0 s1 (by omega) (by omega) hnb).mono fun e W' ⟨he, hk'⟩ => ?_
  subst he
  exact ⟨_, rfl, law_post hW' rfl rfl rfl rfl rfl (by decide +kernel) (hk'.below (Nat.le_refl _) (fun _ _ h => h))⟩

set_option maxRecDepth 100000 in
theorem lifted (os : Os) (started : os.Started) (H : Type) (enc : TypeId × Value → H) (F : Stop.Interp) :
    ReturnsInHanded {} Try.checked os 8 .any ((Rows.OpenSpec.upto Rows.orderDrainsSpec).pre6 enc Try.prog Try.f8 Rows.orderDrainsUptoRow.domain false) (((Rows.OpenSpec.upto Rows.orderDrainsSpec).at F).post enc Try.prog Try.f8 false true false false) := by
  refine returnsInHanded_of_cond (C := Try.checked) (s := Rows.OpenSpec.upto Rows.orderDrainsSpec) (k := Rows.uptoSmall) rfl own started (by kernel_rfl) Try.func8
    (OpenSpec.witness (enc := enc) (C := Try.checked) (s := Rows.OpenSpec.upto Rows.orderDrainsSpec) (k := Rows.uptoSmall) rfl false ⟨#[], #[.agg #[.slice none 0 0, .slice none 0 0, .int .u8 0, .int .i64 0]], []⟩ 8 (by kernel_rfl) (by kernel_rfl) (by kernel_rfl)
      (x := ([.agg [.nil, .nil, .lit (.int .u8 0), .lit (.int .i64 0)]], [], [])) (by kernel_rfl) rfl (by kernel_rfl)) ?_
  intro W base args ds gs before hval hW _ hk _
  exact contract H enc W base args ds gs before hval hW hk

theorem over : Rows.orderDrainsUptoRow.holds Try.pinned (Rows.OpenSpec.upto Rows.orderDrainsSpec) :=
  OpenClaim.holds_of_cond 8 Try.f8 rfl rfl rfl rfl rfl rfl rfl ⟨rfl, rfl, rfl, rfl, rfl⟩ rfl rfl rfl rfl rfl (by kernel_rfl) Try.func8 (by kernel_rfl)
    (of_decide_eq_true (by kernel_rfl)) (by unfold Func.isWrapper; first | (rw [if_pos (by decide +kernel)]; kernel_rfl) | (rw [if_neg (by decide +kernel)]; exact ⟨rfl, rfl⟩))
    (fun os started H enc _ F => lifted os started H enc F)

theorem proved : Rows.OrderDrainsUptoSaid :=
  over
end Go.Proofs.Ytnofckgnnpmiiaa.OrderDrains
