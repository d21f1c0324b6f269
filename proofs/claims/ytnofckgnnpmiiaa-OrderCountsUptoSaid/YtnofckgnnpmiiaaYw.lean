/- What is proved: for every input of bulk at most 1048576 the law OrderCounts returns true, and its arguments read as before. -/
import Derived.Test.YtnofckgnnpmiiaaCw
import Derived.Test.YtnofckgnnpmiiaaRw
import Derived.Lib.SmallJoins
namespace Go.Proofs.Ytnofckgnnpmiiaa.OrderCounts
open Go.ChangeShapes Go.WideShapes Go.ChangeAt Go.RowKit Go.Deep Go.Joins

theorem has_lt {P : Program} {w : World} {r : Reach} {base : Nat} {a : Addr} {e : TypeId} {n : Nat} (h : World.has P w r base a e n) : a.block < w.heap.size := by
  obtain ⟨_, _, row, cells, hs, _⟩ := h
  unfold World.shape? at hs
  by_cases hl : a.block < w.heap.size
  · exact hl
  · rw [Array.getElem?_eq_none (by omega)] at hs
    cases hs
set_option maxRecDepth 100000 in
theorem slice_lt {w : World} {base : Nat} {a : Addr} {n c : Nat} (h : Cell.okWide Try.prog w .any base 22 (.slice (some a) n c)) : a.block < w.heap.size := by
  simp only [Cell.okWide, Cell.ok, Try.underlying22] at h
  exact has_lt h.2.2
theorem types84 : Try.prog.cellTypes Try.prog.depth 84 = some [22, 22, 2, 3, 3] := by kernel_rfl
theorem cells84 : Try.prog.cellsOf 84 = 5 := by kernel_rfl
set_option maxRecDepth 100000 in
theorem open_count {H : Type} {enc : TypeId × Value → H} {W : World} {base : Nat} {v : Value} {d : DataW H} {ps : List MemPlace} (hval : Value.okWide Try.prog W .any base 84 v) (h : DataW.Trod enc Try.prog W 0 (fun _ => true) true 84 v d ps) :
    ∃ A0 c0, ∃ xs : List Item, ∃ A1 c1, ∃ ys : List Item, ∃ z : Item, ∃ o : Int, v = .agg #[.slice A0 xs.length c0, .slice A1 ys.length c1, .int .i64 z.1, .int .i64 z.2, .int .i64 o] ∧ Sl EI W A0 c0 xs ∧ Sl EI W A1 c1 ys ∧
      xs.length + ys.length ≤ Rows.uptoBulk d ∧ (∀ a, A0 = some a → a.block < W.heap.size) ∧ (∀ a, A1 = some a → a.block < W.heap.size) := by
  simp only [Value.okWide, Try.underlying84] at hval
  obtain ⟨cs, rfl, hsz, ts, hts, -, hcell⟩ := hval
  rw [types84] at hts
  obtain rfl := Option.some.inj hts
  obtain ⟨n, hn⟩ := h
  obtain ⟨y0, y1, y2, y3, k, e, hl, t0, t1, t2, t3⟩ := trod_struct4 Try.underlying84 hn
  rw [cells84] at hsz
  obtain ⟨l⟩ := cs
  match l, hsz with
  | [e0, e1, e2, e3, e4], _ =>
    simp only [Value.cells, cells22, cells27, cells3, List.drop, List.take] at t0 t1 t2 t3
    obtain ⟨A0, c0, xs, x0, s0, b0⟩ := open_items_cells t0
    obtain ⟨A1, c1, ys, x1, s1, b1⟩ := open_items_cells t1
    obtain ⟨z0, z1, k2, _, hl2, t4, t5⟩ := trod_struct2 Try.underlying27 t2
    simp only [cells2, cells3, List.drop, List.take] at t4 t5
    obtain ⟨n2, x2, _⟩ := DataW.trod_int Try.underlying2 t4
    obtain ⟨n3, x3, _⟩ := DataW.trod_int Try.underlying3 t5
    obtain ⟨n4, x4, _⟩ := DataW.trod_int Try.underlying3 t3
    simp only [List.cons.injEq, and_true] at x0 x1 x2 x3 x4
    subst x0 x1 x2 x3 x4
    obtain ⟨u0, hu0, g0⟩ := hcell 0 _ rfl
    obtain ⟨u1, hu1, g1⟩ := hcell 1 _ rfl
    simp at hu0 hu1
    subst hu0 hu1
    refine ⟨A0, c0, xs, A1, c1, ys, (n2, n3), n4, rfl, s0, s1, ?_, fun a ha => ?_, fun a ha => ?_⟩
    · simp only [Prod.mk.injEq] at e
      rw [e.1]
      simp only [Rows.uptoBulk, Rows.uptoBulkAll]
      omega
    · subst ha
      exact slice_lt g0
    · subst ha
      exact slice_lt g1

theorem own : ownKnob Try.prog.godebug = none := by kernel_rfl

set_option maxRecDepth 100000 in
theorem contract (H : Type) (enc : TypeId × Value → H) (W : World) (base : Nat) (args : Array Value) (ds gs : List (DataW H)) (before : List MemPlace)
    (hval : ∀ (j : Nat) t v, Try.f11.params[j]? = some t → args[j]? = some v → Value.okWide Try.prog W .any base t v)
    (hW : DataW.Whole enc Try.prog Try.f11.params.toList Rows.orderCountsSpec.vars false W args.toList ds gs before) (hk : Rows.uptoSmall H (ds ++ gs) = true) :
    Calls Try.prog 11 args W fun e W' => ∃ v, e = .returned v ∧ Rows.orderCountsSpec.post enc Try.prog Try.f11 false true false false W args v W' := by
  have hW' := hW
  obtain ⟨p, q, hA0, hV, rfl, hfz, hnd⟩ := hW
  have hA : DataW.TrodAll enc Try.prog W 0 (fun _ => true) true Try.f11.params.toList args.toList ds p := hA0
  rw [Try.params11] at hA hval
  obtain ⟨v0, vs0, d0, ds0, p0, q0, hargs, rfl, rfl, h0, r0⟩ := trodAll_cons hA
  obtain ⟨rfl, rfl, rfl⟩ := trodAll_nil r0
  obtain rfl : args = #[v0] := Array.toList_inj.1 hargs
  obtain ⟨A0, c0, xs, A1, c1, ys, z, o, rfl, s0, s1, hbl, hb0, hb1⟩ := open_count (hval 0 84 v0 rfl rfl) h0
  have hb := bulk_bound hk
  obtain ⟨rfl, rfl⟩ := trodVars_none hV
  simp only [List.append_nil, Rows.uptoBulkAll] at hb
  clear hA0 hA
  refine (counts_ok A0 c0 xs A1 c1 ys z o W s0 s1 (by omega) (by omega) hb0 hb1).mono fun e W' ⟨he, hk'⟩ => ?_
  subst he
  exact ⟨_, rfl, law_post hW' rfl rfl rfl rfl rfl (by decide +kernel) (hk'.below (Nat.le_refl _) (fun _ _ h => h))⟩

set_option maxRecDepth 100000 in
theorem lifted (os : Os) (started : os.Started) (H : Type) (enc : TypeId × Value → H) (F : Stop.Interp) :
    ReturnsInHanded {} Try.checked os 11 .any ((Rows.OpenSpec.upto Rows.orderCountsSpec).pre6 enc Try.prog Try.f11 Rows.orderCountsUptoRow.domain false) (((Rows.OpenSpec.upto Rows.orderCountsSpec).at F).post enc Try.prog Try.f11 false true false false) := by
  refine returnsInHanded_of_cond (C := Try.checked) (s := Rows.OpenSpec.upto Rows.orderCountsSpec) (k := Rows.uptoSmall) rfl own started (by kernel_rfl) Try.func11
    (OpenSpec.witness (enc := enc) (C := Try.checked) (s := Rows.OpenSpec.upto Rows.orderCountsSpec) (k := Rows.uptoSmall) rfl false ⟨#[], #[.agg #[.slice none 0 0, .slice none 0 0, .int .i64 0, .int .i64 0, .int .i64 0]], []⟩ 8 (by kernel_rfl) (by kernel_rfl) (by kernel_rfl)
      (x := ([.agg [.nil, .nil, .agg [.lit (.int .i64 0), .lit (.int .i64 0)], .lit (.int .i64 0)]], [], [])) (by kernel_rfl) rfl (by kernel_rfl)) ?_
  intro W base args ds gs before hval hW _ hk _
  exact contract H enc W base args ds gs before hval hW hk

theorem over : Rows.orderCountsUptoRow.holds Try.pinned (Rows.OpenSpec.upto Rows.orderCountsSpec) :=
  OpenClaim.holds_of_cond 11 Try.f11 rfl rfl rfl rfl rfl rfl rfl ⟨rfl, rfl, rfl, rfl, rfl⟩ rfl rfl rfl rfl rfl (by kernel_rfl) Try.func11 (by kernel_rfl)
    (of_decide_eq_true (by kernel_rfl)) (by unfold Func.isWrapper; first | (rw [if_pos (by decide +kernel)]; kernel_rfl) | (rw [if_neg (by decide +kernel)]; exact ⟨rfl, rfl⟩))
    (fun os started H enc _ F => lifted os started H enc F)

theorem proved : Rows.OrderCountsUptoSaid :=
  over
end Go.Proofs.Ytnofckgnnpmiiaa.OrderCounts
