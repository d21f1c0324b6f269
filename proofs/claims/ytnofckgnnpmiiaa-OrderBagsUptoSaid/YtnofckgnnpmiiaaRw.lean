/- What the rows ask: arguments opened to lists of Items, and what a law that leaves all memory leaves. -/
import Derived.Test.YtnofckgnnpmiiaaOrd
import Derived.ProofKit
import Derived.OpenShut
import Derived.JoinedCond
import Derived.Deep.SlicePairs
import Derived.Deep.Strs
import Derived.Carry
namespace Go.Proofs.Ytnofckgnnpmiiaa
open Go.ChangeShapes Go.WideShapes Go.ChangeAt Go.RowKit Go.Deep

theorem cells22 : Try.prog.cellsOf 22 = 1 := by kernel_rfl
theorem cells27 : Try.prog.cellsOf 27 = 2 := by kernel_rfl
theorem cells2 : Try.prog.cellsOf 2 = 1 := by kernel_rfl
theorem cells3 : Try.prog.cellsOf 3 = 1 := by kernel_rfl
theorem cells9 : Try.prog.cellsOf 9 = 1 := by kernel_rfl

section
variable {H : Type} {enc : TypeId × Value → H}

theorem bulk_one {d : DataW H} : 1 ≤ Rows.uptoBulk d := by
  cases d with
  | lit l => cases l <;> simp [Rows.uptoBulk]
  | nil => simp [Rows.uptoBulk]
  | ptr d => simp [Rows.uptoBulk]
  | slice elems spare => simp [Rows.uptoBulk]
  | agg parts => simp [Rows.uptoBulk]
  | iface t d => simp [Rows.uptoBulk]
  | map entries => simp [Rows.uptoBulk]
  | held h => simp [Rows.uptoBulk]
theorem bulk_len (l : List (DataW H)) : l.length ≤ Rows.uptoBulkAll l := by
  induction l with
  | nil => simp [Rows.uptoBulkAll]
  | cons x r ih => have := bulk_one (d := x); simp only [Rows.uptoBulkAll, List.length_cons]; omega
theorem bulk_slice (elems spare : List (DataW H)) : elems.length + 1 ≤ Rows.uptoBulk (.slice elems spare) := by
  have h1 := bulk_len elems
  simp only [Rows.uptoBulk]
  omega
theorem bulk_bound {l : List (DataW H)} (hk : Rows.uptoSmall H l = true) : Rows.uptoBulkAll l ≤ 1048576 := of_decide_eq_true hk

/-- the cells of []Item -/
theorem open_items_cells {W : World} {sp : Nat → Bool} {n : Nat} {cs : List Value} {x : DataW H × List MemPlace} (h : DataW.trod enc Try.prog W 0 sp true n 22 cs = some x) :
    ∃ A c xs, cs = [.slice A xs.length c] ∧ Sl EI W A c xs ∧ xs.length + 1 ≤ Rows.uptoBulk x.1 := by
  rcases open_slice_pairs Try.underlying22 Try.underlying27 cells27 rfl rfl cells2 cells3 h with ⟨rfl, rfl⟩ | ⟨a, len, cap, m, k, V0, V1, D0, D1, P0, P1, rfl, _, hl, hc, hm, rfl, hx⟩
  · exact ⟨none, 0, [], rfl, Sl.nil_ EI W none (by decide), bulk_one⟩
  · have hlm : len ≤ m := by rw [hm]; split <;> omega
    have hv : ∀ i, i < len → ∃ y : Item, W.cell? (a.add (i * 2)) = some (.int .i64 y.1) ∧ W.cell? (a.add (i * 2 + 1)) = some (.int .i64 y.2) := fun i hi => by
      obtain ⟨h1, h2, h3, h4⟩ := hx i (by omega)
      obtain ⟨z0, e0, _⟩ := DataW.trod_int Try.underlying2 h3
      obtain ⟨z1, e1, _⟩ := DataW.trod_int Try.underlying3 h4
      simp only [List.cons.injEq, and_true] at e0 e1
      exact ⟨(z0, z1), by rw [h1, e0], by rw [h2, e1]⟩
    obtain ⟨Y, hY⟩ := choose_lt (α := Item) hv
    have hlen : ((List.range len).map Y).length = len := by simp
    refine ⟨some a, cap, (List.range len).map Y, by rw [hlen], ⟨by rw [hlen]; exact hl, by unfold maxLen at hc; omega, fun hne => ?_⟩, by rw [hlen]; have := bulk_slice ((List.range len).map fun i => DataW.agg [D0 i, D1 i]) ((List.range (m - len)).map fun j => .agg [D0 (len + j), D1 (len + j)]); simpa using this⟩
    have hpos : 0 < len := Nat.pos_of_ne_zero (fun e => by subst e; simp at hne)
    obtain ⟨b, o, e⟩ := a
    have he : e = none := by
      have := (hY 0 hpos).1
      cases e with
      | none => rfl
      | some z =>
        simp [World.cell?, Addr.add] at this
        split at this <;> simp at this
    subst he
    refine ⟨b, o, rfl, ?_⟩
    have : ∀ k, k ≤ len → W.rangeAt b o (EI.flat ((List.range k).map Y)) := by
      intro k
      induction k with
      | zero => intro _; exact range_nil _ _ _
      | succ k ih =>
        intro hk
        rw [List.range_succ, List.map_append, El.flat_app, range_app, El.flat_len]
        refine ⟨ih (by omega), ?_⟩
        obtain ⟨g1, g2⟩ := hY k (by omega)
        rw [add_plain] at g1 g2
        intro j v hj
        simp only [List.length_map, List.length_range, List.map_cons, List.map_nil, El.flat_cons, El.flat_nil, List.append_nil, EI] at hj ⊢
        match j, hj with
        | 0, hj => simp at hj; subst hj; exact g1
        | 1, hj => simp at hj; subst hj; exact g2
    exact this len (Nat.le_refl _)
set_option maxRecDepth 100000 in
theorem open_items {W : World} {base : Nat} {v : Value} {d : DataW H} {ps : List MemPlace} (hval : Value.okWide Try.prog W .any base 22 v) (h : DataW.Trod enc Try.prog W 0 (fun _ => true) true 22 v d ps) :
    ∃ A c xs, v = .slice A xs.length c ∧ Sl EI W A c xs ∧ xs.length + 1 ≤ Rows.uptoBulk d := by
  obtain ⟨A, len, cap, rfl⟩ := okWide_slice Try.underlying22 hval
  obtain ⟨n, hn⟩ := h
  obtain ⟨A', c', xs, e, h1, h2⟩ := open_items_cells hn
  simp only [Value.cells, List.cons.injEq, Value.slice.injEq, and_true] at e
  obtain ⟨rfl, rfl, rfl⟩ := e
  exact ⟨A, cap, xs, rfl, h1, h2⟩
set_option maxRecDepth 100000 in
theorem open_item {W : World} {base : Nat} {v : Value} {d : DataW H} {ps : List MemPlace} (hval : Value.okWide Try.prog W .any base 27 v) (h : DataW.Trod enc Try.prog W 0 (fun _ => true) true 27 v d ps) :
    ∃ x : Item, v = EI.val x := by
  obtain ⟨cs, rfl, hsz⟩ := okWide_struct Try.underlying27 hval
  obtain ⟨n, hn⟩ := h
  obtain ⟨y0, y1, k, _, hl, t0, t1⟩ := trod_struct2 Try.underlying27 hn
  rw [cells27] at hsz
  obtain ⟨l⟩ := cs
  match l, hsz with
  | [c0, c1], _ =>
    simp only [Value.cells, cells2, cells3, List.drop, List.take] at t0 t1
    obtain ⟨z0, e0, _⟩ := DataW.trod_int Try.underlying2 t0
    obtain ⟨z1, e1, _⟩ := DataW.trod_int Try.underlying3 t1
    simp only [List.cons.injEq, and_true] at e0 e1
    subst e0; subst e1
    exact ⟨(z0, z1), rfl⟩

theorem trodAll_below {P : Program} (hl : laidOutB P = true) {W W' : World} (hb : Below W.heap.size W W') :
    ∀ {ts : List TypeId} {vs : List Value} {ds : List (DataW H)} {ps : List MemPlace}, (∀ t ∈ ts, P.readableRec t = true ∧ t < P.types.size) → (∀ x ∈ ps, x.block < W.heap.size) →
      DataW.TrodAll enc P W 0 (fun _ => true) true ts vs ds ps → DataW.TrodAll enc P W' 0 (fun b => decide (b < W.heap.size)) true ts vs ds ps
  | [], _, _, _, _, _, h => by
    obtain ⟨rfl, rfl, rfl⟩ := trodAll_nil h
    exact trodAll_mk0
  | t :: ts, _, _, _, ht, hlt, h => by
    obtain ⟨v, vs1, d, ds1, a, b, rfl, rfl, rfl, h1, h2⟩ := trodAll_cons h
    obtain ⟨r1, r2⟩ := ht t (List.mem_cons_self)
    exact trodAll_cons_mk (Below.trod hl r1 r2 h1 hb (fun x hx => hlt x (List.mem_append_left _ hx))) (trodAll_below hl hb (fun t h => ht t (List.mem_cons_of_mem _ h)) (fun x hx => hlt x (List.mem_append_right _ hx)) h2)

/-- A law that answers true and leaves all memory that there was. -/
theorem law_post {f : Func} {s : ChangeSpec} {W W' : World} {args : Array Value} {ds gs : List (DataW H)} {before : List MemPlace}
    (hW : DataW.Whole enc Try.prog f.params.toList s.vars false W args.toList ds gs before) (hvars : s.vars = [])
    (hres : (s.fn H ds).results = [.lit (.bool true)]) (hargs : (s.fn H ds).args = ds) (hv : (s.fn H ds).vars = []) (hr : f.resultTypes = #[4])
    (hts : ∀ t ∈ f.params.toList, Try.prog.readableRec t = true ∧ t < Try.prog.types.size) (hb : Below W.heap.size W W') : s.post enc Try.prog f false true false false W args (.bool true) W' := by
  have hW0 := hW
  obtain ⟨p, q, hA, hV, e, hfz, hnd⟩ := hW
  rw [hvars] at hV
  obtain ⟨rfl, rfl⟩ := trodVars_none hV
  rw [List.append_nil] at e
  subst e
  refine ⟨ds, [], before, [], before, [], hW0, ?_, ?_, ?_, hb.frame _, fun h => by cases h⟩
  · rw [List.append_nil, hres, hr]
    exact trodAll_cons_mk (shut_bool Try.underlying4 _) trodAll_mk0
  · rw [List.append_nil, hargs]
    exact trodAll_below (by kernel_rfl) hb hts (fun x hx => by simpa using hW0.lt x hx) hA
  · rw [List.append_nil, hv, hvars]
    exact rfl
end
end Go.Proofs.Ytnofckgnnpmiiaa
