import Derived.Test.YtnofckgnnpmiiaaJa
import Derived.Test.YtnofckgnnpmiiaaRt
import Derived.Deep.Cut
import Derived.Test.YtnofckgnnpmiiaaQk
import Derived.Test.YtnofckgnnpmiiaaRq
import Derived.Deep.RegionHeld3
import Derived.Test.YtnofckgnnpmiiaaSn
import Derived.Test.YtnofckgnnpmiiaaEs
/- The reference's bags: All, Add, Take; what they are of the bag's own. -/
namespace Go.Proofs.Ytnofckgnnpmiiaa
open Go.RowKit Go.Shelf
attribute [local go_sem ↓] Go.wp_at_zero Go.wp_at_succ

/-! ### plain -/
section
variable {c : Item → Item → Int} {κ : Item → Int}
theorem sorted_sorts2 (hk : Keyed c κ) {fs cs : List (Held Item)} (h1 : fs.Pairwise (leH c)) (h2 : fs.Perm cs) (hu : cs.Pairwise (fun a b => a.2 < b.2)) : Sorts κ (cs.map (·.1)) (fs.map (·.1)) := by
  have inj : ∀ a b, a ∈ cs → b ∈ cs → a.2 = b.2 → a = b := fun a b ha hb e => by
    obtain ⟨i, hi, rfl⟩ := List.mem_iff_getElem.1 ha
    obtain ⟨j, hj, rfl⟩ := List.mem_iff_getElem.1 hb
    rcases Nat.lt_trichotomy i j with h3 | h3 | h3
    · have := List.pairwise_iff_getElem.1 hu i j hi hj h3
      omega
    · subst h3; rfl
    · have := List.pairwise_iff_getElem.1 hu j i hj hi h3
      omega
  refine ⟨?_, fun v => ?_⟩
  · rw [List.pairwise_map]
    refine h1.imp (fun {a b} hab => ?_)
    rw [leH_iff hk] at hab
    omega
  · rw [List.filter_map, List.filter_map]
    have e : fs.filter ((fun a => κ a == v) ∘ (·.1)) = cs.filter ((fun a => κ a == v) ∘ (·.1)) := by
      refine List.Perm.eq_of_pairwise (le := fun a b => a.2 ≤ b.2) ?_ ?_ ?_ (h2.filter _)
      · intro a b ha hb h3 h4
        exact inj a b (h2.mem_iff.1 (List.mem_filter.1 ha).1) (List.mem_filter.1 hb).1 (by omega)
      · rw [List.pairwise_filter]
        refine h1.imp (fun {a b} hab ha hb => ?_)
        rw [leH_iff hk] at hab
        have ea : κ a.1 = v := by simpa using ha
        have eb : κ b.1 = v := by simpa using hb
        omega
      · exact (hu.imp (fun {a b} hab => Int.le_of_lt hab)).filter _
    rw [e]
/-- the least one is the first of the sorted list -/
theorem least_first (hk : Keyed c κ) {cs : List (Held Item)} {z : Held Item} {s : List Item} (hu : cs.Pairwise (fun a b => a.2 < b.2)) (hz : z ∈ cs) (hl : ∀ y ∈ cs, leH c z y) (hs : Sorts κ (cs.map (·.1)) s) : s[0]? = some z.1 := by
  obtain ⟨zs, h1, h2⟩ := heldSort hk (cs.erase z)
  have h3 : (z :: zs).Perm cs := (h2.cons z).trans (List.perm_cons_erase hz).symm
  have h4 := sorted_sorts2 hk (List.pairwise_cons.2 ⟨fun y hy => hl y (h3.mem_iff.1 (List.mem_cons_of_mem _ hy)), h1⟩) h3 hu
  rw [hs.unique h4]
  rfl
/-- and the first one alike it is the one that goes -/
theorem least_gone (hk : Keyed c κ) {z : Held Item} : ∀ {cs : List (Held Item)}, cs.Pairwise (fun a b => a.2 < b.2) → z ∈ cs → (∀ y ∈ cs, leH c z y) → (cs.erase z).map (·.1) = (cs.map (·.1)).erase z.1
  | [], _, hz, _ => by simp at hz
  | y :: r, hu, hz, hl => by
    rw [List.map_cons]
    by_cases hy : y = z
    · subst hy
      rw [List.erase_cons_head, List.erase_cons_head]
    · have hzr : z ∈ r := (List.mem_cons.1 hz).resolve_left (fun e => hy e.symm)
      have hne : ¬ y.1 = z.1 := fun e => by
        have h1 := hl y List.mem_cons_self
        have h2 := (List.pairwise_cons.1 hu).1 z hzr
        rw [leH_iff hk, e] at h1
        omega
      rw [List.erase_cons_tail (by simpa using hy), List.erase_cons_tail (by simpa using hne), List.map_cons, least_gone hk (List.pairwise_cons.1 hu).2 hzr (fun y hy => hl y (List.mem_cons_of_mem _ hy))]
end
/-- what is left behind i steps -/
theorem erase_step {x y : Item} {L : List Item} {i : Nat} (hy : L[i]? = some y) :
    (x ∈ L.take i → (L.take (i + 1)).erase x = (L.take i).erase x ++ [y]) ∧ (x ∉ L.take i → y = x → (L.take (i + 1)).erase x = (L.take i).erase x) ∧ (x ∉ L.take i → y ≠ x → (L.take (i + 1)).erase x = (L.take i).erase x ++ [y]) := by
  rw [List.take_add_one, hy, Option.toList]
  refine ⟨fun h => List.erase_append_left _ h, fun h e => ?_, fun h e => ?_⟩
  · subst e
    rw [List.erase_append_right _ h, List.erase_cons_head, List.append_nil, List.erase_of_not_mem h]
  · rw [List.erase_append_right _ h, List.erase_of_not_mem (by simpa using fun e' => e e'.symm), List.erase_of_not_mem h]

/-! ### All, Add -/
set_option maxRecDepth 100000 in
theorem refall_new (th : Bool) (o : Int) (A : Option Addr) (c n : Nat) (L : List Item) (w : World) (hL : L.length = n) (h : Sl EI w A c L) (hl : n ≤ 1000000000) (ht : th = false → L = []) :
    Calls Try.prog 68 #[.agg #[.bool th, .int .i64 o, .slice A n c]] w fun e w' => ∃ A' c' zl, e = .returned (.slice A' n c') ∧ Sorts (kap o) L zl ∧ Sl EI w' A' c' zl ∧ Keep nob w w' ∧ (zl ≠ [] → ∀ a, A' = some a → w.heap.size ≤ a.block) := by
  obtain ⟨w1, HW1⟩ : ∃ w1, Hid (w.alloc (.cells #[.bool th, .int .i64 o, .slice A n c] 56) = w1) := ⟨_, Lib.hid rfl⟩
  have HK1 : Hid (Keep nob w w1) := by rw [← HW1.out]; exact (Keep.refl nob w).alloc _
  have a0 : w1.cell? ⟨w.heap.size, 0, none⟩ = some (.bool th) := by rw [← HW1.out]; simp
  have a1 : w1.cell? ⟨w.heap.size, 1, none⟩ = some (.int .i64 o) := by rw [← HW1.out]; simp
  have a2 : w1.cell? ⟨w.heap.size, 2, none⟩ = some (.slice A n c) := by rw [← HW1.out]; simp
  have HS : Hid (Sl EI w1 A c L) := h.keep HK1.out (nobIn _)
  have HL := Lib.hid hL
  have HN := Lib.hid hl
  have HT := Lib.hid ht
  clear h hL hl ht
  go_enter Try.func68, Try.ntmps68
  go_upto_region 1 with (fail)
  rw [HW1.out]
  cases th with
  | false =>
    have hl0 := HT.out rfl
    subst hl0
    have hn0 : n = 0 := HL.out.symm
    subst hn0
    go_wp2_with (fail)
    go_ret
    exact ⟨none, 0, rfl, [], ⟨.nil, fun v => rfl⟩, Sl.nil_ _ _ _ (by decide), HK1.out, fun h => absurd rfl h⟩
  | true =>
    go_wp2_with (go_at_call 13; go_must (refine (refsort_ok o A c n L w1 HL.out HS.out HN.out).mono ?_); rintro e w2 ⟨A', c', zs, rfl, -, hs, ho, hf, hk⟩; have HFR := Lib.hid hf; have HSS := Lib.hid hs; have HO := Lib.hid ho; have HK2 := Lib.hid hk; clear hs ho hk hf)
    go_ret
    exact ⟨_, _, _, rfl, HSS.out, HO.out.sl, HK1.out.then_ HK2.out, fun _ a ha => Nat.le_trans HK1.out.size (HFR.out a ha).1⟩

theorem refall_ok (th : Bool) (o : Int) (A : Option Addr) (c n : Nat) (L : List Item) (w : World) (hL : L.length = n) (h : Sl EI w A c L) (hl : n ≤ 1000000000) (ht : th = false → L = []) :
    Calls Try.prog 68 #[.agg #[.bool th, .int .i64 o, .slice A n c]] w fun e w' => ∃ A' c' zl, e = .returned (.slice A' n c') ∧ Sorts (kap o) L zl ∧ Sl EI w' A' c' zl ∧ Keep nob w w' :=
  (refall_new th o A c n L w hL h hl ht).mono fun _ _ ⟨A', c', zl, h1, h2, h3, h4, _⟩ => ⟨A', c', zl, h1, h2, h3, h4⟩
theorem results_cell1 {fn : Func} {p : Tmp} {ty : TypeId} (h : fn.results = #[.cell p ty]) (tmps : Array Value) (P : Program) (w : World) :
    (results fn tmps).run P w = ((asAddr (tmps.getD p undef)).run P w).andThen fun a w₁ => (loadVar ty a).run P w₁ := by
  simp only [results, h]
  simp [Sem.run_bind, Result.andThen]
theorem results_cell_cell_tmp {fn : Func} {p q u : Tmp} {ty tz : TypeId} (h : fn.results = #[.cell p ty, .cell q tz, .tmp u]) (tmps : Array Value) (P : Program) (w : World) :
    (results fn tmps).run P w = ((asAddr (tmps.getD p undef)).run P w).andThen fun a w₁ => ((loadVar ty a).run P w₁).andThen fun v w₂ => ((asAddr (tmps.getD q undef)).run P w₂).andThen fun b w₃ => ((loadVar tz b).run P w₃).andThen fun y w₄ => .ok (.tuple #[v, y, tmps.getD u undef]) w₄ := by
  simp only [results, h]
  simp [Sem.run_bind, Result.andThen]

theorem wpList_append_three {P : Program} {α : Type} (E : El α) {w : World} {op : Oper} {ops : Array Oper} {rest : List Oper} {a : Act} {Q : Exit → Act → World → Prop} (hgd : op.guard = none) (s x : Operand) (t : TypeId)
    (ho : op.op = .call { callee := .builtin .append, args := #[s, x], argTypes := #[t, t] }) (e : TypeId) (z : Value) (bytes : Nat) (ht : P.underlying t = some (.slice e)) (hinfo : (P.info? e).map (fun i => (i.zero, i.size, i.bytes)) = some (some z, E.sz, bytes)) (hz : z.cells.size = E.sz)
    (A : Option Addr) (n c : Nat) (hs : a.eval s = .slice A n c) (xs : List α) (hn : xs.length = n) (hxs : Ow E w A c xs) (A2 : Option Addr) (m c2 : Nat) (hx : a.eval x = .slice A2 m c2) (ys : List α) (hm : ys.length = m) (hys : Sl E w A2 c2 ys)
    (hb : (n + m) * bytes ≤ 140737488355328) (h63 : n + m ≤ 9223372036854775807)
    (h : ∀ A' c' w', Appended3 E w A c (xs ++ ys) A' c' w' → wpList P ops Q rest (a.put op.dst (.slice A' (n + m) c')) w') : wpList P ops Q (op :: rest) a w :=
  wpList_plain hgd fun _ hK => wp_append_three E s x t ho e z bytes ht hinfo hz A n c hs xs hn hxs A2 m c2 hx ys hm hys hb h63 (fun A' c' w' h' => hK _ _ (h A' c' w' h'))

/-- a bag as the reference has it, its list new since w (if it has room) -/
def NewL (w w' : World) (A : Option Addr) (c : Nat) (L : List Item) : Prop := Sl EI w' A c L ∧ (L ≠ [] → ∀ a, A = some a → w.heap.size ≤ a.block)
set_option maxRecDepth 100000 in
set_option maxHeartbeats 4000000 in
theorem refadd_ok (th : Bool) (o : Int) (A X : Option Addr) (c n cx m : Nat) (L xs : List Item) (w : World) (hL : L.length = n) (h : Sl EI w A c L) (hm : xs.length = m) (hx : Sl EI w X cx xs) (hl : n ≤ 1000000000) (hl2 : m ≤ 1000000000) :
    Calls Try.prog 66 #[.agg #[.bool th, .int .i64 o, .slice A n c], .slice X m cx] w fun e w' => Keep nob w w' ∧ ((th = false ∧ e = .returned (.agg #[.bool th, .int .i64 o, .slice A n c])) ∨
      (th = true ∧ ∃ A' c', e = .returned (.agg #[.bool th, .int .i64 o, .slice A' (n + m) c']) ∧ NewL w w' A' c' (L ++ xs))) := by
  obtain ⟨w1, HW1⟩ : ∃ w1, Hid ((w.alloc (.cells #[.bool th, .int .i64 o, .slice A n c] 56)).alloc (.cells #[.bool false, .int .i64 0, .slice none 0 0] 56) = w1) := ⟨_, Lib.hid rfl⟩
  have HK1 : Hid (Keep nob w w1) := by rw [← HW1.out]; exact ((Keep.refl nob w).alloc _).alloc _
  have HSZ : Hid (w1.heap.size = w.heap.size + 2) := by unfold Hid; rw [← HW1.out]; simp
  have a0 : w1.cell? ⟨w.heap.size, 0, none⟩ = some (.bool th) := by rw [← HW1.out]; simp
  have a1 : w1.cell? ⟨w.heap.size, 1, none⟩ = some (.int .i64 o) := by rw [← HW1.out]; simp
  have a2 : w1.cell? ⟨w.heap.size, 2, none⟩ = some (.slice A n c) := by rw [← HW1.out]; simp
  have f2 : w1.frozen? ⟨w.heap.size, 2, none⟩ = false := by rw [← HW1.out]; simp
  have b0 : w1.cell? ⟨w.heap.size + 1, 0, none⟩ = some (.bool false) := by rw [← HW1.out]; simp
  have b1 : w1.cell? ⟨w.heap.size + 1, 1, none⟩ = some (.int .i64 0) := by rw [← HW1.out]; simp
  have b2 : w1.cell? ⟨w.heap.size + 1, 2, none⟩ = some (.slice none 0 0) := by rw [← HW1.out]; simp
  have g0 : w1.frozen? ⟨w.heap.size + 1, 0, none⟩ = false := by rw [← HW1.out]; simp
  have g1 : w1.frozen? ⟨w.heap.size + 1, 1, none⟩ = false := by rw [← HW1.out]; simp
  have g2 : w1.frozen? ⟨w.heap.size + 1, 2, none⟩ = false := by rw [← HW1.out]; simp
  have HS : Hid (Sl EI w1 A c L ∧ Sl EI w1 X cx xs) := ⟨h.keep HK1.out (nobIn _), hx.keep HK1.out (nobIn _)⟩
  have HL := Lib.hid hL
  have HM := Lib.hid hm
  have HN := Lib.hid (And.intro hl hl2)
  clear h hx hL hm hl hl2
  go_enter Try.func66, Try.ntmps66
  go_upto_region 1 with (fail)
  rw [HW1.out]
  cases th with
  | false =>
    have HKX := HK1
    have HCE : Hid (∀ a0 a1 a2 : Value, Keep nob w (((w1.setCell ⟨w.heap.size + 1, 0, none⟩ a0).setCell ⟨w.heap.size + 1, 1, none⟩ a1).setCell ⟨w.heap.size + 1, 2, none⟩ a2) ∧
        (((w1.setCell ⟨w.heap.size + 1, 0, none⟩ a0).setCell ⟨w.heap.size + 1, 1, none⟩ a1).setCell ⟨w.heap.size + 1, 2, none⟩ a2).cell? ⟨w.heap.size + 1, 0, none⟩ = some a0 ∧
        (((w1.setCell ⟨w.heap.size + 1, 0, none⟩ a0).setCell ⟨w.heap.size + 1, 1, none⟩ a1).setCell ⟨w.heap.size + 1, 2, none⟩ a2).cell? ⟨w.heap.size + 1, 1, none⟩ = some a1 ∧
        (((w1.setCell ⟨w.heap.size + 1, 0, none⟩ a0).setCell ⟨w.heap.size + 1, 1, none⟩ a1).setCell ⟨w.heap.size + 1, 2, none⟩ a2).cell? ⟨w.heap.size + 1, 2, none⟩ = some a2) := fun a0 a1 a2 => by
      have e0 : (w1.setCell ⟨w.heap.size + 1, 0, none⟩ a0).cell? ⟨w.heap.size + 1, 0, none⟩ = some a0 := World.cell?_setCell_same _ _ _ b0
      have e1 : ((w1.setCell ⟨w.heap.size + 1, 0, none⟩ a0).setCell ⟨w.heap.size + 1, 1, none⟩ a1).cell? ⟨w.heap.size + 1, 1, none⟩ = some a1 :=
        World.cell?_setCell_same _ _ _ ((World.cell?_setCell_other _ _ _ _ (by simp)).trans b1)
      have e2 : (((w1.setCell ⟨w.heap.size + 1, 0, none⟩ a0).setCell ⟨w.heap.size + 1, 1, none⟩ a1).setCell ⟨w.heap.size + 1, 2, none⟩ a2).cell? ⟨w.heap.size + 1, 2, none⟩ = some a2 :=
        World.cell?_setCell_same _ _ _ ((World.cell?_setCell_other _ _ _ _ (by simp)).trans ((World.cell?_setCell_other _ _ _ _ (by simp)).trans b2))
      refine ⟨HKX.out.trans (S' := fun k => k = w.heap.size + 1) ((((Keep.refl (fun k => k = w.heap.size + 1) w1).setCell (fun _ => rfl) _).setCell (fun _ => rfl) _).setCell (fun _ => rfl) _) (fun k h1 h2 => by omega), ?_, ?_, e2⟩
      · rw [World.cell?_setCell_other _ _ _ _ (by simp), World.cell?_setCell_other _ _ _ _ (by simp)]; exact e0
      · rw [World.cell?_setCell_other _ _ _ _ (by simp)]; exact e1
    go_wp2_with (fail)
    obtain ⟨hk, k0, k1, k2⟩ := HCE.out (.bool false) (.int .i64 o) (.slice A n c)
    refine bodyPost_ret (v := .agg #[.bool false, .int .i64 o, .slice A n c]) ((results_cell1 rfl _ _ _).trans ?_) rfl ⟨hk, rfl⟩
    clear b0 b1 b2 g0 g1 g2 a0 a1 a2 f2 hk
    generalize ((w1.setCell ⟨w.heap.size + 1, 0, none⟩ (.bool false)).setCell ⟨w.heap.size + 1, 1, none⟩ (.int .i64 o)).setCell ⟨w.heap.size + 1, 2, none⟩ (.slice A n c) = wq at k0 k1 k2 ⊢
    go_simp
  | true =>
    obtain ⟨w2, HW2⟩ : ∃ w2, Hid (w1.alloc (.cells #[] 27) = w2) := ⟨_, Lib.hid rfl⟩
    have HK12 : Hid (Keep nob w1 w2) := by rw [← HW2.out]; exact (Keep.refl nob w1).alloc _
    have a2a : (w1.alloc (.cells #[] 27)).cell? ⟨w.heap.size, 2, none⟩ = some (.slice A n c) := by have := HK12.out.cell a2 (fun h => h); rw [← HW2.out] at this; exact this
    have HCW : Hid (∀ w', Keep nob w1 w' → w'.cell? ⟨w.heap.size, 0, none⟩ = some (.bool true) ∧ w'.cell? ⟨w.heap.size, 1, none⟩ = some (.int .i64 o) ∧ w'.cell? ⟨w.heap.size, 2, none⟩ = some (.slice A n c) ∧ w'.frozen? ⟨w.heap.size, 2, none⟩ = false ∧
        w'.cell? ⟨w.heap.size + 1, 0, none⟩ = some (.bool false) ∧ w'.cell? ⟨w.heap.size + 1, 1, none⟩ = some (.int .i64 0) ∧ w'.cell? ⟨w.heap.size + 1, 2, none⟩ = some (.slice none 0 0) ∧
        w'.frozen? ⟨w.heap.size + 1, 0, none⟩ = false ∧ w'.frozen? ⟨w.heap.size + 1, 1, none⟩ = false ∧ w'.frozen? ⟨w.heap.size + 1, 2, none⟩ = false) := fun w' hk => by
      have hb0 := hk.block w.heap.size (World.block_lt_of_cell? w1 _ a0) (fun h => h)
      have hb1 := hk.block (w.heap.size + 1) (World.block_lt_of_cell? w1 _ b0) (fun h => h)
      have fz : ∀ j, w'.frozen? ⟨w.heap.size, j, none⟩ = w1.frozen? ⟨w.heap.size, j, none⟩ := fun j => World.frozen?_of_block hb0
      have fz1 : ∀ j, w'.frozen? ⟨w.heap.size + 1, j, none⟩ = w1.frozen? ⟨w.heap.size + 1, j, none⟩ := fun j => World.frozen?_of_block hb1
      exact ⟨hk.cell a0 (fun h => h), hk.cell a1 (fun h => h), hk.cell a2 (fun h => h), (fz 2).trans f2, hk.cell b0 (fun h => h), hk.cell b1 (fun h => h), hk.cell b2 (fun h => h), (fz1 0).trans g0, (fz1 1).trans g1, (fz1 2).trans g2⟩
    have hq1 : (0 + n) * 16 ≤ 140737488355328 := by have := HN.out; omega
    have hq2 : 0 + n ≤ 9223372036854775807 := by have := HN.out; omega
    have hq3 : (n + m) * 16 ≤ 140737488355328 := by have := HN.out; omega
    have hq4 : n + m ≤ 9223372036854775807 := by have := HN.out; omega
    have tok1 := Lib.hid True.intro
    go_upto_region 3 with (first
      | (at_builtin; have _t := tok1; rw [HW2.out]; refine wpList_append_three EI rfl _ _ 22 rfl 27 _ 16 Try.underlying22 info27 rfl (some ⟨w1.heap.size, 0, none⟩) 0 0 rfl [] rfl (Ow.nil_ _ _ _) A n c rfl L HL.out (HS.out.1.keep HK12.out (nobIn _)) hq1 hq2 ?_; intro A1 c1 w3 hap; rw [List.nil_append] at hap; have HP1 := Lib.hid hap.first; have HO1 := Lib.hid hap.ow; clear hap _t tok1)
      | (at_builtin; refine wpList_append_three EI rfl _ _ 22 rfl 27 _ 16 Try.underlying22 info27 rfl A1 n c1 rfl L HL.out HO1.out X m cx rfl xs HM.out ((HS.out.2.keep HK12.out (nobIn _)).keep HP1.out.1 (nobIn _)) hq3 hq4 ?_; intro A2 c2 w4 hap; have HP2 := Lib.hid (hap.then_ HP1.out.1 HP1.out.2); have HO2 := Lib.hid hap.ow; clear hap; obtain ⟨q0, q1, q2, q3, r0, r1, r2, r3, r4, r5⟩ := HCW.out w4 (HK12.out.then_ HP2.out.1)))
    clear a0 a1 a2 f2 b0 b1 b2 g0 g1 g2 a2a HCW
    obtain ⟨w5, HW5⟩ : ∃ w5, Hid (w4.setCell ⟨w.heap.size, 2, none⟩ (.slice A2 (n + m) c2) = w5) := ⟨_, Lib.hid rfl⟩
    have k45 : Keep (fun k => k = w.heap.size) w4 w5 := by rw [← HW5.out]; exact (Keep.refl (fun k => k = w.heap.size) w4).setCell (fun _ => rfl) _
    have a0 := k45.block (w.heap.size + 1) (World.block_lt_of_cell? w4 _ r0) (by show ¬ (w.heap.size + 1 = w.heap.size); omega)
    have s0 : w5.cell? ⟨w.heap.size, 0, none⟩ = some (.bool true) := by rw [← HW5.out, World.cell?_setCell_other _ _ _ _ (by simp)]; exact q0
    have s1 : w5.cell? ⟨w.heap.size, 1, none⟩ = some (.int .i64 o) := by rw [← HW5.out, World.cell?_setCell_other _ _ _ _ (by simp)]; exact q1
    have s2 : w5.cell? ⟨w.heap.size, 2, none⟩ = some (.slice A2 (n + m) c2) := by rw [← HW5.out]; exact World.cell?_setCell_same _ _ _ q2
    have b0 : w5.cell? ⟨w.heap.size + 1, 0, none⟩ = some (.bool false) := (World.cell?_of_block a0).trans r0
    have b1 : w5.cell? ⟨w.heap.size + 1, 1, none⟩ = some (.int .i64 0) := (World.cell?_of_block a0).trans r1
    have b2 : w5.cell? ⟨w.heap.size + 1, 2, none⟩ = some (.slice none 0 0) := (World.cell?_of_block a0).trans r2
    have g0 : w5.frozen? ⟨w.heap.size + 1, 0, none⟩ = false := (World.frozen?_of_block a0).trans r3
    have g1 : w5.frozen? ⟨w.heap.size + 1, 1, none⟩ = false := (World.frozen?_of_block a0).trans r4
    have g2 : w5.frozen? ⟨w.heap.size + 1, 2, none⟩ = false := (World.frozen?_of_block a0).trans r5
    have HSZ2 : Hid (w2.heap.size = w.heap.size + 3) := by unfold Hid; rw [← HW2.out, World.size_alloc, HSZ.out]
    have HNL : Hid (∀ w', Keep (fun k => k = w.heap.size ∨ k = w.heap.size + 1) w4 w' → NewL w w' A2 c2 (L ++ xs)) := fun w' hk => by
      have hcp : L ++ xs ≠ [] → 0 < c2 := fun hne => by have := HO2.out.sl.le; have := List.length_pos_iff.2 hne; omega
      have hfr : L ++ xs ≠ [] → ∀ a, A2 = some a → w.heap.size + 3 ≤ a.block := fun hne a ha => by have := HP2.out.2 (hcp hne) a ha; rw [HSZ2.out] at this; exact this
      exact ⟨HO2.out.sl.keep2 hk (fun hne ⟨a, ha, h⟩ => by have := hfr hne a ha; rcases h with h | h <;> omega), fun hne a ha => by have := hfr hne a ha; omega⟩
    have HKX : Hid (Keep nob w w5) := ((HK1.out.then_ HK12.out).then_ HP2.out.1).trans k45 (fun k h1 h2 => by omega)
    have HK45 := Lib.hid k45
    clear a0 q0 q1 k45
    have HCE : Hid (∀ a0 a1 a2 : Value, Keep nob w (((w5.setCell ⟨w.heap.size + 1, 0, none⟩ a0).setCell ⟨w.heap.size + 1, 1, none⟩ a1).setCell ⟨w.heap.size + 1, 2, none⟩ a2) ∧
        (((w5.setCell ⟨w.heap.size + 1, 0, none⟩ a0).setCell ⟨w.heap.size + 1, 1, none⟩ a1).setCell ⟨w.heap.size + 1, 2, none⟩ a2).cell? ⟨w.heap.size + 1, 0, none⟩ = some a0 ∧
        (((w5.setCell ⟨w.heap.size + 1, 0, none⟩ a0).setCell ⟨w.heap.size + 1, 1, none⟩ a1).setCell ⟨w.heap.size + 1, 2, none⟩ a2).cell? ⟨w.heap.size + 1, 1, none⟩ = some a1 ∧
        (((w5.setCell ⟨w.heap.size + 1, 0, none⟩ a0).setCell ⟨w.heap.size + 1, 1, none⟩ a1).setCell ⟨w.heap.size + 1, 2, none⟩ a2).cell? ⟨w.heap.size + 1, 2, none⟩ = some a2) := fun a0 a1 a2 => by
      have e0 : (w5.setCell ⟨w.heap.size + 1, 0, none⟩ a0).cell? ⟨w.heap.size + 1, 0, none⟩ = some a0 := World.cell?_setCell_same _ _ _ b0
      have e1 : ((w5.setCell ⟨w.heap.size + 1, 0, none⟩ a0).setCell ⟨w.heap.size + 1, 1, none⟩ a1).cell? ⟨w.heap.size + 1, 1, none⟩ = some a1 :=
        World.cell?_setCell_same _ _ _ ((World.cell?_setCell_other _ _ _ _ (by simp)).trans b1)
      have e2 : (((w5.setCell ⟨w.heap.size + 1, 0, none⟩ a0).setCell ⟨w.heap.size + 1, 1, none⟩ a1).setCell ⟨w.heap.size + 1, 2, none⟩ a2).cell? ⟨w.heap.size + 1, 2, none⟩ = some a2 :=
        World.cell?_setCell_same _ _ _ ((World.cell?_setCell_other _ _ _ _ (by simp)).trans ((World.cell?_setCell_other _ _ _ _ (by simp)).trans b2))
      refine ⟨HKX.out.trans (S' := fun k => k = w.heap.size + 1) ((((Keep.refl (fun k => k = w.heap.size + 1) w5).setCell (fun _ => rfl) _).setCell (fun _ => rfl) _).setCell (fun _ => rfl) _) (fun k h1 h2 => by omega), ?_, ?_, e2⟩
      · rw [World.cell?_setCell_other _ _ _ _ (by simp), World.cell?_setCell_other _ _ _ _ (by simp)]; exact e0
      · rw [World.cell?_setCell_other _ _ _ _ (by simp)]; exact e1
    go_upto_region 3 with (fail)
    rw [HW5.out]
    clear q2 q3 r0 r1 r2 r3 r4 r5
    go_wp2_with (fail)
    obtain ⟨hk, k0, k1, k2⟩ := HCE.out (.bool true) (.int .i64 o) (.slice A2 (n + m) c2)
    refine bodyPost_ret (v := .agg #[.bool true, .int .i64 o, .slice A2 (n + m) c2]) ((results_cell1 rfl _ _ _).trans ?_) rfl ⟨hk, A2, c2, rfl, HNL.out _ ((HK45.out.mono (fun _ _ h => .inl h)).then_ ((((Keep.refl (fun k => k = w.heap.size + 1) w5).setCell (fun _ => rfl) _).setCell (fun _ => rfl) _).setCell (fun _ => rfl) _ |>.mono (fun _ _ h => .inr h)))⟩
    clear b0 b1 b2 g0 g1 g2 s0 s1 s2 hk
    generalize ((w5.setCell ⟨w.heap.size + 1, 0, none⟩ (.bool true)).setCell ⟨w.heap.size + 1, 1, none⟩ (.int .i64 o)).setCell ⟨w.heap.size + 1, 2, none⟩ (.slice A2 (n + m) c2) = wq at k0 k1 k2 ⊢
    go_simp
end Go.Proofs.Ytnofckgnnpmiiaa

/- The reference's bags: Take. -/
namespace Go.Proofs.Ytnofckgnnpmiiaa
open Go.RowKit Go.Shelf
attribute [local go_sem ↓] Go.wp_at_zero Go.wp_at_succ

/-- five cells of two blocks are written -/
theorem five_cells {w : World} {b d : Nat} (hne : b ≠ d) {x0 x1 x2 y0 y1 : Value} (h0 : w.cell? ⟨b, 0, none⟩ = some x0) (h1 : w.cell? ⟨b, 1, none⟩ = some x1) (h2 : w.cell? ⟨b, 2, none⟩ = some x2) (h3 : w.cell? ⟨d, 0, none⟩ = some y0) (h4 : w.cell? ⟨d, 1, none⟩ = some y1) (v0 v1 v2 u0 u1 : Value) :
    ∃ W, W = ((((w.setCell ⟨b, 0, none⟩ v0).setCell ⟨b, 1, none⟩ v1).setCell ⟨b, 2, none⟩ v2).setCell ⟨d, 0, none⟩ u0).setCell ⟨d, 1, none⟩ u1 ∧ Keep (fun k => k = b ∨ k = d) w W ∧
      W.cell? ⟨b, 0, none⟩ = some v0 ∧ W.cell? ⟨b, 1, none⟩ = some v1 ∧ W.cell? ⟨b, 2, none⟩ = some v2 ∧ W.cell? ⟨d, 0, none⟩ = some u0 ∧ W.cell? ⟨d, 1, none⟩ = some u1 := by
  refine ⟨_, rfl, (((((Keep.refl (fun k => k = b ∨ k = d) w).setCell (fun _ => .inl rfl) _).setCell (fun _ => .inl rfl) _).setCell (fun _ => .inl rfl) _).setCell (fun _ => .inr rfl) _).setCell (fun _ => .inr rfl) _, ?_, ?_, ?_, ?_, ?_⟩
  · rw [World.cell?_setCell_other _ _ _ _ (by simp), World.cell?_setCell_other _ _ _ _ (by simp), World.cell?_setCell_other _ _ _ _ (by simp), World.cell?_setCell_other _ _ _ _ (by simp)]
    exact World.cell?_setCell_same _ _ _ h0
  · rw [World.cell?_setCell_other _ _ _ _ (by simp), World.cell?_setCell_other _ _ _ _ (by simp), World.cell?_setCell_other _ _ _ _ (by simp)]
    exact World.cell?_setCell_same _ _ _ ((World.cell?_setCell_other _ _ _ _ (by simp)).trans h1)
  · rw [World.cell?_setCell_other _ _ _ _ (by simp), World.cell?_setCell_other _ _ _ _ (by simp)]
    exact World.cell?_setCell_same _ _ _ ((World.cell?_setCell_other _ _ _ _ (by simp)).trans ((World.cell?_setCell_other _ _ _ _ (by simp)).trans h2))
  · rw [World.cell?_setCell_other _ _ _ _ (by simp)]
    refine World.cell?_setCell_same _ _ _ ((World.cell?_setCell_other _ _ _ _ (by simp)).trans ((World.cell?_setCell_other _ _ _ _ (by simp)).trans ((World.cell?_setCell_other _ _ _ _ (by simp)).trans h3)))
  · refine World.cell?_setCell_same _ _ _ ((World.cell?_setCell_other _ _ _ _ (by simp)).trans ((World.cell?_setCell_other _ _ _ _ (by simp)).trans ((World.cell?_setCell_other _ _ _ _ (by simp)).trans ((World.cell?_setCell_other _ _ _ _ (by simp)).trans h4))))

set_option maxRecDepth 100000 in
set_option maxHeartbeats 8000000 in
theorem reftake_ok (th : Bool) (o : Int) (A : Option Addr) (c n : Nat) (L : List Item) (w : World) (hL : L.length = n) (h : Sl EI w A c L) (hl : n ≤ 1000000000) (ht : th = false → L = []) :
    Calls Try.prog 67 #[.agg #[.bool th, .int .i64 o, .slice A n c]] w fun e w' => Keep nob w w' ∧
      ((L = [] ∧ e = .returned (.tuple #[.agg #[.bool th, .int .i64 o, .slice A n c], EI.val (0, 0), .bool false])) ∨
       (∃ s x A' c', Sorts (kap o) L s ∧ s[0]? = some x ∧ e = .returned (.tuple #[.agg #[.bool th, .int .i64 o, .slice A' (L.erase x).length c'], EI.val x, .bool true]) ∧ NewL w w' A' c' (L.erase x))) := by
  obtain ⟨w1, HW1⟩ : ∃ w1, Hid (((w.alloc (.cells #[.bool th, .int .i64 o, .slice A n c] 56)).alloc (.cells #[.bool false, .int .i64 0, .slice none 0 0] 56)).alloc (.cells #[.int .i64 0, .int .i64 0] 27) = w1) := ⟨_, Lib.hid rfl⟩
  have HK1 : Hid (Keep nob w w1) := by rw [← HW1.out]; exact (((Keep.refl nob w).alloc _).alloc _).alloc _
  have HSZ : Hid (w1.heap.size = w.heap.size + 3) := by unfold Hid; rw [← HW1.out]; simp
  obtain ⟨a, HA⟩ : ∃ a, Hid (w.heap.size = a) := ⟨_, Lib.hid rfl⟩
  obtain ⟨wA, HWA⟩ : ∃ wA, Hid ((w.alloc (.cells #[.bool th, .int .i64 o, .slice A n c] 56)).alloc (.cells #[.bool false, .int .i64 0, .slice none 0 0] 56) = wA) := ⟨_, Lib.hid rfl⟩
  have HKA : Hid (Keep nob wA w1) := by rw [← HW1.out, ← HWA.out]; exact (Keep.refl nob _).alloc _
  have HSA : Hid (wA.heap.size = w.heap.size + 2) := by unfold Hid; rw [← HWA.out]; simp
  have HFZ : Hid (∀ j, w1.frozen? ⟨a, j, none⟩ = wA.frozen? ⟨a, j, none⟩ ∧ w1.frozen? ⟨a + 1, j, none⟩ = wA.frozen? ⟨a + 1, j, none⟩) := fun j =>
    ⟨World.frozen?_of_block (HKA.out.block a (by rw [HSA.out, HA.out]; omega) (fun h => h)), World.frozen?_of_block (HKA.out.block (a + 1) (by rw [HSA.out, HA.out]; omega) (fun h => h))⟩
  have a0 : w1.cell? ⟨a, 0, none⟩ = some (.bool th) := HKA.out.cell (by rw [← HWA.out, ← HA.out]; simp) (fun h => h)
  have a1 : w1.cell? ⟨a, 1, none⟩ = some (.int .i64 o) := HKA.out.cell (by rw [← HWA.out, ← HA.out]; simp) (fun h => h)
  have a2 : w1.cell? ⟨a, 2, none⟩ = some (.slice A n c) := HKA.out.cell (by rw [← HWA.out, ← HA.out]; simp) (fun h => h)
  have f2 : w1.frozen? ⟨a, 2, none⟩ = false := ((HFZ.out 2).1).trans (by rw [← HWA.out, ← HA.out]; simp)
  have b0 : w1.cell? ⟨a + 1, 0, none⟩ = some (.bool false) := HKA.out.cell (by rw [← HWA.out, ← HA.out]; simp) (fun h => h)
  have b1 : w1.cell? ⟨a + 1, 1, none⟩ = some (.int .i64 0) := HKA.out.cell (by rw [← HWA.out, ← HA.out]; simp) (fun h => h)
  have b2 : w1.cell? ⟨a + 1, 2, none⟩ = some (.slice none 0 0) := HKA.out.cell (by rw [← HWA.out, ← HA.out]; simp) (fun h => h)
  have g0 : w1.frozen? ⟨a + 1, 0, none⟩ = false := ((HFZ.out 0).2).trans (by rw [← HWA.out, ← HA.out]; simp)
  have g1 : w1.frozen? ⟨a + 1, 1, none⟩ = false := ((HFZ.out 1).2).trans (by rw [← HWA.out, ← HA.out]; simp)
  have g2 : w1.frozen? ⟨a + 1, 2, none⟩ = false := ((HFZ.out 2).2).trans (by rw [← HWA.out, ← HA.out]; simp)
  have d0 : w1.cell? ⟨a + 1 + 1, 0, none⟩ = some (.int .i64 0) := by have := range_alloc_new wA #[.int .i64 0, .int .i64 0] 27 [.int .i64 0, .int .i64 0] (fun j v hv => by simpa using hv) 0 _ rfl; rw [HSA.out, HA.out] at this; rw [← HW1.out, HWA.out]; exact this
  have d1 : w1.cell? ⟨a + 1 + 1, 1, none⟩ = some (.int .i64 0) := by have := range_alloc_new wA #[.int .i64 0, .int .i64 0] 27 [.int .i64 0, .int .i64 0] (fun j v hv => by simpa using hv) 1 _ rfl; rw [HSA.out, HA.out] at this; rw [← HW1.out, HWA.out]; exact this
  have e0 : w1.frozen? ⟨a + 1 + 1, 0, none⟩ = false := by have := (there_alloc_new wA #[.int .i64 0, .int .i64 0] 27 2 (Nat.le_refl _) 0 (by decide)).2; rw [HSA.out, HA.out] at this; rw [← HW1.out, HWA.out]; exact this
  have e1 : w1.frozen? ⟨a + 1 + 1, 1, none⟩ = false := by have := (there_alloc_new wA #[.int .i64 0, .int .i64 0] 27 2 (Nat.le_refl _) 1 (by decide)).2; rw [HSA.out, HA.out] at this; rw [← HW1.out, HWA.out]; exact this
  have HCW : Hid (∀ w', Keep nob w1 w' → w'.cell? ⟨a, 0, none⟩ = some (.bool th) ∧ w'.cell? ⟨a, 1, none⟩ = some (.int .i64 o) ∧ w'.cell? ⟨a, 2, none⟩ = some (.slice A n c) ∧ w'.frozen? ⟨a, 2, none⟩ = false ∧
      w'.cell? ⟨a + 1, 0, none⟩ = some (.bool false) ∧ w'.cell? ⟨a + 1, 1, none⟩ = some (.int .i64 0) ∧ w'.cell? ⟨a + 1, 2, none⟩ = some (.slice none 0 0) ∧
      w'.frozen? ⟨a + 1, 0, none⟩ = false ∧ w'.frozen? ⟨a + 1, 1, none⟩ = false ∧ w'.frozen? ⟨a + 1, 2, none⟩ = false ∧
      w'.cell? ⟨a + 1 + 1, 0, none⟩ = some (.int .i64 0) ∧ w'.cell? ⟨a + 1 + 1, 1, none⟩ = some (.int .i64 0) ∧ w'.frozen? ⟨a + 1 + 1, 0, none⟩ = false ∧ w'.frozen? ⟨a + 1 + 1, 1, none⟩ = false) := fun w' hk => by
    have hb0 := hk.block a (World.block_lt_of_cell? w1 _ a0) (fun h => h)
    have hb1 := hk.block (a + 1) (World.block_lt_of_cell? w1 _ b0) (fun h => h)
    have hb2 := hk.block (a + 1 + 1) (World.block_lt_of_cell? w1 _ d0) (fun h => h)
    have fz : ∀ j, w'.frozen? ⟨a, j, none⟩ = w1.frozen? ⟨a, j, none⟩ := fun j => World.frozen?_of_block hb0
    have fz1 : ∀ j, w'.frozen? ⟨a + 1, j, none⟩ = w1.frozen? ⟨a + 1, j, none⟩ := fun j => World.frozen?_of_block hb1
    have fz2 : ∀ j, w'.frozen? ⟨a + 1 + 1, j, none⟩ = w1.frozen? ⟨a + 1 + 1, j, none⟩ := fun j => World.frozen?_of_block hb2
    exact ⟨hk.cell a0 (fun h => h), hk.cell a1 (fun h => h), hk.cell a2 (fun h => h), (fz 2).trans f2, hk.cell b0 (fun h => h), hk.cell b1 (fun h => h), hk.cell b2 (fun h => h), (fz1 0).trans g0, (fz1 1).trans g1, (fz1 2).trans g2,
      hk.cell d0 (fun h => h), hk.cell d1 (fun h => h), (fz2 0).trans e0, (fz2 1).trans e1⟩
  have HS : Hid (Sl EI w1 A c L) := h.keep HK1.out (nobIn _)
  have HL := Lib.hid hL
  have HN := Lib.hid hl
  have hlc := h.le
  have hcc := h.cap
  rw [hL] at hlc
  have HT := Lib.hid ht
  clear h hL hl ht
  go_enter Try.func67, Try.ntmps67
  go_upto_region 1 with (fail)
  rw [HW1.out, HA.out]
  by_cases hn : n = 0
  · obtain rfl : L = [] := List.eq_nil_of_length_eq_zero (by rw [HL.out]; exact hn)
    subst hn
    have HFIN := Lib.hid (five_cells (w := w1) (b := a + 1) (d := a + 1 + 1) (by omega) b0 b1 b2 d0 d1 (.bool th) (.int .i64 o) (.slice A 0 c) (.int .i64 0) (.int .i64 0))
    cases th with
    | false =>
      go_wp2_with (fail)
      obtain ⟨W, hW, hk, k0, k1, k2, k3, k4⟩ := HFIN.out
      refine bodyPost_ret (v := .tuple #[.agg #[.bool false, .int .i64 o, .slice A 0 c], .agg #[.int .i64 0, .int .i64 0], .bool false]) ((results_cell_cell_tmp rfl _ _ _).trans ?_) rfl ⟨?_, ?_⟩
      · rw [← hW]
        clear b0 b1 b2 g0 g1 g2 a0 a1 a2 f2 hk d0 d1 e0 e1 hW
        go_simp
      · rw [← hW]
        exact HK1.out.trans hk (fun k h1 h2 => by have := HA.out; omega)
      · simp [EI]
    | true =>
      go_wp2_with (fail)
      obtain ⟨W, hW, hk, k0, k1, k2, k3, k4⟩ := HFIN.out
      refine bodyPost_ret (v := .tuple #[.agg #[.bool true, .int .i64 o, .slice A 0 c], .agg #[.int .i64 0, .int .i64 0], .bool false]) ((results_cell_cell_tmp rfl _ _ _).trans ?_) rfl ⟨?_, ?_⟩
      · rw [← hW]
        clear b0 b1 b2 g0 g1 g2 a0 a1 a2 f2 hk d0 d1 e0 e1 hW
        go_simp
      · rw [← hW]
        exact HK1.out.trans hk (fun k h1 h2 => by have := HA.out; omega)
      · simp [EI]
  · obtain rfl : th = true := by
      cases th with
      | false =>
        have h1 := HT.out rfl
        rw [h1] at HL
        exact absurd HL.out.symm hn
      | true => rfl
    have hn1 : 0 < n := by omega
    have hn2 : (0 : Int) < (n : Int) := by omega
    have hn3 : ¬ ((n : Int) = 0) := by omega
    have hn4 : ((n : Int) == 0) = false := by simpa using hn
    have hn5 : (n == 0) = false := by simpa using hn
    have HNE : Hid (L ≠ []) := fun e => by have := HL.out; rw [e] at this; exact hn this.symm
    go_upto_region 4 with (go_at_call 13; go_must (refine (refsort_ok o A c n L w1 HL.out HS.out HN.out).mono ?_); rintro e w2 ⟨As, cs, s, rfl, hsl, hss, hso, -, hk⟩; obtain ⟨bs, os, rfl, hx⟩ := hso.sl.elem (i := 0) (by rw [hsl]; exact hn1); obtain ⟨⟨xk, xn⟩, HX⟩ : ∃ x, Hid (s[0]'(by rw [hsl]; exact hn1) = x) := ⟨_, Lib.hid rfl⟩; have HXE : Hid (s[0]? = some (xk, xn)) := by { unfold Hid; rw [← HX.out]; exact List.getElem?_eq_getElem _ }; rw [HX.out] at hx; have hx1 := hx 0 _ rfl; have hx2 := hx 1 _ rfl; simp only [EI, Nat.add_zero, Nat.zero_mul] at hx1 hx2; have hscap := hso.sl.cap; have hsle := hso.sl.le; rw [hsl] at hsle; have HSS := Lib.hid hss; have HK2 := Lib.hid hk; clear hss hso hk hx HX hsl)
    obtain ⟨w3, HW3⟩ : ∃ w3, Hid (w2.alloc (.cells #[.int .i64 xk, .int .i64 xn] 27) = w3) := ⟨_, Lib.hid rfl⟩
    have HK3 : Hid (Keep nob w2 w3) := by unfold Hid; rw [← HW3.out]; exact (Keep.refl nob w2).alloc _
    have HK13 : Hid (Keep nob w1 w3) := HK2.out.then_ HK3.out
    obtain ⟨b5, HB5⟩ : ∃ b5, Hid (w2.heap.size = b5) := ⟨_, Lib.hid rfl⟩
    have HX5 : Hid (w3.cell? ⟨b5, 0, none⟩ = some (.int .i64 xk) ∧ w3.cell? ⟨b5, 1, none⟩ = some (.int .i64 xn)) := by unfold Hid; rw [← HW3.out, ← HB5.out]; exact ⟨by simp, by simp⟩
    rw [HW3.out, HB5.out]
    clear hx1 hx2 a0 a1 a2 f2 b0 b1 b2 g0 g1 g2 d0 d1 e0 e1 HT
    go_wp2_with (fail)
    go_loopw [6, 7, 8] (fun u6 u7 u8 wr => ∃ (i k : Nat) (Aq : Option Addr) (cq : Nat) (g : Bool), i ≤ n ∧ u8 = .int .i64 (i : Int) ∧ u7 = .bool g ∧ u6 = .slice Aq k cq ∧ Hid (((L.take i).erase (xk, xn)).length = k) ∧ Hid (g = true ↔ (xk, xn) ∈ L.take i) ∧ Hid (Gro w3 wr Aq cq ((L.take i).erase (xk, xn)))) (fun _ _ u8 _ => ((n : Int) - intOf u8).toNat)
    case atStart => exact ⟨0, 0, none, 0, false, Nat.zero_le _, rfl, rfl, rfl, rfl, by unfold Hid; simp, Gro.start w3⟩
    case round =>
      obtain ⟨i, k, Aq, cq, g, hi, rfl, rfl, rfl, HKL, HGG, HG⟩ := hrel
      obtain ⟨c0, c1, c2, c3, -⟩ := HCW.out wr (HK13.out.then_ HG.out.keep)
      by_cases hlt : i < n
      · have hi0 : (0 : Int) ≤ (i : Int) := by omega
        have hi1 : (i : Int) < (n : Int) := by omega
        obtain ⟨bl, ol, rfl, hy⟩ := ((HS.out.keep HK13.out (nobIn _)).keep HG.out.keep (nobIn _)).elem (i := i) (by rw [HL.out]; exact hlt)
        obtain ⟨⟨yk, yn⟩, HY⟩ : ∃ y, Hid (L[i]'(by rw [HL.out]; exact hlt) = y) := ⟨_, Lib.hid rfl⟩
        have HYE : Hid (L[i]? = some (yk, yn)) := by unfold Hid; rw [← HY.out]; exact List.getElem?_eq_getElem _
        rw [HY.out] at hy
        have hy1 := hy 0 _ rfl
        have hy2 := hy 1 _ rfl
        simp only [EI, Nat.add_zero] at hy1 hy2
        have HST := Lib.hid (erase_step (x := (xk, xn)) HYE.out)
        have HF : Hid (∀ w', Keep (fun _ => False) wr w' → w'.cell? ⟨a, 2, none⟩ = some (.slice (some ⟨bl, ol, none⟩) n c) ∧ w'.cell? ⟨bl, ol + i * 2, none⟩ = some (.int .i64 yk) ∧ w'.cell? ⟨bl, ol + i * 2 + 1, none⟩ = some (.int .i64 yn) ∧ w'.cell? ⟨b5, 0, none⟩ = some (.int .i64 xk) ∧ w'.cell? ⟨b5, 1, none⟩ = some (.int .i64 xn)) := fun w' hk =>
          ⟨hk.cell c2 (fun h => h), hk.cell hy1 (fun h => h), hk.cell hy2 (fun h => h), (HG.out.keep.then_ hk).cell HX5.out.1 (fun h => h), (HG.out.keep.then_ hk).cell HX5.out.2 (fun h => h)⟩
        have HIT : Hid ((xk, xn) ∈ L.take (i + 1) ↔ ((xk, xn) ∈ L.take i ∨ (yk, yn) = (xk, xn))) := by
          unfold Hid
          rw [List.take_add_one, HYE.out, List.mem_append]
          simp [eq_comm]
        clear hy HY
        have hkn : k ≤ n := by have := HKL.out; have h2 := List.length_erase_le (a := ((xk, xn) : Item)) (l := L.take i); rw [List.length_take] at h2; omega
        have hb16 : (k + 1) * 16 ≤ 140737488355328 := by have := HN.out; omega
        have hb63 : k + 1 ≤ 9223372036854775807 := by have := HN.out; omega
        cases g with
        | true =>
          have HIN : Hid ((xk, xn) ∈ L.take i) := HGG.out.1 rfl
          have HER := Lib.hid (HST.out.1 HIN.out)
          have HGN : Hid (true = true ↔ (xk, xn) ∈ L.take (i + 1)) := ⟨fun _ => HIT.out.2 (.inl HIN.out), fun _ => rfl⟩
          go_upto_region 9 with (fail)
          refine wp_region_kept (by kernel_rfl) (by kernel_rfl) (QV.out ?_)
          repeat (first
            | (refine kq_skip (by rfl) (fun K hK => ?_); go_simp; refine hK _ ?_; clear hK K)
            | (refine kq_want (by rfl) (fun K hK => ?_); first
                | (refine BigFrame.quiet_move _ rfl ?_; go_simp; refine hK _ ?_; clear hK K)
                | (refine kq_still ?_ (fun w' hw' => ?_) ?_; rotate_left; (obtain ⟨c0', c1', c2', c3', c4'⟩ := HF.out w' hw'; go_simp; first | done | exact rfl); go_simp; refine hK _ ?_; clear hK K)))
          refine ⟨wpQuiet_nil ?_⟩
          intro wq hkq
          have HKQ : Hid (Keep nob wr wq) := hkq
          clear hkq
          obtain ⟨c0, c1, c2, c3, -⟩ := HCW.out wq (HK13.out.then_ (HG.out.keep.then_ HKQ.out))
          obtain ⟨-, hy1, hy2, -, -⟩ := HF.out wq HKQ.out
          obtain ⟨w4, HW4⟩ : ∃ w4, Hid (wq.alloc (.cells #[.int .i64 yk, .int .i64 yn] 27) = w4) := ⟨_, Lib.hid rfl⟩
          have HK4 : Hid (Keep nob wr w4) := by unfold Hid; rw [← HW4.out]; exact HKQ.out.alloc _
          have HS4 : Hid (Sl EI w4 (some ⟨wq.heap.size, 0, none⟩) 1 [((yk, yn) : Item)]) := by unfold Hid; rw [← HW4.out]; exact Sl.one EI wq _ _ 27 rfl
          have HG4 := Lib.hid (HG.out.kept HK4.out)
          have HE4 := Lib.hid HW4.out
          go_wp2_with (at_builtin; rw [HE4.out]; refine wpList_append_two EI rfl _ _ 22 rfl 27 _ 16 Try.underlying22 info27 rfl Aq k cq rfl ((L.take i).erase (xk, xn)) HKL.out HG4.out.ow (some ⟨wq.heap.size, 0, none⟩) 1 1 rfl [((yk, yn) : Item)] rfl HS4.out (by decide) hb16 hb63 ?_; intro A' c' w5 hap; have HAP := Lib.hid hap; clear hap)
          have HG5 : Hid (Gro w3 w5 A' c' ((L.take (i + 1)).erase (xk, xn))) := by
            have := HG4.out.next HAP.out
            rw [← HER.out] at this
            exact this
          go_roundw
          case rel => exact ⟨i + 1, k + 1, A', c', true, hlt, by go_num, rfl, rfl, by unfold Hid; rw [HER.out, List.length_append, HKL.out]; rfl, HGN, HG5⟩
          case measure => simp [intOf]; omega
        | false =>
          have HIN : Hid ((xk, xn) ∉ L.take i) := fun h => by have := HGG.out.2 h; cases this
          by_cases hxy : (yk, yn) = (xk, xn)
          · have HER := Lib.hid (HST.out.2.1 HIN.out hxy)
            have HGN : Hid (true = true ↔ (xk, xn) ∈ L.take (i + 1)) := ⟨fun _ => HIT.out.2 (.inr hxy), fun _ => rfl⟩
            have heq : ∀ w, (binOp .eql 27 (.agg #[.int .i64 yk, .int .i64 yn]) (.agg #[.int .i64 xk, .int .i64 xn])).run Try.prog w = .ok (.bool true) w := fun w => by rw [run_eql_items (yk, yn) (xk, xn) w, decide_eq_true hxy]
            clear hxy
            go_upto_region 9 with (fail)
            refine wp_region_kept (by kernel_rfl) (by kernel_rfl) (QV.out ?_)
            repeat (first
              | (refine kq_skip (by rfl) (fun K hK => ?_); go_simp; refine hK _ ?_; clear hK K)
              | (refine kq_want (by rfl) (fun K hK => ?_); first
                  | (refine BigFrame.quiet_move _ rfl ?_; go_simp; refine hK _ ?_; clear hK K)
                  | (refine kq_still ?_ (fun w' hw' => ?_) ?_; rotate_left; (obtain ⟨c0', c1', c2', c3', c4'⟩ := HF.out w' hw'; go_simp; first | done | exact rfl); go_simp; refine hK _ ?_; clear hK K)))
            refine ⟨wpQuiet_nil ?_⟩
            intro wq hkq
            have HG5 := Lib.hid (HG.out.kept hkq)
            clear hkq
            go_wp2_with (fail)
            go_roundw
            case rel => exact ⟨i + 1, k, Aq, cq, true, hlt, by go_num, rfl, rfl, by unfold Hid; rw [HER.out]; exact HKL.out, HGN, by unfold Hid; rw [HER.out]; exact HG5.out⟩
            case measure => simp [intOf]; omega
          · have HER := Lib.hid (HST.out.2.2 HIN.out hxy)
            have HGN : Hid (false = true ↔ (xk, xn) ∈ L.take (i + 1)) := ⟨fun h => (by cases h), fun h => by rcases HIT.out.1 h with h | h; exact absurd h HIN.out; exact absurd h hxy⟩
            have heq : ∀ w, (binOp .eql 27 (.agg #[.int .i64 yk, .int .i64 yn]) (.agg #[.int .i64 xk, .int .i64 xn])).run Try.prog w = .ok (.bool false) w := fun w => by rw [run_eql_items (yk, yn) (xk, xn) w, decide_eq_false hxy]
            clear hxy
            go_upto_region 9 with (fail)
            refine wp_region_kept (by kernel_rfl) (by kernel_rfl) (QV.out ?_)
            repeat (first
              | (refine kq_skip (by rfl) (fun K hK => ?_); go_simp; refine hK _ ?_; clear hK K)
              | (refine kq_want (by rfl) (fun K hK => ?_); first
                  | (refine BigFrame.quiet_move _ rfl ?_; go_simp; refine hK _ ?_; clear hK K)
                  | (refine kq_still ?_ (fun w' hw' => ?_) ?_; rotate_left; (obtain ⟨c0', c1', c2', c3', c4'⟩ := HF.out w' hw'; go_simp; first | done | exact rfl); go_simp; refine hK _ ?_; clear hK K)))
            refine ⟨wpQuiet_nil ?_⟩
            intro wq hkq
            have HKQ : Hid (Keep nob wr wq) := hkq
            clear hkq
            obtain ⟨c0, c1, c2, c3, -⟩ := HCW.out wq (HK13.out.then_ (HG.out.keep.then_ HKQ.out))
            obtain ⟨-, hy1, hy2, -, -⟩ := HF.out wq HKQ.out
            obtain ⟨w4, HW4⟩ : ∃ w4, Hid (wq.alloc (.cells #[.int .i64 yk, .int .i64 yn] 27) = w4) := ⟨_, Lib.hid rfl⟩
            have HK4 : Hid (Keep nob wr w4) := by unfold Hid; rw [← HW4.out]; exact HKQ.out.alloc _
            have HS4 : Hid (Sl EI w4 (some ⟨wq.heap.size, 0, none⟩) 1 [((yk, yn) : Item)]) := by unfold Hid; rw [← HW4.out]; exact Sl.one EI wq _ _ 27 rfl
            have HG4 := Lib.hid (HG.out.kept HK4.out)
            have HE4 := Lib.hid HW4.out
            go_wp2_with (at_builtin; rw [HE4.out]; refine wpList_append_two EI rfl _ _ 22 rfl 27 _ 16 Try.underlying22 info27 rfl Aq k cq rfl ((L.take i).erase (xk, xn)) HKL.out HG4.out.ow (some ⟨wq.heap.size, 0, none⟩) 1 1 rfl [((yk, yn) : Item)] rfl HS4.out (by decide) hb16 hb63 ?_; intro A' c' w5 hap; have HAP := Lib.hid hap; clear hap)
            have HG5 : Hid (Gro w3 w5 A' c' ((L.take (i + 1)).erase (xk, xn))) := by
              have := HG4.out.next HAP.out
              rw [← HER.out] at this
              exact this
            go_roundw
            case rel => exact ⟨i + 1, k + 1, A', c', false, hlt, by go_num, rfl, rfl, by unfold Hid; rw [HER.out, List.length_append, HKL.out]; rfl, HGN, HG5⟩
            case measure => simp [intOf]; omega
      · have hiN : i = n := by omega
        subst i
        have HER : Hid ((L.take n).erase (xk, xn) = L.erase (xk, xn)) := by unfold Hid; rw [List.take_of_length_le (Nat.le_of_eq HL.out)]
        rw [HER.out] at HKL HG
        obtain ⟨-, -, -, -, q0, q1, q2, q3, q4, q5, r0, r1, r2, r3⟩ := HCW.out wr (HK13.out.then_ HG.out.keep)
        obtain ⟨wm, HWM⟩ : ∃ wm, Hid (wr.setCell ⟨a, 2, none⟩ (.slice Aq k cq) = wm) := ⟨_, Lib.hid rfl⟩
        have HKM : Hid (Keep (fun k => k = a) wr wm) := by unfold Hid; rw [← HWM.out]; exact (Keep.refl (fun k => k = a) wr).setCell (fun _ => rfl) _
        have hw1b : w1.heap.size ≤ wr.heap.size := Nat.le_trans HK13.out.size HG.out.keep.size
        have hA1 : wm.heap[a + 1]? = wr.heap[a + 1]? := HKM.out.block (a + 1) (by rw [HSZ.out, HA.out] at hw1b; omega) (by show ¬ (a + 1 = a); omega)
        have hA2 : wm.heap[a + 1 + 1]? = wr.heap[a + 1 + 1]? := HKM.out.block (a + 1 + 1) (by rw [HSZ.out, HA.out] at hw1b; omega) (by show ¬ (a + 1 + 1 = a); omega)
        have hb5a : ¬ b5 = a := fun e => by
          have h1 := HB5.out
          have h2 := HK2.out.size
          rw [HSZ.out, HA.out] at h2
          omega
        have m0 : wm.cell? ⟨a, 0, none⟩ = some (.bool true) := by rw [← HWM.out, World.cell?_setCell_other _ _ _ _ (by simp)]; exact c0
        have m1 : wm.cell? ⟨a, 1, none⟩ = some (.int .i64 o) := by rw [← HWM.out, World.cell?_setCell_other _ _ _ _ (by simp)]; exact c1
        have m2 : wm.cell? ⟨a, 2, none⟩ = some (.slice Aq k cq) := by rw [← HWM.out]; exact World.cell?_setCell_same _ _ _ c2
        have x0 : wm.cell? ⟨b5, 0, none⟩ = some (.int .i64 xk) := HKM.out.cell (HG.out.keep.cell HX5.out.1 (fun h => h)) hb5a
        have x1 : wm.cell? ⟨b5, 1, none⟩ = some (.int .i64 xn) := HKM.out.cell (HG.out.keep.cell HX5.out.2 (fun h => h)) hb5a
        have b0 : wm.cell? ⟨a + 1, 0, none⟩ = some (.bool false) := (World.cell?_of_block hA1).trans q0
        have b1 : wm.cell? ⟨a + 1, 1, none⟩ = some (.int .i64 0) := (World.cell?_of_block hA1).trans q1
        have b2 : wm.cell? ⟨a + 1, 2, none⟩ = some (.slice none 0 0) := (World.cell?_of_block hA1).trans q2
        have g0 : wm.frozen? ⟨a + 1, 0, none⟩ = false := (World.frozen?_of_block hA1).trans q3
        have g1 : wm.frozen? ⟨a + 1, 1, none⟩ = false := (World.frozen?_of_block hA1).trans q4
        have g2 : wm.frozen? ⟨a + 1, 2, none⟩ = false := (World.frozen?_of_block hA1).trans q5
        have d0 : wm.cell? ⟨a + 1 + 1, 0, none⟩ = some (.int .i64 0) := (World.cell?_of_block hA2).trans r0
        have d1 : wm.cell? ⟨a + 1 + 1, 1, none⟩ = some (.int .i64 0) := (World.cell?_of_block hA2).trans r1
        have e0 : wm.frozen? ⟨a + 1 + 1, 0, none⟩ = false := (World.frozen?_of_block hA2).trans r2
        have e1 : wm.frozen? ⟨a + 1 + 1, 1, none⟩ = false := (World.frozen?_of_block hA2).trans r3
        have hba1 : ¬ b5 = a + 1 := fun e => by
          have h1 := HB5.out
          have h2 := HK2.out.size
          rw [HSZ.out, HA.out] at h2
          omega
        have hba2 : ¬ b5 = a + 1 + 1 := fun e => by
          have h1 := HB5.out
          have h2 := HK2.out.size
          rw [HSZ.out, HA.out] at h2
          omega
        clear q0 q1 q2 q3 q4 q5 r0 r1 r2 r3 hA1 hA2
        go_upto_region 13 with (fail)
        rw [HWM.out]
        clear c0 c1 c2 c3
        have n1 : ¬ (a + 1 = a) := by omega
        have n4 : ¬ (a + 1 = b5) := fun e => hba1 e.symm
        have n5 : ¬ (a + 1 + 1 = b5) := fun e => hba2 e.symm
        have HFIN := Lib.hid (five_cells (w := wm) (b := a + 1) (d := a + 1 + 1) (by omega) b0 b1 b2 d0 d1 (.bool true) (.int .i64 o) (.slice Aq k cq) (.int .i64 xk) (.int .i64 xn))
        have n2 : ¬ (a + 1 + 1 = a) := by omega
        have n3 : ¬ (a + 1 + 1 = a + 1) := by omega
        have hdr : ∀ p, wm.drew.cell? p = wm.cell? p := fun p => rfl
        have hdf : ∀ p, wm.drew.frozen? p = wm.frozen? p := fun p => rfl
        go_region_held3 (fun w' => w'.cell? ⟨a, 0, none⟩ = some (.bool true) ∧ w'.cell? ⟨a, 1, none⟩ = some (.int .i64 o) ∧ w'.cell? ⟨a, 2, none⟩ = some (.slice Aq k cq) ∧ w'.cell? ⟨b5, 0, none⟩ = some (.int .i64 xk) ∧ w'.cell? ⟨b5, 1, none⟩ = some (.int .i64 xn)) (go_keep) (fail)
        clear b0 b1 b2 g0 g1 g2 d0 d1 e0 e1 m0 m1 m2 x0 x1 hdr hdf
        go_wp2_with (fail)
        obtain ⟨W, hW, hk, k0, k1, k2, k3, k4⟩ := HFIN.out
        rw [← hW]
        have HKW : Hid (Keep (fun k => k = a ∨ k = a + 1 ∨ k = a + 1 + 1) wr W.drew) := ((HKM.out.mono (fun _ _ h => .inl h)).then_ (hk.mono (fun _ _ h => .inr h))).drew
        have hfr : ∀ p, Aq = some p → a + 3 ≤ p.block := fun p hp => by
          have h1 := HG.out.fresh p hp
          have h2 := HK13.out.size
          rw [HSZ.out, HA.out] at h2
          omega
        refine bodyPost_ret (v := .tuple #[.agg #[.bool true, .int .i64 o, .slice Aq k cq], .agg #[.int .i64 xk, .int .i64 xn], .bool true]) ((results_cell_cell_tmp rfl _ _ _).trans ?_) rfl
          ⟨?_, .inr ⟨s, (xk, xn), Aq, cq, HSS.out, HXE.out, by rw [HKL.out]; rfl, ?_, fun _ p hp => by have := hfr p hp; have := HA.out; omega⟩⟩
        · have k0' : W.drew.cell? ⟨a + 1, 0, none⟩ = some (.bool true) := k0
          have k1' : W.drew.cell? ⟨a + 1, 1, none⟩ = some (.int .i64 o) := k1
          have k2' : W.drew.cell? ⟨a + 1, 2, none⟩ = some (.slice Aq k cq) := k2
          have k3' : W.drew.cell? ⟨a + 1 + 1, 0, none⟩ = some (.int .i64 xk) := k3
          have k4' : W.drew.cell? ⟨a + 1 + 1, 1, none⟩ = some (.int .i64 xn) := k4
          clear hk k0 k1 k2 k3 k4 hW hfr
          generalize W.drew = wq at k0' k1' k2' k3' k4' ⊢
          go_simp
        · exact ((HK1.out.then_ HK13.out).then_ HG.out.keep).trans HKW.out (fun k h1 h2 => by have := HA.out; omega)
        · refine HG.out.ow.sl.keep HKW.out (fun ⟨p, hp, h⟩ => ?_)
          have := hfr p hp
          omega
end Go.Proofs.Ytnofckgnnpmiiaa

/- Pairs of a bag and what the reference says that it is; who owns which block. -/
namespace Go.Proofs.Ytnofckgnnpmiiaa
open Go.RowKit Go.Shelf

/-- a bag, there or not -/
def BagSt (o : Int) (p : Option Addr) (th : Bool) (m : Nat) (A : Option Addr) (cs : List (Held Item)) (w : World) : Prop :=
  (th = true ∧ ∃ bb, p = some ⟨bb, 0, none⟩ ∧ BL o bb A m cs w) ∨ (th = false ∧ cs = [] ∧ A = none ∧ (p = none ∨ ∃ bz, p = some ⟨bz, 0, none⟩ ∧ w.cell? ⟨bz, 0, none⟩ = some .nilFunc))
/-- what is written of it -/
def Fp (p A : Option Addr) : Nat → Prop := fun k => AtB p k ∨ AtB A k
section
variable {o : Int} {p A : Option Addr} {th : Bool} {m : Nat} {cs : List (Held Item)} {w w' : World}
theorem BagSt.keep {S : Nat → Prop} (h : BagSt o p th m A cs w) (k : Keep S w w') (hp : ∀ a, p = some a → ¬ S a.block) (hA : ∀ a, A = some a → ¬ S a.block) : BagSt o p th m A cs w' := by
  rcases h with ⟨h1, bb, h2, h3⟩ | ⟨h1, h2, h3, h4⟩
  · exact .inl ⟨h1, bb, h2, h3.keep k (hp _ h2) (fun ⟨a, ha, hs⟩ => hA a ha hs)⟩
  · refine .inr ⟨h1, h2, h3, ?_⟩
    rcases h4 with h4 | ⟨bz, h4, h5⟩
    · exact .inl h4
    · exact .inr ⟨bz, h4, k.cell h5 (hp _ h4)⟩
theorem BagSt.lt (h : BagSt o p th m A cs w) : (∀ a, p = some a → a.block < w.heap.size) ∧ (∀ a, A = some a → a.block < w.heap.size ∧ ∀ b, p = some b → a.block ≠ b.block) := by
  rcases h with ⟨h1, bb, h2, h3⟩ | ⟨h1, h2, h3, h4⟩
  · refine ⟨fun a ha => ?_, fun a ha => ⟨(h3.old a ha).1, fun b hb => ?_⟩⟩
    · rw [h2] at ha
      obtain rfl := Option.some.inj ha
      exact h3.lt
    · rw [h2] at hb
      obtain rfl := Option.some.inj hb
      exact (h3.old a ha).2
  · refine ⟨fun a ha => ?_, fun a ha => by rw [h3] at ha; cases ha⟩
    rcases h4 with h4 | ⟨bz, h4, h5⟩
    · rw [h4] at ha; cases ha
    · rw [h4] at ha
      obtain rfl := Option.some.inj ha
      exact World.block_lt_of_cell? w _ h5
theorem BagSt.not_there (h : BagSt o p false m A cs w) (k : Keep nob w w') : Calls Try.prog 69 #[.pointer p] w' (fun e w'' => e = .returned (.bool false) ∧ w'' = w') := by
  rcases h with ⟨h1, _⟩ | ⟨_, _, _, h4⟩
  · cases h1
  · rcases h4 with rfl | ⟨bz, rfl, h5⟩
    · exact there_nil w'
    · exact there_zero bz w' (k.cell h5 (fun h => h))
theorem BagSt.empty (h : BagSt o p th m A cs w) (ht : th = false) : cs = [] := by
  rcases h with ⟨h1, _⟩ | ⟨_, h2, _⟩
  · rw [ht] at h1; cases h1
  · exact h2
theorem BagSt.asc (h : BagSt o p th m A cs w) : cs.Pairwise (fun a b => a.2 < b.2) := by
  rcases h with ⟨_, _, _, _, _, _, _, _, h, _⟩ | ⟨_, h2, _⟩
  · exact h
  · rw [h2]; exact .nil
theorem BagSt.len (h : BagSt o p th m A cs w) : Calls Try.prog 38 #[.pointer p] w fun e w' => e = .returned (.int .i64 (cs.length : Int)) ∧ w' = w := by
  rcases h with ⟨h1, bb, rfl, h3⟩ | ⟨h1, rfl, h3, h4⟩
  · exact h3.len
  · rcases h4 with rfl | ⟨bz, rfl, h5⟩
    · exact len_nil w
    · exact len_zero bz w h5
theorem BagSt.add (h : BagSt o p th m A cs w) (X : Option Addr) (cx L : Nat) (xs : List Item) (hL : xs.length = L) (hx : Sl EI w X cx xs) (hX : xs ≠ [] → ∀ a, X = some a → ¬ Fp p A a.block) (hl : cs.length + L ≤ 1000000000) (hm : m + L ≤ 1000000000) :
    Calls Try.prog 40 #[.pointer p, .slice X L cx] w fun e w' => e = .returned (.tuple #[]) ∧ ∃ A' m', m' ≤ m + L ∧ BagSt o p th m' A' (if th then cs ++ heldFrom (m : Int) xs else cs) w' ∧ (∀ a, A' = some a → AtB A a.block ∨ w.heap.size ≤ a.block) ∧ Keep (Fp p A) w w' := by
  rcases h with ⟨h1, bb, rfl, h3⟩ | h
  · subst h1
    refine (h3.add X cx L xs hL hx (fun hne a ha hk => hX hne a ha ?_) hl hm).mono ?_
    · rcases hk with hk | hk
      · exact .inl ⟨_, rfl, hk.symm⟩
      · exact .inr hk
    · rintro e w' ⟨he, A', g1, g2, g3⟩
      exact ⟨he, A', m + L, Nat.le_refl _, .inl ⟨rfl, bb, rfl, g1⟩, g2, g3.mono (fun k _ hk => hk.elim (fun e => .inl ⟨_, rfl, e.symm⟩) .inr)⟩
  · have h1 := h.1
    subst h1
    refine (add_not p _ w (BagSt.not_there (o := o) (m := m) (.inr h) (Keep.refl _ _))).mono ?_
    rintro e w' ⟨he, rfl⟩
    exact ⟨he, A, m, Nat.le_add_right _ _, .inr h, fun a ha => .inl ⟨a, ha, rfl⟩, Keep.refl _ _⟩
theorem BagSt.take (h : BagSt o p th m A cs w) (hl : cs.length ≤ 1000000000) :
    Calls Try.prog 41 #[.pointer p] w fun e w' => (cs = [] ∧ e = .returned (.tuple #[EI.val (0, 0), .bool false]) ∧ Keep nob w w') ∨
      (∃ z, z ∈ cs ∧ (∀ y ∈ cs, leH (byC o) z y) ∧ e = .returned (.tuple #[EI.val z.1, .bool true]) ∧ BagSt o p th m A (cs.erase z) w' ∧ Keep (Fp p A) w w') := by
  rcases h with ⟨h1, bb, rfl, h3⟩ | h
  · subst h1
    by_cases hne : cs = []
    · subst hne
      exact h3.take_none.mono fun e w' ⟨g1, g2⟩ => .inl ⟨rfl, g1, g2⟩
    · refine (h3.take_some hne hl).mono ?_
      rintro e w' ⟨z, g1, g2, g3, g4, g5⟩
      exact .inr ⟨z, g1, g2, g3, .inl ⟨rfl, bb, rfl, g4⟩, g5.mono (fun k _ hk => hk.elim (fun e => .inl ⟨_, rfl, e.symm⟩) .inr)⟩
  · have h1 := h.1
    have h2 := h.2.1
    subst h1
    exact (take_not p w (fun w' k => BagSt.not_there (o := o) (m := m) (.inr h) k)).mono fun e w' ⟨g1, g2⟩ => .inl ⟨h2, g1, g2⟩
end

/-- the pair at off in block bl: bag i; blocks have owners: i the bag's, 9 lists that nobody writes, 10 the pairs -/
structure PSt (own : Nat → Nat) (i bl off : Nat) (p : Option Addr) (th : Bool) (o : Int) (m : Nat) (cs : List (Held Item)) (A Ar : Option Addr) (cr : Nat) (w : World) : Prop where
  c0 : w.cell? ⟨bl, off, none⟩ = some (.pointer p)
  c1 : w.cell? ⟨bl, off + 1, none⟩ = some (.bool th)
  c2 : w.cell? ⟨bl, off + 2, none⟩ = some (.int .i64 o)
  c3 : w.cell? ⟨bl, off + 3, none⟩ = some (.slice Ar cs.length cr)
  th4 : w.there bl off 4
  sl : Sl EI w Ar cr (cs.map (·.1))
  osl : cs ≠ [] → ∀ a, Ar = some a → own a.block = 9
  bag : BagSt o p th m A cs w
  obag : (∀ a, p = some a → own a.block = i) ∧ (∀ a, A = some a → own a.block = i)
/-- what a call on it writes -/
structure PK (own : Nat → Nat) (i bl off : Nat) (w w' : World) : Prop where
  keep : Keep (fun k => own k = i ∨ k = bl) w w'
  rest : ∀ j v, (j < off ∨ off + 4 ≤ j) → w.cell? ⟨bl, j, none⟩ = some v → w'.cell? ⟨bl, j, none⟩ = some v
  there : ∀ o n, w.there bl o n → w'.there bl o n
/-- owners stay -/
def Agree (own own' : Nat → Nat) (w : World) : Prop := ∀ k, k < w.heap.size → own' k = own k
theorem Agree.refl (own : Nat → Nat) (w : World) : Agree own own w := fun _ _ => rfl
theorem Agree.trans {own own1 own2 : Nat → Nat} {w w1 : World} (h : Agree own own1 w) (k : Agree own1 own2 w1) (hs : w.heap.size ≤ w1.heap.size) : Agree own own2 w := fun i hi => (k i (Nat.lt_of_lt_of_le hi hs)).trans (h i hi)
section
variable {own own' : Nat → Nat} {i j bl off offj m cr : Nat} {p A Ar : Option Addr} {th : Bool} {o : Int} {cs : List (Held Item)} {w w1 w' : World}
theorem PK.of_kept (k : Keep (fun _ => False) w w') : PK own i bl off w w' :=
  ⟨k.mono (fun _ _ h => h.elim), fun _ _ _ hc => k.cell hc (fun h => h), fun _ _ ht => k.there ht (fun h => h)⟩
theorem PK.trans (h : PK own i bl off w w1) (ha : Agree own own' w) (k : PK own' i bl off w1 w') : PK own i bl off w w' :=
  ⟨h.keep.trans k.keep (fun n hn hk => hk.elim (fun e => .inl (by rw [← ha n hn]; exact e)) .inr), fun j v hj hc => k.rest j v hj (h.rest j v hj hc), fun o n ht => k.there o n (h.there o n ht)⟩
theorem PSt.lts (h : PSt own i bl off p th o m cs A Ar cr w) : bl < w.heap.size ∧ (∀ a, p = some a → a.block < w.heap.size) ∧ (∀ a, A = some a → a.block < w.heap.size) ∧ (cs ≠ [] → ∀ a, Ar = some a → a.block < w.heap.size) :=
  ⟨World.block_lt_of_cell? w _ h.c0, h.bag.lt.1, fun a ha => (h.bag.lt.2 a ha).1, fun hne => h.sl.lt (by simpa using hne)⟩
/-- another pair -/
theorem PSt.other (h : PSt own j bl offj p th o m cs A Ar cr w) (k : PK own i bl off w w') (ha : Agree own own' w) (hij : i ≠ j) (hi : i < 9) (hj : j < 9) (hbl : own bl = 10) (hoff : offj + 4 ≤ off ∨ off + 4 ≤ offj) : PSt own' j bl offj p th o m cs A Ar cr w' := by
  obtain ⟨l0, l1, l2, l3⟩ := h.lts
  have key : ∀ a n, own a = n → a < w.heap.size → n ≠ i → n ≠ 10 → ¬ (own a = i ∨ a = bl) := fun a n h1 h2 h3 h4 hk => by
    rcases hk with hk | hk
    · exact h3 (h1.symm.trans hk)
    · subst hk
      exact h4 (h1.symm.trans hbl)
  refine ⟨k.rest _ _ (by omega) h.c0, k.rest _ _ (by omega) h.c1, k.rest _ _ (by omega) h.c2, k.rest _ _ (by omega) h.c3, k.there _ _ h.th4,
    h.sl.keep2 k.keep (fun hne ⟨a, ha', hs⟩ => ?_), fun hne a ha' => (ha _ (l3 hne a ha')).trans (h.osl hne a ha'),
    h.bag.keep k.keep (fun a ha' => key _ _ (h.obag.1 a ha') (l1 a ha') (fun e => hij e.symm) (by omega)) (fun a ha' => key _ _ (h.obag.2 a ha') (l2 a ha') (fun e => hij e.symm) (by omega)),
    ⟨fun a ha' => (ha _ (l1 a ha')).trans (h.obag.1 a ha'), fun a ha' => (ha _ (l2 a ha')).trans (h.obag.2 a ha')⟩⟩
  have hne' : cs ≠ [] := fun e => hne (by rw [e]; rfl)
  exact key _ _ (h.osl hne' a ha') (l3 hne' a ha') (by omega) (by omega) hs
theorem PSt.kept (h : PSt own j bl offj p th o m cs A Ar cr w) (k : Keep (fun _ => False) w w') : PSt own j bl offj p th o m cs A Ar cr w' :=
  ⟨k.cell h.c0 (fun h => h), k.cell h.c1 (fun h => h), k.cell h.c2 (fun h => h), k.cell h.c3 (fun h => h), k.there h.th4 (fun h => h), h.sl.keep k (nobIn _), h.osl, h.bag.keep k (fun _ _ h => h) (fun _ _ h => h), h.obag⟩
/-- what stands in cells stays where cells stay -/
theorem BagSt.ck (h : BagSt o p th m A cs w) (k : CK w w') (hs : w.heap.size ≤ w'.heap.size) : BagSt o p th m A cs w' := by
  rcases h with ⟨h1, bb, h2, ca, hs', g, h4⟩ | ⟨h1, h2, h3, h4⟩
  · exact .inl ⟨h1, bb, h2, ca, hs', ⟨(k _ _ g.cmp).1, (k _ _ g.heap).1, (k _ _ g.next).1, k.there g.th, k.ow g.ow, g.apart, fun a ha => Nat.lt_of_lt_of_le (g.old a ha) hs⟩, h4⟩
  · refine .inr ⟨h1, h2, h3, ?_⟩
    rcases h4 with h4 | ⟨bz, h4, h5⟩
    · exact .inl h4
    · exact .inr ⟨bz, h4, (k _ _ h5).1⟩
theorem PSt.ck (h : PSt own i bl off p th o m cs A Ar cr w) (k : CK w w') (hs : w.heap.size ≤ w'.heap.size) : PSt own i bl off p th o m cs A Ar cr w' :=
  ⟨(k _ _ h.c0).1, (k _ _ h.c1).1, (k _ _ h.c2).1, (k _ _ h.c3).1, k.there h.th4, k.sl h.sl, h.osl, h.bag.ck k hs, h.obag⟩
/-- what belongs to none of it is written -/
theorem PSt.away {S : Nat → Prop} (h : PSt own i bl off p th o m cs A Ar cr w) (k : Keep S w w') (hb : ¬ S bl) (hS : ∀ n, S n → own n ≠ i ∧ own n ≠ 9) : PSt own i bl off p th o m cs A Ar cr w' :=
  ⟨k.cell h.c0 hb, k.cell h.c1 hb, k.cell h.c2 hb, k.cell h.c3 hb, k.there h.th4 hb, h.sl.keep2 k (fun hne ⟨a, ha, hs⟩ => (hS _ hs).2 (h.osl (fun e => hne (by rw [e]; rfl)) a ha)), h.osl,
    h.bag.keep k (fun a ha hs => (hS _ hs).1 (h.obag.1 a ha)) (fun a ha hs => (hS _ hs).1 (h.obag.2 a ha)), h.obag⟩
theorem PSt.agree (h : PSt own i bl off p th o m cs A Ar cr w) (ha : Agree own own' w) : PSt own' i bl off p th o m cs A Ar cr w := by
  obtain ⟨l0, l1, l2, l3⟩ := h.lts
  exact ⟨h.c0, h.c1, h.c2, h.c3, h.th4, h.sl, fun hne a ha' => (ha _ (l3 hne a ha')).trans (h.osl hne a ha'), h.bag, ⟨fun a ha' => (ha _ (l1 a ha')).trans (h.obag.1 a ha'), fun a ha' => (ha _ (l2 a ha')).trans (h.obag.2 a ha')⟩⟩
end
end Go.Proofs.Ytnofckgnnpmiiaa

/- 'added': elements come to a pair's bag; the reference's bag follows. -/
namespace Go.Proofs.Ytnofckgnnpmiiaa
open Go.RowKit Go.Shelf
attribute [local go_sem ↓] Go.wp_at_zero Go.wp_at_succ

/-- three cells of one block are written -/
theorem three_cells {w : World} {b k : Nat} {x0 x1 x2 : Value} (h0 : w.cell? ⟨b, k + 1, none⟩ = some x0) (h1 : w.cell? ⟨b, k + 2, none⟩ = some x1) (h2 : w.cell? ⟨b, k + 3, none⟩ = some x2) (v0 v1 v2 : Value) :
    ∃ W, W = ((w.setCell ⟨b, k + 1, none⟩ v0).setCell ⟨b, k + 2, none⟩ v1).setCell ⟨b, k + 3, none⟩ v2 ∧ Keep (fun i => i = b) w W ∧
      W.cell? ⟨b, k + 1, none⟩ = some v0 ∧ W.cell? ⟨b, k + 2, none⟩ = some v1 ∧ W.cell? ⟨b, k + 3, none⟩ = some v2 ∧ (∀ j, (j < k + 1 ∨ k + 4 ≤ j) → W.cell? ⟨b, j, none⟩ = w.cell? ⟨b, j, none⟩) ∧ (∀ o n, w.there b o n → W.there b o n) := by
  refine ⟨_, rfl, (((Keep.refl (fun i => i = b) w).setCell (fun _ => rfl) _).setCell (fun _ => rfl) _).setCell (fun _ => rfl) _, ?_, ?_, ?_, fun j hj => ?_, fun o n ht => there_setCell (there_setCell (there_setCell ht _ _) _ _) _ _⟩
  · rw [World.cell?_setCell_other _ _ _ _ (by simp), World.cell?_setCell_other _ _ _ _ (by simp)]
    exact World.cell?_setCell_same _ _ _ h0
  · rw [World.cell?_setCell_other _ _ _ _ (by simp)]
    exact World.cell?_setCell_same _ _ _ ((World.cell?_setCell_other _ _ _ _ (by simp)).trans h1)
  · exact World.cell?_setCell_same _ _ _ ((World.cell?_setCell_other _ _ _ _ (by simp)).trans ((World.cell?_setCell_other _ _ _ _ (by simp)).trans h2))
  · rw [World.cell?_setCell_other _ _ _ _ (fun e => by simp only [Addr.mk.injEq] at e; omega), World.cell?_setCell_other _ _ _ _ (fun e => by simp only [Addr.mk.injEq] at e; omega), World.cell?_setCell_other _ _ _ _ (fun e => by simp only [Addr.mk.injEq] at e; omega)]

/-- the owners behind a step of bag i, whose heap is then at A -/
def ownX (B : Nat) (own : Nat → Nat) (A : Option Addr) (i k : Nat) : Nat := if k < B then own k else match A with
  | some a => if a.block = k then i else 9
  | none => 9
theorem ownX_old {B i k : Nat} {own : Nat → Nat} {A : Option Addr} (h : k < B) : ownX B own A i k = own k := by unfold ownX; rw [if_pos h]
theorem ownX_at {B i : Nat} {own : Nat → Nat} {a : Addr} (h : B ≤ a.block) : ownX B own (some a) i a.block = i := by unfold ownX; rw [if_neg (by omega)]; simp
theorem ownX_new {B i k : Nat} {own : Nat → Nat} {A : Option Addr} (h : B ≤ k) (hA : ∀ a, A = some a → a.block ≠ k) : ownX B own A i k = 9 := by
  unfold ownX
  rw [if_neg (by omega)]
  cases A with
  | none => rfl
  | some a => simp [hA a rfl]
/-- what has come to it -/
def comeTo (th : Bool) (cs : List (Held Item)) (m : Nat) (xs : List Item) : List (Held Item) := if th then cs ++ heldFrom (m : Int) xs else cs

def AddedPost (own : Nat → Nat) (i bl off : Nat) (p : Option Addr) (th : Bool) (o : Int) (m L : Nat) (cs : List (Held Item)) (A : Option Addr) (xs : List Item) (w w' : World) : Prop :=
  ∃ own' m' A' Ar' cr', Agree own own' w ∧ PSt own' i bl off p th o m' (comeTo th cs m xs) A' Ar' cr' w' ∧ m' ≤ m + L ∧ PK own i bl off w w' ∧ (∀ a, A' = some a → AtB A a.block ∨ w.heap.size ≤ a.block) ∧ Keep (fun k => Fp p A k ∨ k = bl) w w'
set_option maxRecDepth 100000 in
set_option maxHeartbeats 8000000 in
theorem added_ok {own : Nat → Nat} {i bl off m cr : Nat} {p A Ar : Option Addr} {th : Bool} {o : Int} {cs : List (Held Item)} (X : Option Addr) (cx L : Nat) (xs : List Item) (on kd nn : Int) (w : World)
   (h : PSt own i bl off p th o m cs A Ar cr w) (hi : i < 9) (hbl : own bl = 10) (hL : xs.length = L) (hx : Sl EI w X cx xs) (hX : xs ≠ [] → ∀ a, X = some a → own a.block = 9) (hl : cs.length + L ≤ 100000000) (hm : m + L ≤ 100000000) :
    Calls Try.prog 34 #[.pointer (some ⟨bl, off, none⟩), .agg #[.int .i64 on, .int .i64 kd, .int .i64 nn, .slice X L cx]] w fun e w' => e = .returned (.bool true) ∧ AddedPost own i bl off p th o m L cs A xs w w' := by
  have H := Lib.hid h
  have HI := Lib.hid (And.intro hi hbl)
  have HX := Lib.hid hX
  have HXL := Lib.hid hL
  have HXS := Lib.hid hx
  have HB := Lib.hid (And.intro hl hm)
  have hlx := hx.le
  have hcx := hx.cap
  rw [hL] at hlx
  clear h hi hbl hX hL hx hl hm
  obtain ⟨bo, HBO⟩ : ∃ bo, Hid (w.heap.size = bo) := ⟨_, Lib.hid rfl⟩
  obtain ⟨w1, HW1⟩ : ∃ w1, Hid (w.alloc (.cells #[.int .i64 on, .int .i64 kd, .int .i64 nn, .slice X L cx] 64) = w1) := ⟨_, Lib.hid rfl⟩
  have HK1 : Hid (Keep nob w w1) := by unfold Hid; rw [← HW1.out]; exact (Keep.refl nob w).alloc _
  have o3 : w1.cell? ⟨bo, 3, none⟩ = some (.slice X L cx) := by rw [← HW1.out, ← HBO.out]; simp
  have HBLT : Hid (bl < bo) := by unfold Hid; rw [← HBO.out]; exact H.out.lts.1
  have HO3 := Lib.hid o3
  go_enter Try.func34, Try.ntmps34
  go_upto_region 1 with (fail)
  rw [HW1.out, HBO.out]
  go_upto_region 2 with (go_at_call 12; go_must (refine (lend_ok X cx L xs w1 HXL.out (HXS.out.keep HK1.out (nobIn _)) (by have := HB.out; omega)).mono ?_); rintro e w2 ⟨bt, rfl, hbt, hbt2, ho, hk⟩; have HBT := Lib.hid (And.intro hbt hbt2); have HOT := Lib.hid ho; have HK2 := Lib.hid hk; clear hbt hbt2 ho hk)
  have HK12 : Hid (Keep nob w w2) := HK1.out.then_ HK2.out
  have HP2 : Hid (PSt own i bl off p th o m cs A Ar cr w2) := H.out.kept HK12.out
  have q0 := HP2.out.c0
  have HBTB : Hid (bo < bt) := by
    have h1 := HBT.out.1
    rw [← HW1.out, World.size_alloc, HBO.out] at h1
    exact h1
  have HTS : Hid (Sl EI w2 (some ⟨bt, 0, none⟩) (L + 4) xs) := by
    have := HOT.out.sl.take L
    rw [← HXL.out, List.take_left, HXL.out] at this
    exact this
  have HAD : Hid (Calls Try.prog 40 #[.pointer p, .slice (some ⟨bt, 0, none⟩) L (L + 4)] w2 fun e w' => e = .returned (.tuple #[]) ∧ ∃ A' m', m' ≤ m + L ∧ BagSt o p th m' A' (comeTo th cs m xs) w' ∧ (∀ a, A' = some a → AtB A a.block ∨ w2.heap.size ≤ a.block) ∧ Keep (Fp p A) w2 w') := by
    refine HP2.out.bag.add (some ⟨bt, 0, none⟩) (L + 4) L xs HXL.out HTS.out (fun _ a ha hk => ?_) (by have := HB.out; omega) (by have := HB.out; omega)
    obtain rfl := Option.some.inj ha
    obtain ⟨-, l1, l2, -⟩ := H.out.lts
    have h1 := HBTB.out
    have h2 := HBO.out
    rcases hk with ⟨a, ha, e⟩ | ⟨a, ha, e⟩
    · have := l1 a ha
      have e' : a.block = bt := e
      omega
    · have := l2 a ha
      have e' : a.block = bt := e
      omega
  go_upto_region 3 with (go_at_call 40; go_must (refine HAD.out.mono ?_); rintro e w3 ⟨rfl, A', m', hm', hb, hA', hk⟩; have HM := Lib.hid hm'; have HBG := Lib.hid hb; have HAA := Lib.hid hA'; have HK3 := Lib.hid hk; clear hm' hb hA' hk)
  clear HAD q0
  -- what the bag's step leaves
  have HFP : Hid (∀ k, Fp p A k → own k = i ∧ k < bo) := fun k hk => by
    obtain ⟨-, l1, l2, -⟩ := H.out.lts
    have h2 := HBO.out
    rcases hk with ⟨a, ha, e⟩ | ⟨a, ha, e⟩
    · have h1 := l1 a ha
      rw [← e]
      exact ⟨H.out.obag.1 a ha, by omega⟩
    · have h1 := l2 a ha
      rw [← e]
      exact ⟨H.out.obag.2 a ha, by omega⟩
  have hnl : ¬ Fp p A bl := fun hk => by have h1 := (HFP.out bl hk).1; have h2 := HI.out; omega
  have hno : ¬ Fp p A bo := fun hk => by have h1 := (HFP.out bo hk).2; omega
  have hnt : ¬ Fp p A bt := fun hk => by have h1 := (HFP.out bt hk).2; have h2 := HBTB.out; omega
  have c1 := HK3.out.cell HP2.out.c1 hnl
  have c2 := HK3.out.cell HP2.out.c2 hnl
  have c3 := HK3.out.cell HP2.out.c3 hnl
  have HTH3 : Hid (w3.there bl off 4) := HK3.out.there HP2.out.th4 hnl
  have o3' := HK3.out.cell (HK2.out.cell HO3.out (fun h => h)) hno
  have HSR : Hid (Sl EI w3 Ar cr (cs.map (·.1))) := HP2.out.sl.keep2 HK3.out (fun hne ⟨a, ha, hf⟩ => by
    have hne' : cs ≠ [] := fun e => hne (by rw [e]; rfl)
    have h1 := (HFP.out _ hf).1
    have h2 := H.out.osl hne' a ha
    have h3 := HI.out
    omega)
  have HXS3 : Hid (Sl EI w3 X cx xs) := (HXS.out.keep HK12.out (nobIn _)).keep2 HK3.out (fun hne ⟨a, ha, hf⟩ => by
    have h1 := (HFP.out _ hf).1
    have h2 := HX.out hne a ha
    have h3 := HI.out
    omega)
  have HOT3 : Hid (Ow EI w3 (some ⟨bt, 0, none⟩) (L + 4) (xs ++ mks)) := HOT.out.keep HK3.out (fun ⟨a, ha, hf⟩ => by obtain rfl := Option.some.inj ha; exact hnt hf)
  clear HOT HTS hnl hno hnt
  go_upto_region 3 with (fail)
  have HS3 : Hid (∀ w', Keep nob w3 w' → w'.cell? ⟨bl, off + 1, none⟩ = some (.bool th) ∧ w'.cell? ⟨bl, off + 2, none⟩ = some (.int .i64 o) ∧ w'.cell? ⟨bl, off + 3, none⟩ = some (.slice Ar cs.length cr) ∧ w'.cell? ⟨bo, 3, none⟩ = some (.slice X L cx)) := fun w' hk =>
    ⟨hk.cell c1 (fun h => h), hk.cell c2 (fun h => h), hk.cell c3 (fun h => h), hk.cell o3' (fun h => h)⟩
  obtain ⟨n, HN⟩ : ∃ n, Hid (cs.length = n) := ⟨_, Lib.hid rfl⟩
  have HADD : Hid (∀ w', Keep nob w3 w' → Calls Try.prog 66 #[.agg #[.bool th, .int .i64 o, .slice Ar n cr], .slice X L cx] w' fun e w'' => ∃ (n' : Nat) (Ar' : Option Addr) (cr' : Nat), n' = (comeTo th cs m xs).length ∧ e = .returned (.agg #[.bool th, .int .i64 o, .slice Ar' n' cr']) ∧ Keep nob w' w'' ∧
      Sl EI w'' Ar' cr' ((comeTo th cs m xs).map (·.1)) ∧ ((comeTo th cs m xs) ≠ [] → ∀ a, Ar' = some a → (th = false ∧ Ar' = Ar) ∨ w'.heap.size ≤ a.block)) := fun w' hk => by
    have h := refadd_ok th o Ar X cr n cx L (cs.map (·.1)) xs w' (by rw [List.length_map, HN.out]) (HSR.out.keep hk (nobIn _)) HXL.out (HXS3.out.keep hk (nobIn _)) (by have := HB.out; have := HN.out; omega) (by have := HB.out; omega)
    refine h.mono ?_
    rintro e w'' ⟨hk', ⟨ht, he⟩ | ⟨ht, A2, c2, he, hnew⟩⟩
    · subst ht
      exact ⟨n, Ar, cr, by rw [← HN.out]; rfl, he, hk', (HSR.out.keep hk (nobIn _)).keep hk' (nobIn _), fun _ _ _ => .inl ⟨rfl, rfl⟩⟩
    · subst ht
      have e1 : (comeTo true cs m xs).map (·.1) = cs.map (·.1) ++ xs := by unfold comeTo; rw [if_pos rfl, List.map_append, heldFrom_map]
      have e2 : (comeTo true cs m xs).length = n + L := by rw [← List.length_map (f := (·.1)), e1, List.length_append, List.length_map, HN.out, HXL.out]
      refine ⟨n + L, A2, c2, e2.symm, he, hk', by rw [e1]; exact hnew.1, fun hne a ha => .inr (hnew.2 (fun e => hne ?_) a ha)⟩
      exact List.map_eq_nil_iff.1 (e1.trans e)
  rw [HN.out] at HS3
  refine wp_region_grow [(true, 0), (true, 1), (true, 2), (true, 3), (true, 4), (true, 5), (true, 6), (false, 7)] 8 #[true, true, true, true, true, true, true, true, false, false, false]
    (fun w' => w'.cell? ⟨bl, off + 1, none⟩ = some (.bool th) ∧ w'.cell? ⟨bl, off + 2, none⟩ = some (.int .i64 o) ∧ w'.cell? ⟨bl, off + 3, none⟩ = some (.slice Ar n cr) ∧ w'.cell? ⟨bo, 3, none⟩ = some (.slice X L cx)) (by kernel_rfl) (by kernel_rfl) (by kernel_rfl) (by rfl) (fun _ _ _ _ _ h => h) (HS3.out _ ((Keep.refl nob w3).drew)) ?_
  simp only [List.take_succ_cons, List.take_zero, List.map_cons, List.map_nil]
  repeat
    (refine veilG_take ?_ (by rfl) ?_ ?_
     rotate_left
     · intro w' hS; obtain ⟨s1, s2, s3, s4⟩ := hS; go_simp; try (with_reducible rfl)
     simp only [Act.put, List.setIfInBounds_toArray, List.set_cons_zero, List.set_cons_succ])
  refine veilG_solo (fun K' hK => ?_)
  go_simp
  refine (HADD.out _ ((Keep.refl nob w3).drew)).mono ?_
  rintro e w4 ⟨n', Ar', cr', hn', rfl, hk, hs, hfr⟩
  have HK4 : Hid (Keep nob w3 w4) := hk.of_drew
  have HN' := Lib.hid hn'
  have HSA := Lib.hid hs
  have HFR := Lib.hid hfr
  obtain ⟨s1, s2, s3, s4⟩ := HS3.out w4 HK4.out
  refine hK _ _ ⟨s1, s2, s3, s4⟩ ?_
  clear hK K' hk hs hfr hn'
  refine veilG_nil ?_
  refine wpAny_forced (n := 8) (by kernel_rfl) ?_
  simp only [List.drop_succ_cons, List.drop_zero]
  have HTH4 : Hid (w4.there bl off 4) := HK4.out.there HTH3.out (fun h => h)
  have fz1 : w4.frozen? ⟨bl, off + 1, none⟩ = false := (HTH4.out 1 (by decide)).2
  have fz2 : w4.frozen? ⟨bl, off + 2, none⟩ = false := (HTH4.out 2 (by decide)).2
  have fz3 : w4.frozen? ⟨bl, off + 3, none⟩ = false := (HTH4.out 3 (by decide)).2
  obtain ⟨w5, HW5, HK5, d1, d2, d3, HR5, HT5⟩ := three_cells (k := off) s1 s2 s3 (.bool th) (.int .i64 o) (.slice Ar' n' cr')
  replace HW5 := Lib.hid HW5.symm
  replace HK5 := Lib.hid HK5
  replace HR5 := Lib.hid HR5
  replace HT5 := Lib.hid HT5
  have HD := Lib.hid (And.intro d1 (And.intro d2 d3))
  clear d1 d2 d3 c1 c2 c3 o3'
  go_upto_region 4 with (fail)
  rw [HW5.out]
  have hbo : ¬ (bo = bl) := by have := HBLT.out; omega
  have hbt : ¬ (bt = bl) := by have := HBLT.out; have := HBTB.out; omega
  have g3 := HK5.out.cell s4 hbo
  have HOT5 : Hid (Ow EI w5 (some ⟨bt, 0, none⟩) (L + 4) (xs ++ mks)) := (HOT3.out.keep HK4.out (nobIn _)).keep HK5.out (fun ⟨a, ha, e⟩ => by obtain rfl := Option.some.inj ha; exact hbt e)
  have HXS5 : Hid (Sl EI w5 X cx xs) := (HXS3.out.keep HK4.out (nobIn _)).keep2 HK5.out (fun hne ⟨a, ha, e⟩ => by
    have h1 := HX.out hne a ha
    have h2 := HI.out.2
    rw [show a.block = bl from e] at h1
    omega)
  clear s1 s2 s3 s4 fz1 fz2 fz3 hbo
  go_upto_region 5 with (go_at_call 18; go_must (refine (left_ok X bt cx L xs w5 HXL.out HOT5.out HXS5.out (by have := HB.out; omega)).mono ?_); rintro e w6 ⟨rfl, hk⟩; have HK6 := Lib.hid hk; clear hk)
  have HOT6 : Hid (Ow EI w6 (some ⟨bt, 0, none⟩) (L + 4) (xs ++ mks)) := HOT5.out.keep HK6.out (nobIn _)
  have HLEN : Hid ((xs ++ mks).length = L + 4) := by unfold Hid; rw [List.length_append, HXL.out]; rfl
  have hLb : (L : Int) ≤ 100000000 := by have := HB.out; omega
  clear g3
  go_wp2_with (fail)
  go_loopw [7] (fun u7 wr => ∃ (j : Nat) (ys : List Item), j ≤ L ∧ u7 = .int .i64 (j : Int) ∧ Hid (ys.length = L + 4) ∧ Hid (Ow EI wr (some ⟨bt, 0, none⟩) (L + 4) ys) ∧ Hid (Keep (fun k => k = bt) w6 wr)) (fun u7 _ => ((L : Int) - intOf u7).toNat)
  case atStart => exact ⟨0, _, Nat.zero_le _, rfl, HLEN, HOT6, Keep.refl _ _⟩
  case round =>
    obtain ⟨j, ys, hj, rfl, HYL, HOW, HKW⟩ := hrel
    by_cases hlt : j < L
    · have hj0 : (0 : Int) ≤ (j : Int) := by omega
      have hj1 : (j : Int) < (L : Int) := by omega
      have ht : wr.there bt (0 + j * 2) 2 := by
        obtain ⟨b', o', e', ht⟩ := HOW.out.room (by omega)
        simp only [Option.some.injEq, Addr.mk.injEq, and_true] at e'
        obtain ⟨rfl, rfl⟩ := e'
        exact there_sub ht (by omega) (by show 0 + j * 2 + 2 ≤ 0 + (L + 4) * 2; omega)
      have HN : Hid (Ow EI (wr.setCells bt (0 + j * 2) (EI.cells (-99, -99))) (some ⟨bt, 0, none⟩) (L + 4) (ys.set j (-99, -99))) := HOW.out.put (by rw [HYL.out]; omega) (-99, -99)
      have HKN : Hid (Keep (fun k => k = bt) w6 (wr.setCells bt (0 + j * 2) (EI.cells (-99, -99)))) := HKW.out.then_ ((Keep.refl (fun k => k = bt) wr).setCells _ _ (fun _ => rfl))
      rw [Nat.zero_add] at ht HN HKN
      go_wp2_with (refine wpList_store_mid rfl 27 _ _ rfl bt (j * 2) #[.int .i64 (-99), .int .i64 (-99)] rfl rfl ht (by kernel_rfl) (all_oneCell_toArray (EI.one (-99, -99))) ?_; simp only [Act.put])
      exact ⟨⟨j + 1, _, hlt, by go_num, by unfold Hid; rw [List.length_set]; exact HYL.out, HN, HKN⟩, by simp [intOf]; omega⟩
    · go_wp2_with (fail)
      go_ret
      obtain ⟨lb, lp, lA, lAr⟩ := H.out.lts
      rw [HBO.out] at lb lp lA lAr
      have hbl10 := HI.out.2
      have hi9 := HI.out.1
      have hnl : ¬ Fp p A bl := fun hk => by have h1 := (HFP.out bl hk).1; omega
      have hbtb := HBTB.out
      have hbt2 := HBT.out.2
      have hs23 : w2.heap.size ≤ w3.heap.size := HK3.out.size
      have k3r : Keep (fun k => k = bl ∨ k = bt) w3 wr := (((HK4.out.mono (fun _ _ h => h.elim)).then_ (HK5.out.mono (fun _ _ h => .inl h))).then_ (HK6.out.mono (fun _ _ h => h.elim))).then_ (HKW.out.mono (fun _ _ h => .inr h))
      have k5r : Keep (fun k => k = bt) w5 wr := (HK6.out.mono (fun _ _ h => h.elim)).then_ HKW.out
      have hlb : ¬ (bl = bt) := by omega
      have hold : ∀ j v, (j < off ∨ off + 4 ≤ j) → w2.cell? ⟨bl, j, none⟩ = some v → wr.cell? ⟨bl, j, none⟩ = some v := fun j v hj hc =>
        k5r.cell ((HR5.out j (by omega)).trans (HK4.out.cell (HK3.out.cell hc hnl) (fun h => h))) hlb
      have hthr : ∀ o n, w2.there bl o n → wr.there bl o n := fun o n ht => k5r.there (HT5.out _ _ (HK4.out.there (HK3.out.there ht hnl) (fun h => h))) hlb
      refine ⟨rfl, ownX bo own A' i, m', A', Ar', cr', fun k hk => ownX_old (by rw [← HBO.out]; exact hk), ?_, HM.out, ?_, ?_, ?_⟩
      · refine ⟨?_, k5r.cell HD.out.1 hlb, k5r.cell HD.out.2.1 hlb, ?_, hthr _ _ HP2.out.th4, ?_, ?_, ?_, ?_, ?_⟩
        · exact k5r.cell ((HR5.out off (by omega)).trans (HK4.out.cell (HK3.out.cell HP2.out.c0 hnl) (fun h => h))) hlb
        · rw [← HN'.out]
          exact k5r.cell HD.out.2.2 hlb
        · have k4r : Keep (fun k => k = bl ∨ k = bt) w4 wr := (HK5.out.mono (fun _ _ h => .inl h)).then_ (k5r.mono (fun _ _ h => .inr h))
          refine HSA.out.keep2 k4r (fun hne ⟨a, ha, hs⟩ => ?_)
          have hne' : comeTo th cs m xs ≠ [] := fun e => hne (by rw [e]; rfl)
          rcases HFR.out hne' a ha with ⟨ht, e⟩ | hge
          · have hcs : cs ≠ [] := by rw [ht] at hne'; exact hne'
            rw [e] at ha
            have h1 := H.out.osl hcs a ha
            have h2 := lAr hcs a ha
            rcases hs with hs | hs
            · rw [hs] at h1; omega
            · omega
          · have h3 : w3.heap.size ≤ a.block := hge
            rcases hs with hs | hs <;> omega
        · intro hne a ha
          rcases HFR.out hne a ha with ⟨ht, e⟩ | hge
          · have hcs : cs ≠ [] := by rw [ht] at hne; exact hne
            rw [e] at ha
            rw [ownX_old (lAr hcs a ha)]
            exact H.out.osl hcs a ha
          · have h3 : w3.heap.size ≤ a.block := hge
            refine ownX_new (by omega) (fun a' ha' e => ?_)
            have h4 := (HBG.out.lt.2 a' ha').1
            omega
        · refine HBG.out.keep k3r (fun a ha hs => ?_) (fun a ha hs => ?_)
          · have h1 := H.out.obag.1 a ha
            have h2 := lp a ha
            rcases hs with hs | hs
            · rw [hs] at h1; omega
            · omega
          · rcases HAA.out a ha with ⟨a0, h0, e⟩ | hge
            · have h1 := H.out.obag.2 a0 h0
              have h2 := lA a0 h0
              rw [e] at h1 h2
              rcases hs with hs | hs
              · rw [hs] at h1; omega
              · omega
            · rcases hs with hs | hs <;> omega
        · exact fun a ha => by rw [ownX_old (lp a ha)]; exact H.out.obag.1 a ha
        · intro a ha
          rcases HAA.out a ha with ⟨a0, h0, e⟩ | hge
          · have h1 := H.out.obag.2 a0 h0
            have h2 := lA a0 h0
            rw [e] at h1 h2
            rw [ownX_old h2]
            exact h1
          · subst ha
            exact ownX_at (by omega)
      · refine ⟨?_, fun j v hj hc => hold j v hj (HK12.out.cell hc (fun h => h)), fun o n ht => hthr o n (HK12.out.there ht (fun h => h))⟩
        have ka : Keep (fun k => own k = i ∨ k = bl) w w2 := HK12.out.mono (fun _ _ h => h.elim)
        have kb : Keep (fun k => own k = i ∨ k = bl) w w3 := ka.trans HK3.out (fun k _ hk => .inl (HFP.out k hk).1)
        refine kb.trans k3r (fun k hk h => ?_)
        rcases h with h | h
        · exact .inr h
        · have := HBO.out
          omega
      · intro a ha
        rcases HAA.out a ha with h | h
        · exact .inl h
        · have := HBO.out
          exact .inr (by omega)
      · have ka : Keep (fun k => Fp p A k ∨ k = bl) w w3 := (HK12.out.mono (fun _ _ h => h.elim)).then_ (HK3.out.mono (fun _ _ h => .inl h))
        refine ka.trans k3r (fun k hk h => ?_)
        rcases h with h | h
        · exact .inr h
        · have := HBO.out
          omega
end Go.Proofs.Ytnofckgnnpmiiaa

/- 'took': an element goes from a pair's bag; the reference's bag follows. -/
namespace Go.Proofs.Ytnofckgnnpmiiaa
open Go.RowKit Go.Shelf
attribute [local go_sem ↓] Go.wp_at_zero Go.wp_at_succ

/-- the pair behind a step that may have written its bag, then the reference's part of it -/
theorem PSt.step {own : Nat → Nat} {i bl off m cr cr' : Nat} {p A Ar Ar' : Option Addr} {th : Bool} {o : Int} {cs cs' : List (Held Item)} {w w2 w3 w4 W : World} (h : PSt own i bl off p th o m cs A Ar cr w) (hi : i < 9) (hbl : own bl = 10)
   (k1 : Keep nob w w2) (k2 : Keep (Fp p A) w2 w3) (hb : BagSt o p th m A cs' w3) (k3 : Keep nob w3 w4) (hs : Sl EI w2 Ar' cr' (cs'.map (·.1))) (hf : cs' ≠ [] → ∀ a, Ar' = some a → (own a.block = 9 ∧ a.block < w.heap.size) ∨ w.heap.size ≤ a.block)
   (k4 : Keep (fun k => k = bl) w4 W) (d1 : W.cell? ⟨bl, off + 1, none⟩ = some (.bool th)) (d2 : W.cell? ⟨bl, off + 2, none⟩ = some (.int .i64 o)) (d3 : W.cell? ⟨bl, off + 3, none⟩ = some (.slice Ar' cs'.length cr'))
   (hr : ∀ j, (j < off + 1 ∨ off + 4 ≤ j) → W.cell? ⟨bl, j, none⟩ = w4.cell? ⟨bl, j, none⟩) (ht : ∀ o n, w4.there bl o n → W.there bl o n) :
    ∃ own', Agree own own' w ∧ PSt own' i bl off p th o m cs' A Ar' cr' W ∧ PK own i bl off w W ∧ Keep (fun k => Fp p A k ∨ k = bl) w W := by
  obtain ⟨lb, lp, lA, lAr⟩ := h.lts
  have hFP : ∀ k, Fp p A k → own k = i ∧ k < w.heap.size := fun k hk => by
    rcases hk with ⟨a, ha, e⟩ | ⟨a, ha, e⟩
    · rw [← e]; exact ⟨h.obag.1 a ha, lp a ha⟩
    · rw [← e]; exact ⟨h.obag.2 a ha, lA a ha⟩
  have hnl : ¬ Fp p A bl := fun hk => by have h1 := (hFP bl hk).1; omega
  have k34 : Keep (fun k => k = bl) w3 W := (k3.mono (fun _ _ h => h.elim)).then_ k4
  have hold : ∀ j v, (j < off + 1 ∨ off + 4 ≤ j) → w.cell? ⟨bl, j, none⟩ = some v → W.cell? ⟨bl, j, none⟩ = some v := fun j v hj hc => (hr j hj).trans (k3.cell (k2.cell (k1.cell hc (fun h => h)) hnl) (fun h => h))
  have hthr : ∀ o n, w.there bl o n → W.there bl o n := fun o n hh => ht _ _ (k3.there (k2.there (k1.there hh (fun h => h)) hnl) (fun h => h))
  refine ⟨ownX w.heap.size own none i, fun k hk => ownX_old hk, ⟨hold _ _ (by omega) h.c0, d1, d2, d3, hthr _ _ h.th4, ?_, ?_, ?_, ?_, ?_⟩, ⟨?_, fun j v hj hc => hold j v (by omega) hc, hthr⟩, ((k1.mono (fun _ _ h => h.elim)).then_ (k2.mono (fun _ _ h => .inl h))).then_ (k34.mono (fun _ _ h => .inr h))⟩
  · have k24 : Keep (fun k => Fp p A k ∨ k = bl) w2 W := (k2.mono (fun _ _ h => .inl h)).then_ (k34.mono (fun _ _ h => .inr h))
    refine hs.keep2 k24 (fun hne ⟨a, ha, hk⟩ => ?_)
    have hne' : cs' ≠ [] := fun e => hne (by rw [e]; rfl)
    rcases hf hne' a ha with ⟨h1, h2⟩ | h1
    · rcases hk with hk | hk
      · have := (hFP _ hk).1; omega
      · rw [hk] at h1; omega
    · rcases hk with hk | hk
      · have := (hFP _ hk).2; omega
      · omega
  · intro hne a ha
    rcases hf hne a ha with ⟨h1, h2⟩ | h1
    · rw [ownX_old h2]; exact h1
    · exact ownX_new h1 (fun _ h => by cases h)
  · refine hb.keep k34 (fun a ha hk => ?_) (fun a ha hk => ?_)
    · have h1 := h.obag.1 a ha
      rw [hk] at h1; omega
    · have h1 := h.obag.2 a ha
      rw [hk] at h1; omega
  · exact fun a ha => by rw [ownX_old (lp a ha)]; exact h.obag.1 a ha
  · exact fun a ha => by rw [ownX_old (lA a ha)]; exact h.obag.2 a ha
  · have ka : Keep (fun k => own k = i ∨ k = bl) w w2 := k1.mono (fun _ _ h => h.elim)
    have kb : Keep (fun k => own k = i ∨ k = bl) w w3 := ka.trans k2 (fun k _ hk => .inl (hFP k hk).1)
    exact kb.trans k34 (fun k _ hk => .inr hk)

def TookPost (own : Nat → Nat) (i bl off : Nat) (p : Option Addr) (th : Bool) (o : Int) (m : Nat) (cs : List (Held Item)) (A : Option Addr) (w w' : World) : Prop :=
  ∃ own' cs' Ar' cr', Agree own own' w ∧ PSt own' i bl off p th o m cs' A Ar' cr' w' ∧ (cs = [] → cs' = []) ∧ (cs ≠ [] → cs'.length + 1 = cs.length) ∧ PK own i bl off w w' ∧ Keep (fun k => Fp p A k ∨ k = bl) w w'
set_option maxRecDepth 100000 in
set_option maxHeartbeats 8000000 in
theorem took_ok {own : Nat → Nat} {i bl off m cr : Nat} {p A Ar : Option Addr} {th : Bool} {o : Int} {cs : List (Held Item)} (w : World)
   (h : PSt own i bl off p th o m cs A Ar cr w) (hi : i < 9) (hbl : own bl = 10) (hl : cs.length ≤ 100000000) :
    Calls Try.prog 35 #[.pointer (some ⟨bl, off, none⟩)] w fun e w' => e = .returned (.bool true) ∧ TookPost own i bl off p th o m cs A w w' := by
  have H := Lib.hid h
  have HI := Lib.hid (And.intro hi hbl)
  have HB := Lib.hid hl
  obtain ⟨n, HN⟩ : ∃ n, Hid (cs.length = n) := ⟨_, Lib.hid rfl⟩
  have c0 := h.c0
  have c1 := h.c1
  have c2 := h.c2
  have c3 := h.c3
  rw [HN.out] at c3
  have HASC : Hid (cs.Pairwise (fun a b => a.2 < b.2)) := h.bag.asc
  have HRT : Hid (Calls Try.prog 67 #[.agg #[.bool th, .int .i64 o, .slice Ar n cr]] w fun e w' => Keep nob w w' ∧ ∃ (x : Item) (n' : Nat) (A' : Option Addr) (c' : Nat) (f : Bool) (L' : List Item), e = .returned (.tuple #[.agg #[.bool th, .int .i64 o, .slice A' n' c'], EI.val x, .bool f]) ∧ L'.length = n' ∧ Sl EI w' A' c' L' ∧
      (L' ≠ [] → ∀ a, A' = some a → (own a.block = 9 ∧ a.block < w.heap.size) ∨ w.heap.size ≤ a.block) ∧ ((cs = [] ∧ x = (0, 0) ∧ f = false ∧ L' = []) ∨ (f = true ∧ cs ≠ [] ∧ ∀ z, z ∈ cs → (∀ y ∈ cs, leH (byC o) z y) → z.1 = x ∧ (cs.erase z).map (·.1) = L'))) := by
    refine (reftake_ok th o Ar cr n (cs.map (·.1)) w (by rw [List.length_map, HN.out]) h.sl (by have := HN.out; omega) (fun ht => by rw [h.bag.empty ht]; rfl)).mono ?_
    rintro e w' ⟨hk, ⟨h1, h2⟩ | ⟨s, x, A', c', h1, h2, h3, h4⟩⟩
    · have hcs : cs = [] := List.map_eq_nil_iff.1 h1
      have hn0 : n = 0 := by rw [← HN.out, hcs]; rfl
      subst hn0
      refine ⟨hk, (0, 0), 0, Ar, cr, false, [], h2, rfl, Sl.nil_ _ _ _ h.sl.cap, fun h => absurd rfl h, .inl ⟨hcs, rfl, rfl, rfl⟩⟩
    · refine ⟨hk, x, _, A', c', true, _, h3, rfl, h4.1, fun hne a ha => .inr (h4.2 hne a ha), .inr ⟨rfl, fun e => ?_, fun z hz hle => ?_⟩⟩
      · subst e
        have h5 := h1.mem x
        have h6 : x ∈ s := List.mem_of_getElem? h2
        exact absurd (h5.1 h6) (by simp)
      · have h5 := least_first (byC_keyed o) HASC.out hz hle h1
        rw [h2] at h5
        obtain rfl := Option.some.inj h5
        exact ⟨rfl, least_gone (byC_keyed o) HASC.out hz hle⟩
  clear h hi hbl hl
  simp only [EI] at HRT
  go_enter Try.func35, Try.ntmps35
  go_upto_region 2 with (go_at_call 67; go_must (refine HRT.out.mono ?_); rintro e w2 ⟨hk, ⟨xk, xn⟩, n', Ar', cr', f, L', rfl, hl', hs, hf, hor⟩; have HK2 := Lib.hid hk; have HL' := Lib.hid hl'; have HS' := Lib.hid hs; have HF' := Lib.hid hf; have HOR := Lib.hid hor; clear hk hl' hs hf hor)
  obtain ⟨w2b, HW2B⟩ : ∃ w2b, Hid ((w2.alloc (.cells #[.bool th, .int .i64 o, .slice Ar' n' cr'] 56)).alloc (.cells #[.int .i64 xk, .int .i64 xn] 27) = w2b) := ⟨_, Lib.hid rfl⟩
  have HK2B : Hid (Keep nob w2 w2b) := by unfold Hid; rw [← HW2B.out]; exact ((Keep.refl nob w2).alloc _).alloc _
  obtain ⟨b3, HB3⟩ : ∃ b3, Hid (w2.heap.size = b3) := ⟨_, Lib.hid rfl⟩
  have HB3L : Hid (w.heap.size ≤ b3) := by unfold Hid; rw [← HB3.out]; exact HK2.out.size
  have HR2 : Hid (w2b.cell? ⟨b3, 0, none⟩ = some (.bool th) ∧ w2b.cell? ⟨b3, 1, none⟩ = some (.int .i64 o) ∧ w2b.cell? ⟨b3, 2, none⟩ = some (.slice Ar' n' cr') ∧ w2b.cell? ⟨b3 + 1, 0, none⟩ = some (.int .i64 xk) ∧ w2b.cell? ⟨b3 + 1, 1, none⟩ = some (.int .i64 xn)) := by
    unfold Hid
    rw [← HW2B.out, ← HB3.out]
    exact ⟨by simp, by simp, by simp, by simp, by simp⟩
  rw [HW2B.out, HB3.out]
  have HKW : Hid (Keep nob w w2b) := HK2.out.then_ HK2B.out
  have HFP : Hid (∀ k, Fp p A k → own k = i ∧ k < w.heap.size) := fun k hk => by
    obtain ⟨lb, lp, lA, lAr⟩ := H.out.lts
    rcases hk with ⟨a, ha, e⟩ | ⟨a, ha, e⟩
    · rw [← e]; exact ⟨H.out.obag.1 a ha, lp a ha⟩
    · rw [← e]; exact ⟨H.out.obag.2 a ha, lA a ha⟩
  have HTK : Hid (Calls Try.prog 41 #[.pointer p] w2b fun e w' => e = .returned (.tuple #[.agg #[.int .i64 xk, .int .i64 xn], .bool f]) ∧ ∃ cs', BagSt o p th m A cs' w' ∧ cs'.map (·.1) = L' ∧ (cs = [] → cs' = []) ∧ (cs ≠ [] → cs'.length + 1 = cs.length) ∧ Keep (Fp p A) w2b w') := by
    refine ((H.out.bag.keep HKW.out (fun _ _ h => h) (fun _ _ h => h)).take (by have := HB.out; omega)).mono ?_
    rintro e w' (⟨h1, h2, h3⟩ | ⟨z, h1, h2, h3, h4, h5⟩)
    · rcases HOR.out with ⟨g1, g2, g3, g4⟩ | ⟨_, g2, _⟩
      · obtain ⟨rfl, rfl⟩ := Prod.mk.inj g2
        subst g3
        refine ⟨h2, [], ?_, by rw [g4]; rfl, fun _ => rfl, fun h => absurd h1 h, h3.mono (fun _ _ h => h.elim)⟩
        subst h1
        exact (H.out.bag.keep HKW.out (fun _ _ h => h) (fun _ _ h => h)).keep h3 (fun _ _ h => h) (fun _ _ h => h)
      · exact absurd h1 g2
    · rcases HOR.out with ⟨g1, g2, g3, g4⟩ | ⟨g1, g2, g3⟩
      · rw [g1] at h1; simp at h1
      · obtain ⟨e1, e2⟩ := g3 z h1 h2
        subst g1
        rw [e1] at h3
        exact ⟨h3, _, h4, e2, fun h => absurd h g2, fun _ => by rw [List.length_erase_of_mem h1]; have := List.length_pos_of_mem h1; omega, h5⟩
  have q0 := HKW.out.cell c0 (fun h => h)
  go_upto_region 3 with (go_at_call 41; go_must (refine HTK.out.mono ?_); rintro e w3 ⟨rfl, cs', hb, hm, he1, he2, hk⟩; have HBG := Lib.hid hb; have HMP := Lib.hid hm; have HE := Lib.hid (And.intro he1 he2); have HK3 := Lib.hid hk; clear hb hm he1 he2 hk)
  obtain ⟨w4, HW4⟩ : ∃ w4, Hid (w3.alloc (.cells #[.int .i64 xk, .int .i64 xn] 27) = w4) := ⟨_, Lib.hid rfl⟩
  have HK4 : Hid (Keep nob w3 w4) := by unfold Hid; rw [← HW4.out]; exact (Keep.refl nob w3).alloc _
  obtain ⟨b6, HB6⟩ : ∃ b6, Hid (w3.heap.size = b6) := ⟨_, Lib.hid rfl⟩
  have HR6 : Hid (w4.cell? ⟨b6, 0, none⟩ = some (.int .i64 xk) ∧ w4.cell? ⟨b6, 1, none⟩ = some (.int .i64 xn)) := by unfold Hid; rw [← HW4.out, ← HB6.out]; exact ⟨by simp, by simp⟩
  rw [HW4.out, HB6.out]
  have hlts := H.out.lts.1
  have hn3 : ¬ Fp p A b3 := fun hk => by have h1 := (HFP.out _ hk).2; have h2 := HB3L.out; omega
  have hn4 : ¬ Fp p A (b3 + 1) := fun hk => by have h1 := (HFP.out _ hk).2; have h2 := HB3L.out; omega
  have hnl : ¬ Fp p A bl := fun hk => by have h1 := (HFP.out bl hk).1; have h2 := HI.out; omega
  have hsz : b3 + 2 ≤ w2b.heap.size := by rw [← HW2B.out, ← HB3.out]; simp
  have hb6 : b3 + 2 ≤ b6 := by have h1 := HK3.out.size; rw [HB6.out] at h1; omega
  have hb3l := HB3L.out
  have r0 := HK4.out.cell (HK3.out.cell HR2.out.1 hn3) (fun h => h)
  have r1 := HK4.out.cell (HK3.out.cell HR2.out.2.1 hn3) (fun h => h)
  have r2 := HK4.out.cell (HK3.out.cell HR2.out.2.2.1 hn3) (fun h => h)
  have s1 := HK4.out.cell (HK3.out.cell (HKW.out.cell c1 (fun h => h)) hnl) (fun h => h)
  have s2 := HK4.out.cell (HK3.out.cell (HKW.out.cell c2 (fun h => h)) hnl) (fun h => h)
  have s3 := HK4.out.cell (HK3.out.cell (HKW.out.cell c3 (fun h => h)) hnl) (fun h => h)
  have HTH4 : Hid (w4.there bl off 4) := HK4.out.there (HK3.out.there (HKW.out.there H.out.th4 (fun h => h)) hnl) (fun h => h)
  have fz1 : w4.frozen? ⟨bl, off + 1, none⟩ = false := (HTH4.out 1 (by decide)).2
  have fz2 : w4.frozen? ⟨bl, off + 2, none⟩ = false := (HTH4.out 2 (by decide)).2
  have fz3 : w4.frozen? ⟨bl, off + 3, none⟩ = false := (HTH4.out 3 (by decide)).2
  obtain ⟨w5, HW5, HK5, d1, d2, d3, HR5, HT5⟩ := three_cells (k := off) s1 s2 s3 (.bool th) (.int .i64 o) (.slice Ar' n' cr')
  have g1 := HK5.cell HR6.out.1 (by show ¬ b6 = bl; omega)
  have g2 := HK5.cell HR6.out.2 (by show ¬ b6 = bl; omega)
  have g3 := HK5.cell (HK4.out.cell (HK3.out.cell HR2.out.2.2.2.1 hn4) (fun h => h)) (by show ¬ b3 + 1 = bl; omega)
  have g4 := HK5.cell (HK4.out.cell (HK3.out.cell HR2.out.2.2.2.2 hn4) (fun h => h)) (by show ¬ b3 + 1 = bl; omega)
  replace HW5 := Lib.hid HW5.symm
  have hn' : n' = cs'.length := by rw [← HL'.out, ← HMP.out, List.length_map]
  have HFIN : Hid (∃ own', Agree own own' w ∧ PSt own' i bl off p th o m cs' A Ar' cr' w5 ∧ PK own i bl off w w5 ∧ Keep (fun k => Fp p A k ∨ k = bl) w w5) :=
    PSt.step H.out HI.out.1 HI.out.2 HKW.out HK3.out HBG.out HK4.out (by rw [HMP.out]; exact HS'.out.keep HK2B.out (nobIn _)) (fun hne a ha => HF'.out (fun e => hne (List.map_eq_nil_iff.1 (HMP.out.trans e))) a ha) HK5 d1 d2 (by rw [← hn']; exact d3) HR5 HT5
  clear HK5 d1 d2 d3 HR5 HT5 c0 c1 c2 c3 q0 hn3 hn4 hnl hsz hb6 hb3l hlts hn'
  go_upto_region 4 with (fail)
  rw [HW5.out]
  have heq : ∀ w, (binOp .eql 27 (.agg #[.int .i64 xk, .int .i64 xn]) (.agg #[.int .i64 xk, .int .i64 xn])).run Try.prog w = .ok (.bool true) w := fun w => by rw [run_eql_items (xk, xn) (xk, xn) w]; simp
  clear r0 r1 r2 s1 s2 s3 fz1 fz2 fz3
  obtain ⟨own', k1, k2, k3⟩ := HFIN.out
  have HE1 := Lib.hid k1
  have HE2 := Lib.hid k2
  have HE3 := Lib.hid k3
  clear k1 k2 k3 HFIN
  cases f with
  | true =>
    go_wp2_with (fail)
    go_ret
    exact ⟨rfl, own', cs', Ar', cr', HE1.out, HE2.out, HE.out.1, HE.out.2, HE3.out⟩
  | false =>
    go_wp2_with (fail)
    go_ret
    exact ⟨rfl, own', cs', Ar', cr', HE1.out, HE2.out, HE.out.1, HE.out.2, HE3.out⟩
end Go.Proofs.Ytnofckgnnpmiiaa

/- 'told': a pair's bag tells what the reference has. -/
namespace Go.Proofs.Ytnofckgnnpmiiaa
open Go.RowKit Go.Shelf
attribute [local go_sem ↓] Go.wp_at_zero Go.wp_at_succ
attribute [local go_sem] Oper.semAt_some

/-- the iterator of a bag, there or not -/
theorem BagSt.stops {o : Int} {p A : Option Addr} {th : Bool} {m bx : Nat} {cs : List (Held Item)} {w : World} (n : Nat) (zl : List Item) (T : Nat → Prop) (b j : Nat)
   (h : BagSt o p th m A cs w) (hm : m ≤ 1000000000) (hlen : cs.length ≤ 1000000000) (hbx : w.cell? ⟨bx, 0, none⟩ = some (.pointer p)) (hz : Sorts (kap o) (cs.map (·.1)) zl)
   (hold : ∀ k, Wr T b j w k → k < w.heap.size) (hb : b < w.heap.size) :
    SeqStopsK Fence.wide n Try.prog 71 #[.pointer (some ⟨bx, 0, none⟩)] (fun x : Item => #[EI.val x]) (RW T b j) (fun ys => ys = zl) (fun pre => pre <+: zl) zl.length w := by
  rcases h with ⟨_, bb, rfl, h3⟩ | h
  · exact all_stops n zl T b j h3 hm hlen hbx hz hold hb
  · have h1 := h.1
    have h2 := h.2.1
    subst h1
    subst h2
    have hz0 : zl = [] := hz.perm.eq_nil
    subst hz0
    refine none_stops n (RW T b j) hbx (fun W hW => ?_)
    have h' : BagSt o p false m A [] w := .inr h
    have hk : Keep (fun k => w.heap.size ≤ k) w W := ⟨hW.os, hW.tape, hW.output, hW.size, fun i hi _ => hW.block i hi⟩
    have h4 := h'.lt
    exact (h'.keep hk (fun a ha => Nat.not_le.2 (h4.1 a ha)) (fun a ha => Nat.not_le.2 (h4.2 a ha).1)).not_there (Keep.refl _ _)

theorem KeepsFrom.of_keep {S : Nat → Prop} {B : Nat} {W W' : World} (k : Keep S W W') (hS : ∀ i, S i → ∃ o : Obj, W.heap[i]? = some o ∧ o.isCells = true) : KeepsFrom B W W' :=
  ⟨k.size, fun i o _ hi ho => (k.block i (Array.getElem?_eq_some_iff.1 hi).1 (fun h => by
    obtain ⟨o', h1, h2⟩ := hS i h
    rw [hi] at h1
    obtain rfl := Option.some.inj h1
    rw [ho] at h2
    cases h2)).trans hi⟩
/-- between two rounds: the box in block b8 counts what has come; what has come is told rightly -/
structure Cnts (b8 : Nat) (zl : List Item) (w1 : World) (pre : List Item) (W : World) : Prop where
  cnt : W.cell? ⟨b8, 0, none⟩ = some (.int .i64 ((pre.length : Nat) : Int))
  th : W.there b8 0 1
  keep : Keep (fun k => k = b8) w1 W
  pre : pre <+: zl
theorem Cnts.own {b8 : Nat} {zl : List Item} {w1 : World} : OwnFrom w1.heap.size (Cnts b8 zl w1) := by
  intro pre W W' row h hg hr
  have hck := CK.of_grown hg (fun r e => (hr r e).2)
  exact ⟨(hck _ _ h.cnt).1, hck.there h.th, h.keep.grown hg (fun r e => (hr r e).1), h.pre⟩
/-- how a round is left early -/
def Left2 (b8 : Nat) (zl : List Item) (nn : Int) (w1 : World) (c : Code) (pre : List Item) (W : World) : Prop :=
  ¬ (pre <+: zl) ∨ (c = .exit 2 ∧ W.cell? ⟨b8, 0, none⟩ = some (.int .i64 nn) ∧ (0 ≤ nn ∧ nn < zl.length) ∧ Keep (fun k => k = b8) w1 W)
theorem Left2.own {b8 : Nat} {zl : List Item} {nn : Int} {w1 : World} (c : Code) : OwnFrom w1.heap.size (Left2 b8 zl nn w1 c) := by
  intro pre W W' row h hg hr
  rcases h with h | ⟨h1, h2, h3, h4⟩
  · exact .inl h
  · have hck := CK.of_grown hg (fun r e => (hr r e).2)
    exact .inr ⟨h1, (hck _ _ h2).1, h3, h4.grown hg (fun r e => (hr r e).1)⟩
theorem prefix_snoc {zl pre : List Item} {x y : Item} (h : pre <+: zl) (hy : zl[pre.length]? = some y) : (pre ++ [x] <+: zl) ↔ y = x := by
  obtain ⟨r, rfl⟩ := h
  rw [List.getElem?_append_right (Nat.le_refl _), Nat.sub_self] at hy
  cases r with
  | nil => simp at hy
  | cons z r =>
    simp only [List.getElem?_cons_zero, Option.some.injEq] at hy
    subst hy
    constructor
    · rintro ⟨s, hs⟩
      rw [List.append_assoc, List.append_cancel_left_eq] at hs
      simpa using (List.cons.inj hs).1.symm
    · rintro rfl
      exact ⟨r, by rw [List.append_assoc]; rfl⟩
theorem RW.box {b8 : Nat} {W W' : World} {v : Value} (k : Keep (fun i => i = b8) W W') (hc : W'.cell? ⟨b8, 0, none⟩ = some v) (hv : ∀ A n c, v ≠ .slice A n c) : RW (fun i => i = b8) b8 0 W W' :=
  RW.of_keep (k.mono (fun _ _ h => .inl h)) (fun i _ hw => hw.elim .inl (fun ⟨A, n, c, h1, _⟩ => by rw [hc] at h1; exact absurd (Option.some.inj h1) (hv A n c)))

set_option maxRecDepth 100000 in
set_option maxHeartbeats 8000000 in
theorem told_ok {m n cr : Nat} {p A Ar : Option Addr} {th : Bool} {o : Int} {cs : List (Held Item)} (nn : Int) (w : World)
   (h : BagSt o p th m A cs w) (hs : Sl EI w Ar cr (cs.map (·.1))) (hn : cs.length = n) (hl : n ≤ 100000000) (hm : m ≤ 100000000) :
    Calls Try.prog 36 #[.agg #[.pointer p, .bool th, .int .i64 o, .slice Ar n cr], .int .i64 nn] w fun e w' => e = .returned (.bool true) ∧ Keep nob w w' := by
  have H := Lib.hid h
  have HS := Lib.hid hs
  have HN := Lib.hid hn
  have HB := Lib.hid (And.intro hl hm)
  clear h hs hn hl hm
  obtain ⟨b2, HB2⟩ : ∃ b2, Hid (w.heap.size = b2) := ⟨_, Lib.hid rfl⟩
  obtain ⟨wA, HWA⟩ : ∃ wA, Hid ((w.alloc (.cells #[.pointer p, .bool th, .int .i64 o, .slice Ar n cr] 58)).alloc (.cells #[.int .i64 nn] 3) = wA) := ⟨_, Lib.hid rfl⟩
  obtain ⟨w1, HW1⟩ : ∃ w1, Hid (wA.alloc (.cells #[.bool false] 4) = w1) := ⟨_, Lib.hid rfl⟩
  have HKA : Hid (Keep nob wA w1) := by unfold Hid; rw [← HW1.out]; exact (Keep.refl nob wA).alloc _
  have HK1 : Hid (Keep nob w w1) := by rw [← HW1.out, ← HWA.out]; exact (((Keep.refl nob w).alloc _).alloc _).alloc _
  have HSA : Hid (wA.heap.size = b2 + 2) := by unfold Hid; rw [← HWA.out, ← HB2.out]; simp
  have HS1 : Hid (w1.heap.size = b2 + 3) := by unfold Hid; rw [← HW1.out, World.size_alloc, HSA.out]
  have a0 : w1.cell? ⟨b2, 0, none⟩ = some (.pointer p) := HKA.out.cell (by rw [← HWA.out, ← HB2.out]; simp) (fun h => h)
  have a1 : w1.cell? ⟨b2, 1, none⟩ = some (.bool th) := HKA.out.cell (by rw [← HWA.out, ← HB2.out]; simp) (fun h => h)
  have a2 : w1.cell? ⟨b2, 2, none⟩ = some (.int .i64 o) := HKA.out.cell (by rw [← HWA.out, ← HB2.out]; simp) (fun h => h)
  have a3 : w1.cell? ⟨b2, 3, none⟩ = some (.slice Ar n cr) := HKA.out.cell (by rw [← HWA.out, ← HB2.out]; simp) (fun h => h)
  have a4 : w1.cell? ⟨b2 + 1, 0, none⟩ = some (.int .i64 nn) := HKA.out.cell (by rw [← HWA.out, ← HB2.out]; simp) (fun h => h)
  have a5 : w1.cell? ⟨b2 + 1 + 1, 0, none⟩ = some (.bool false) := by have := cell_alloc_new wA (.bool false) 4; rw [HW1.out, HSA.out] at this; exact this
  have t5 : w1.there (b2 + 1 + 1) 0 1 := by have := there_alloc_new wA #[.bool false] 4 1 (Nat.le_refl _); rw [HW1.out, HSA.out] at this; exact this
  have HCW : Hid (∀ w', Keep nob w1 w' → w'.cell? ⟨b2, 0, none⟩ = some (.pointer p) ∧ w'.cell? ⟨b2 + 1, 0, none⟩ = some (.int .i64 nn) ∧ w'.cell? ⟨b2 + 1 + 1, 0, none⟩ = some (.bool false) ∧ w'.frozen? ⟨b2 + 1 + 1, 0, none⟩ = false) := fun w' hk =>
    ⟨hk.cell a0 (fun h => h), hk.cell a4 (fun h => h), hk.cell a5 (fun h => h), (hk.there t5 (fun h => h) 0 (by decide)).2⟩
  refine calls_of_marks Try.func36 rfl ?_
  simp only [Try.ntmps36, List.size_toArray, List.length_cons, List.length_nil, Nat.reduceAdd, Nat.reduceSub, Array.replicate_succ, Array.replicate_zero, List.push_toArray, List.append_toArray, List.nil_append, List.cons_append]
  go_upto_region 1 with (fail)
  rw [HWA.out, HW1.out, HB2.out]
  have HSW : Hid (Sl EI w1 Ar cr (cs.map (·.1))) := HS.out.keep HK1.out (nobIn _)
  have HAL : Hid (Calls Try.prog 68 #[.agg #[.bool th, .int .i64 o, .slice Ar n cr]] w1 fun e w' => ∃ A' c' zl, e = .returned (.slice A' n c') ∧ Sorts (kap o) (cs.map (·.1)) zl ∧ Sl EI w' A' c' zl ∧ Keep nob w1 w') :=
    Lib.hid (refall_ok th o Ar cr n (List.map (fun x : Held Item => x.1) cs) w1 (by rw [List.length_map, HN.out]) HSW.out (by have := HB.out; omega) (fun ht => by rw [H.out.empty ht]; rfl))
  go_upto_region 2 with (go_at_call 68; go_must (refine HAL.out.mono ?_); rintro e w2 ⟨Aw, cw, zl, rfl, hz, hsz, hk⟩; have HZ := Lib.hid hz; have HSZ := Lib.hid hsz; have HK2 := Lib.hid hk; clear hz hsz hk)
  obtain ⟨w3, HW3⟩ : ∃ w3, Hid (w2.alloc (.cells #[.slice Aw n cw] 22) = w3) := ⟨_, Lib.hid rfl⟩
  have HK3 : Hid (Keep nob w2 w3) := by unfold Hid; rw [← HW3.out]; exact (Keep.refl nob w2).alloc _
  obtain ⟨b5, HB5⟩ : ∃ b5, Hid (w2.heap.size = b5) := ⟨_, Lib.hid rfl⟩
  have HC5 : Hid (w3.cell? ⟨b5, 0, none⟩ = some (.slice Aw n cw)) := by unfold Hid; rw [← HW3.out, ← HB5.out]; exact cell_alloc_new w2 _ 22
  rw [HW3.out, HB5.out]
  obtain ⟨w4, HW4⟩ : ∃ w4, Hid (w3.alloc (.cells #[.pointer p] 53) = w4) := ⟨_, Lib.hid rfl⟩
  have HK4 : Hid (Keep nob w3 w4) := by unfold Hid; rw [← HW4.out]; exact (Keep.refl nob w3).alloc _
  obtain ⟨bx, HBX⟩ : ∃ bx, Hid (w3.heap.size = bx) := ⟨_, Lib.hid rfl⟩
  have HCX : Hid (w4.cell? ⟨bx, 0, none⟩ = some (.pointer p)) := by unfold Hid; rw [← HW4.out, ← HBX.out]; exact cell_alloc_new w3 _ 53
  have he := fun (w : World) => run_eql_func_nil (P := Try.prog) w 77 Try.underlying77 (.func 71) #[] #[.pointer (some ⟨bx, 0, none⟩)]
  have HK13 : Hid (Keep nob w1 w3) := HK2.out.then_ HK3.out
  obtain ⟨q0, -, -, -⟩ := HCW.out w3 HK13.out
  go_upto_region 5 with (go_at_call 42; go_must (refine (all_ok p w3).mono ?_); rintro e w' ⟨rfl, hw⟩; rw [HW4.out] at hw; replace hw := hw.symm; subst hw; rw [HBX.out])
  have HK14 : Hid (Keep nob w1 w4) := HK13.out.then_ HK4.out
  have HC5' : Hid (w4.cell? ⟨b5, 0, none⟩ = some (.slice Aw n cw)) := HK4.out.cell HC5.out (fun h => h)
  have HZ4 : Hid (Sl EI w4 Aw cw zl) := (HSZ.out.keep HK3.out (nobIn _)).keep HK4.out (nobIn _)
  have HZL : Hid (zl.length = n) := by unfold Hid; rw [HZ.out.perm.length_eq, List.length_map, HN.out]
  have HBG4 : Hid (BagSt o p th m A cs w4) := (H.out.keep HK1.out (fun _ _ h => h) (fun _ _ h => h)).keep HK14.out (fun _ _ h => h) (fun _ _ h => h)
  clear q0 HAL HSW a0 a1 a2 a3 a4 a5 t5 HC5 HSZ HK13 HK2 HK3 HK4
  go_wp2_with (fail)
  refine wp_loop (fun a W => ∃ (d : Nat) (Ds : List Nat) (u8 u9 u18 u19 u20 u21 u22 u23 u24 u25 u26 u27 u28 u29 u30 u31 u32 u33 u34 u35 u36 u37 u38 u39 u40 u41 u42 u43 u44 u45 u46 u47 u48 u49 u50 u51 u52 u53 u54 : Value), a = { tmps := #[.agg #[.pointer p, .bool th, .int .i64 o, .slice Ar n cr], .int .i64 nn, .pointer (some ⟨b2, 0, none⟩), .pointer (some ⟨b2 + 1, 0, none⟩), .pointer (some ⟨b2 + 1 + 1, 0, none⟩), .pointer (some ⟨b5, 0, none⟩), .func (.func 71) #[] #[.pointer (some ⟨bx, 0, none⟩)], .int .i64 (d : Int), u8, u9, .pointer (some ⟨b2, 1, none⟩), .agg #[.bool th, .int .i64 o, .slice Ar n cr], .slice Aw n cw, .pointer (some ⟨b2, 0, none⟩), .pointer p, .func (.func 71) #[] #[.pointer (some ⟨bx, 0, none⟩)], .func (.func 71) #[] #[.pointer (some ⟨bx, 0, none⟩)], .bool false, u18, u19, u20, u21, u22, u23, u24, u25, u26, u27, u28, u29, u30, u31, u32, u33, u34, u35, u36, u37, u38, u39, u40, u41, u42, u43, u44, u45, u46, u47, u48, u49, u50, u51, u52, u53, u54], defers := marks Ds } ∧ d ≤ 2 ∧ Hid (Keep nob w4 W) ∧ Hid ((∀ D ∈ Ds, w4.heap.size ≤ D ∧ W.heap[D]? = some (.deferred (some []))) ∧ Ds.Nodup))
    (fun a _ => 2 - (intOf (a.tmps.getD 7 undef)).toNat) ?_ (fun a W hinv => ?_)
  · exact ⟨0, [], _, _, _, _, _, _, _, _, _, _, _, _, _, _, _, _, _, _, _, _, _, _, _, _, _, _, _, _, _, _, _, _, _, _, _, _, _, _, _, rfl, by omega, Keep.refl _ _, ⟨fun D h => by simp at h, List.nodup_nil⟩⟩
  obtain ⟨d, Ds, u8, u9, u18, u19, u20, u21, u22, u23, u24, u25, u26, u27, u28, u29, u30, u31, u32, u33, u34, u35, u36, u37, u38, u39, u40, u41, u42, u43, u44, u45, u46, u47, u48, u49, u50, u51, u52, u53, u54, rfl, hd, HKW, HDS⟩ := hinv
  obtain ⟨-, q1, q2, q3⟩ := HCW.out W (HK14.out.then_ HKW.out)
  by_cases hlt : d < 2
  · have hd1 : (d : Int) < 2 := by omega
    obtain ⟨b8, HB8⟩ : ∃ b8, Hid (W.heap.size = b8) := ⟨_, Lib.hid rfl⟩
    obtain ⟨W1, HW1'⟩ : ∃ W1, Hid (W.alloc (.cells #[.int .i64 0] 3) = W1) := ⟨_, Lib.hid rfl⟩
    have HKB : Hid (Keep nob W W1) := by unfold Hid; rw [← HW1'.out]; exact (Keep.refl nob W).alloc _
    have HC8 : Hid (W1.cell? ⟨b8, 0, none⟩ = some (.int .i64 0) ∧ W1.there b8 0 1) := by unfold Hid; rw [← HW1'.out, ← HB8.out]; exact ⟨cell_alloc_new W _ 3, there_alloc_new W _ _ 1 (Nat.le_refl _)⟩
    have HS8 : Hid (W1.heap.size = b8 + 1) := by unfold Hid; rw [← HW1'.out, World.size_alloc, HB8.out]
    go_wp2_with (fail)
    rw [HW1'.out, HB8.out]
    have HB18 : Hid (b8 < W1.heap.size) := by rw [HS8.out]; exact Nat.lt_succ_self _
    have HG : Hid (Cnts b8 zl W1 [] W1) := ⟨HC8.out.1, HC8.out.2, Keep.refl _ _, List.nil_prefix⟩
    have HKW1 : Hid (Keep nob w4 W1) := HKW.out.then_ HKB.out
    have HSTOP : Hid (SeqStopsK Fence.wide 8 Try.prog 71 #[.pointer (some ⟨bx, 0, none⟩)] (fun x : Item => #[EI.val x]) (RW (fun k => k = b8) b8 0) (fun ys => ys = zl) (fun pre => pre <+: zl) zl.length W1) := by
      refine (HBG4.out.keep HKW1.out (fun _ _ h => h) (fun _ _ h => h)).stops 8 zl (fun k => k = b8) b8 0 (by have := HB.out; omega) (by have := HB.out; have := HN.out; omega) (HKW1.out.cell HCX.out (fun h => h)) HZ.out (fun k hw => ?_) HB18.out
      rcases hw with hw | ⟨A2, n2, c2, g1, _⟩
      · rw [hw]; exact HB18.out
      · rw [HC8.out.1] at g1
        cases g1
    generalize hAC : (Act.mk _ _) = ac
    refine wp_of_wide 9 (wpIn_rangeFunc_ownH (F := Fence.wide) (encs := fun x : Item => #[EI.val x]) rfl (by decide) (gf := 71) (lb := #[.pointer (some ⟨bx, 0, none⟩)]) (by rw [← hAC]; rfl) trivial (enters_of Try.func71 (by kernel_rfl) rfl) HSTOP.out
      RW.trans (fun W l o o' hl h h1 h2 => RW.putObj HB18.out W l o o' hl h h1 h2) (Below.refl _ _) (fun _ => rfl)
      (Cnts b8 zl W1) (Left2 b8 zl nn W1) Cnts.own Left2.own HG.out
      (fun x a' W => ∃ bz, a' = { tmps := (ac.tmps.setIfInBounds 23 (EI.val x)).setIfInBounds 9 (.pointer (some ⟨bz, 0, none⟩)), defers := [] } ∧ W.cell? ⟨bz, 0, none⟩ = some (.int .i64 x.1) ∧ W.cell? ⟨bz, 1, none⟩ = some (.int .i64 x.2))
      ?ax ?assign ?body ?done ?stop)
    case ax =>
      rintro x a' _ W W' row ⟨bz, e, h1, h2⟩ hg hr
      have hck := CK.of_grown hg (fun r e => (hr r e).2)
      exact ⟨bz, e, (hck _ _ h1).1, (hck _ _ h2).1⟩
    case assign =>
      rintro l pre ⟨xk, xn⟩ W K hI hK
      subst hAC
      simp only [EI]
      gi_wp2
      have k1 : Keep (fun _ => False) W (W.alloc (.cells #[.int .i64 xk, .int .i64 xn] 27)) := (Keep.refl _ W).alloc _
      exact hK _ _ ((KeepsOthers.alloc W _).from _) (RW.of_kept k1 (Nat.lt_of_lt_of_le HB18.out hI.keep.size)) (Cnts.own.alloc _ hI) ⟨W.heap.size, rfl, by simp, by simp⟩
    case body =>
      rintro l pre ⟨xk, xn⟩ a' W' - - hI ⟨bz, rfl, h1, h2⟩ hlen
      have HI := Lib.hid hI
      obtain ⟨j, HJ⟩ : ∃ j, Hid (pre.length = j) := ⟨_, Lib.hid rfl⟩
      have hc := hI.cnt
      rw [HJ.out] at hc hlen
      rw [HZL.out] at hlen
      have hj0 : (0 : Int) ≤ (j : Int) := by omega
      have hj1 : (j : Int) < (n : Int) := by omega
      have hj2 : ¬ ((n : Int) ≤ (j : Int)) := by omega
      have hj3 : ¬ (n ≤ j) := by omega
      have hnb : (n : Int) ≤ 100000000 := by have := HB.out; omega
      obtain ⟨-, e1, e2, e3⟩ := HCW.out W (HK14.out.then_ HKW.out)
      have ne1 : ¬ b2 + 1 = b8 := fun e => by have h1 := HS1.out; have h2 := HK14.out.size; have h3 := HKW.out.size; have h4 := HB8.out; omega
      have ne2 : ¬ b2 + 1 + 1 = b8 := fun e => by have h1 := HS1.out; have h2 := HK14.out.size; have h3 := HKW.out.size; have h4 := HB8.out; omega
      have ne3 : ¬ b5 = b8 := fun e => by have h1 := World.block_lt_of_cell? w4 _ HC5'.out; have h3 := HKW.out.size; have h4 := HB8.out; have h5 : b5 < w4.heap.size := h1; omega
      have d1 := hI.keep.cell (HKB.out.cell e1 (fun h => h)) ne1
      have d2 := hI.keep.cell (HKB.out.cell e2 (fun h => h)) ne2
      have d5 := hI.keep.cell (HKW1.out.cell HC5'.out (fun h => h)) ne3
      have hfz : W'.frozen? ⟨b8, 0, none⟩ = false := (hI.th 0 (by decide)).2
      obtain ⟨bw, ow, hAw, hy⟩ := (((HZ4.out.keep HKW1.out (nobIn _)).keep2 hI.keep (fun hne ⟨a, ha, e⟩ => by have h1 := HZ4.out.lt hne a ha; have h3 := HKW.out.size; have h4 := HB8.out; have h5 : a.block = b8 := e; omega)) : Sl EI W' Aw cw zl).elem (i := j) (by rw [HZL.out]; exact hlen)
      obtain ⟨⟨yk, yn⟩, HY⟩ : ∃ y, Hid (zl[j]'(by rw [HZL.out]; exact hlen) = y) := ⟨_, Lib.hid rfl⟩
      have HYE : Hid (zl[pre.length]? = some (yk, yn)) := by unfold Hid; rw [HJ.out, ← HY.out]; exact List.getElem?_eq_getElem _
      rw [HY.out] at hy
      have hy1 := hy 0 _ rfl
      have hy2 := hy 1 _ rfl
      simp only [EI, Nat.add_zero] at hy1 hy2
      have hcw := HZ4.out.cap
      have hcl := HZ4.out.le
      rw [HZL.out] at hcl
      have HPS := Lib.hid (prefix_snoc (x := (xk, xn)) hI.pre HYE.out)
      have HF4 : Hid (W'.frozen? ⟨b2 + 1 + 1, 0, none⟩ = false) := (World.frozen?_of_block (HI.out.keep.block (b2 + 1 + 1) (World.block_lt_of_cell? W1 _ (HKB.out.cell e2 (fun h => h))) ne2)).trans ((World.frozen?_of_block (HKB.out.block (b2 + 1 + 1) (World.block_lt_of_cell? W _ e2) (fun h => h))).trans e3)
      have HCELL : Hid (∃ o : Obj, W'.heap[b8]? = some o ∧ o.isCells = true) := cells_of_cell (a := ⟨b8, 0, none⟩) hc
      clear hI hy HY e1 e2 e3
      subst hAw
      subst hAC
      simp only [EI]
      by_cases hjn : (j : Int) = nn
      · subst hjn
        have HEX : Hid (Left2 b8 zl (j : Int) W1 (.exit 2) (pre ++ [(xk, xn)]) W') := .inr ⟨rfl, hc, ⟨hj0, by rw [HZL.out]; exact hj1⟩, HI.out.keep⟩
        gi_wp2
        exact ⟨KeepsFrom.refl _ _, HEX.out⟩
      · have hjn1 : ((j : Int) == nn) = false := by simpa using hjn
        by_cases hyx : (yk, yn) = (xk, xn)
        · have hneq : ∀ w, (binOp .neq 27 (.agg #[.int .i64 yk, .int .i64 yn]) (.agg #[.int .i64 xk, .int .i64 xn])).run Try.prog w = .ok (.bool false) w := fun w => by rw [run_neq_items (yk, yn) (xk, xn) w, decide_eq_true hyx]; rfl
          gi_wp2_with (fail)
          refine wpIn_region_still_tail 11 (by kernel_rfl) (by kernel_rfl) (by kernel_rfl) (fun ⟨_, _, h⟩ => h.elim) ?_
          simp only [List.take_succ_cons, List.take_zero, List.drop_succ_cons, List.drop_zero]
          repeat still_step
          refine wpStill_nil ?_
          go_wp2_with (fail)
          have hd1' : W'.drew.cell? ⟨b8, 0, none⟩ = some (.int .i64 (j : Int)) := hc
          have hfz' : W'.drew.frozen? ⟨b8, 0, none⟩ = false := hfz
          gi_wp2
          have kk : Keep (fun i => i = b8) W' (W'.setCell ⟨b8, 0, none⟩ (.int .i64 ((j : Int) + 1))).drew := ((Keep.refl (fun i => i = b8) W').setCell (fun _ => rfl) _).drew
          have kc : (W'.setCell ⟨b8, 0, none⟩ (.int .i64 ((j : Int) + 1))).drew.cell? ⟨b8, 0, none⟩ = some (.int .i64 ((j : Int) + 1)) := World.cell?_setCell_same W' _ _ hc
          refine ⟨KeepsFrom.of_keep kk (fun i e => by rw [e]; exact HCELL.out), RW.box kk kc (fun _ _ _ h => by cases h), ⟨?_, there_setCell HI.out.th _ _, HI.out.keep.then_ kk, HPS.out.2 hyx⟩⟩
          rw [kc, List.length_append, HJ.out]
          rfl
        · have hneq : ∀ w, (binOp .neq 27 (.agg #[.int .i64 yk, .int .i64 yn]) (.agg #[.int .i64 xk, .int .i64 xn])).run Try.prog w = .ok (.bool true) w := fun w => by rw [run_neq_items (yk, yn) (xk, xn) w, decide_eq_false hyx]; rfl
          gi_wp2_with (fail)
          refine wpIn_region_still_tail 11 (by kernel_rfl) (by kernel_rfl) (by kernel_rfl) (fun ⟨_, _, h⟩ => h.elim) ?_
          simp only [List.take_succ_cons, List.take_zero, List.drop_succ_cons, List.drop_zero]
          repeat still_step
          refine wpStill_nil ?_
          go_wp2_with (fail)
          have d2' : W'.drew.cell? ⟨b2 + 1 + 1, 0, none⟩ = some (.bool false) := d2
          have fz2 : W'.drew.frozen? ⟨b2 + 1 + 1, 0, none⟩ = false := HF4.out
          gi_wp2
          have kk : Keep (fun i => i = b2 + 1 + 1) W' (W'.setCell ⟨b2 + 1 + 1, 0, none⟩ (.bool false)).drew := ((Keep.refl (fun i => i = b2 + 1 + 1) W').setCell (fun _ => rfl) _).drew
          exact ⟨KeepsFrom.of_keep kk (fun i e => by rw [e]; exact cells_of_cell (a := ⟨b2 + 1 + 1, 0, none⟩) d2), .inl (fun h => hyx (HPS.out.1 h))⟩
    case done =>
      rintro D xs' W' hD rfl hI hDe
      have hc := hI.cnt
      rw [HZL.out] at hc
      have HIK : Hid (Keep (fun k => k = b8) W1 W') := hI.keep
      have HDE := Lib.hid hDe
      have HDL := Lib.hid hD
      clear hI hDe hD
      have HKX : Hid (Keep nob w4 W') := HKW1.out.trans HIK.out (fun k h1 h2 => by have h3 : k = b8 := h2; have h4 := HKW.out.size; have h5 := HB8.out; omega)
      obtain ⟨-, e1, e2, e3⟩ := HCW.out W' (HK14.out.then_ HKX.out)
      have d5 := HKX.out.cell HC5'.out (fun h => h)
      have hcw := HZ4.out.cap
      have hcl := HZ4.out.le
      rw [HZL.out] at hcl
      have hnb : (n : Int) ≤ 100000000 := by have := HB.out; omega
      have HDN : Hid ((∀ D' ∈ D :: Ds, w4.heap.size ≤ D' ∧ W'.heap[D']? = some (.deferred (some []))) ∧ (D :: Ds).Nodup) := by
        have h4 := HKW.out.size
        have h5 := HB8.out
        have h6 := HS8.out
        refine ⟨fun D' hm => ?_, List.nodup_cons.2 ⟨fun hm => ?_, HDS.out.2⟩⟩
        · rcases List.mem_cons.1 hm with rfl | hm
          · exact ⟨by have := HDL.out; omega, HDE.out⟩
          · obtain ⟨g1, g2⟩ := HDS.out.1 D' hm
            have hlt := (Array.getElem?_eq_some_iff.1 g2).1
            refine ⟨g1, ?_⟩
            rw [HIK.out.block D' (by omega) (by show ¬ D' = b8; omega), HKB.out.block D' hlt (fun h => h)]
            exact g2
        · have hlt := (Array.getElem?_eq_some_iff.1 (HDS.out.1 D hm).2).1
          have := HDL.out
          omega
      clear q1 q2 q3
      subst hAC
      go_wp2_with (fail)
      refine ⟨⟨d + 1, D :: Ds, _, _, _, _, _, _, _, _, _, _, _, _, _, _, _, _, _, _, _, _, _, _, _, _, _, _, _, _, _, _, _, _, _, _, _, _, _, _, _, rfl, by omega, HKX, HDN⟩, ?_⟩
      simp [intOf]; omega
    case stop =>
      rintro D c pre W' hD hSp hIx hDe
      rcases hIx with hx | ⟨rfl, hc, ⟨hn0, hn1⟩, hk⟩
      · exact absurd hSp hx
      · have HIK := Lib.hid hk
        have HDE := Lib.hid hDe
        have HDL := Lib.hid hD
        rw [HZL.out] at hn1
        clear hk hDe hD
        have HKX : Hid (Keep nob w4 W') := HKW1.out.trans HIK.out (fun k h1 h2 => by have h3 : k = b8 := h2; have h4 := HKW.out.size; have h5 := HB8.out; omega)
        obtain ⟨-, e1, e2, e3⟩ := HCW.out W' (HK14.out.then_ HKX.out)
        have d5 := HKX.out.cell HC5'.out (fun h => h)
        have hcw := HZ4.out.cap
        have hcl := HZ4.out.le
        rw [HZL.out] at hcl
        have hnb : (n : Int) ≤ 100000000 := by have := HB.out; omega
        have HDN : Hid ((∀ D' ∈ D :: Ds, w4.heap.size ≤ D' ∧ W'.heap[D']? = some (.deferred (some []))) ∧ (D :: Ds).Nodup) := by
          have h4 := HKW.out.size
          have h5 := HB8.out
          have h6 := HS8.out
          refine ⟨fun D' hm => ?_, List.nodup_cons.2 ⟨fun hm => ?_, HDS.out.2⟩⟩
          · rcases List.mem_cons.1 hm with rfl | hm
            · exact ⟨by have := HDL.out; omega, HDE.out⟩
            · obtain ⟨g1, g2⟩ := HDS.out.1 D' hm
              have hlt := (Array.getElem?_eq_some_iff.1 g2).1
              refine ⟨g1, ?_⟩
              rw [HIK.out.block D' (by omega) (by show ¬ D' = b8; omega), HKB.out.block D' hlt (fun h => h)]
              exact g2
          · have hlt := (Array.getElem?_eq_some_iff.1 (HDS.out.1 D hm).2).1
            have := HDL.out
            omega
        clear q1 q2 q3
        have z1 : ((nn : Int) == (n : Int)) = false := by simp; omega
        have z2 : ¬ (nn = (n : Int)) := by omega
        have z3 : ¬ (nn < 0) := by omega
        subst hAC
        refine wpIn_wide.2 ?_
        go_wp2_with (fail)
        refine ⟨⟨d + 1, D :: Ds, ⟨by omega, rfl⟩, by omega, HDN⟩, ?_⟩
        simp [intOf]; omega
  · have hd2 : ¬ ((d : Int) < 2) := by omega
    go_wp2_with (fail)
    have kk : Keep (fun k => k = b2 + 1 + 1) W (W.setCell ⟨b2 + 1 + 1, 0, none⟩ (.bool true)) := (Keep.refl (fun k => k = b2 + 1 + 1) W).setCell (fun _ => rfl) _
    have kc : (W.setCell ⟨b2 + 1 + 1, 0, none⟩ (.bool true)).cell? ⟨b2 + 1 + 1, 0, none⟩ = some (.bool true) := World.cell?_setCell_same _ _ _ q2
    have hb4 : b2 + 3 ≤ w4.heap.size := by have h1 := HS1.out; have h2 := HK14.out.size; omega
    refine leaves_marks Ds _ HDS.out.2 (fun D hD => ?_) (fun W' k1 k2 => ⟨.bool true, (results_cell1 rfl _ _ _).trans ?_, rfl, ?_⟩)
    · obtain ⟨g1, g2⟩ := HDS.out.1 D hD
      rw [kk.block D (Array.getElem?_eq_some_iff.1 g2).1 (by show ¬ D = b2 + 1 + 1; omega)]
      exact g2
    · have kc' := (k2 _ _ kc).1
      clear kc kk q1 q2 q3
      go_simp
    · refine (((HK1.out.then_ HK14.out).then_ HKW.out).trans kk (fun k h1 h2 => ?_)).trans k1 (fun k h1 h2 => ?_)
      · have h3 : k = b2 + 1 + 1 := h2
        have := HB2.out
        omega
      · have h3 := (HDS.out.1 k h2).1
        have := HB2.out
        omega
end Go.Proofs.Ytnofckgnnpmiiaa
