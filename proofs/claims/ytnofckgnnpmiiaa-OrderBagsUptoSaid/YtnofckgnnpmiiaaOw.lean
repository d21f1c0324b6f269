/- Slices that may be written and grown: what an append makes of them, in place or in new memory. -/
import Derived.Test.YtnofckgnnpmiiaaBase
namespace Go.Proofs.Ytnofckgnnpmiiaa
open Go.RowKit

/-- The slice of address A and capacity c reads as xs and may be written up to its capacity. -/
structure Ow {α : Type} (E : El α) (w : World) (A : Option Addr) (c : Nat) (xs : List α) : Prop where
  sl : Sl E w A c xs
  room : 0 < c → ∃ b o, A = some ⟨b, o, none⟩ ∧ w.there b o (c * E.sz)

/-- room for c elements -/
structure Rm {α : Type} (E : El α) (w : World) (A : Option Addr) (c : Nat) : Prop where
  cap : c ≤ 9223372036854775807
  room : 0 < c → ∃ b o, A = some ⟨b, o, none⟩ ∧ w.there b o (c * E.sz)
theorem Ow.rm {α : Type} {E : El α} {w : World} {A : Option Addr} {c : Nat} {xs : List α} (h : Ow E w A c xs) : Rm E w A c := ⟨h.sl.cap, h.room⟩
theorem Rm.keep {α : Type} {E : El α} {w w1 : World} {A : Option Addr} {c : Nat} {S : Nat → Prop} (h : Rm E w A c) (k : Keep S w w1) (hs : ¬ InB S A) : Rm E w1 A c :=
  ⟨h.cap, fun hc => let ⟨b, o, hA, ht⟩ := h.room hc; ⟨b, o, hA, k.there ht (fun hb => hs ⟨_, hA, hb⟩)⟩⟩

/-- A's block is one of S's. -/
def AtB (A : Option Addr) : Nat → Prop := fun k => ∃ a, A = some a ∧ a.block = k

namespace Ow
variable {α : Type} {E : El α} {w w1 : World} {A : Option Addr} {c : Nat} {xs : List α}
theorem keep {S : Nat → Prop} (h : Ow E w A c xs) (k : Keep S w w1) (hs : ¬ InB S A) : Ow E w1 A c xs :=
  ⟨h.sl.keep k hs, fun hc => let ⟨b, o, hA, ht⟩ := h.room hc; ⟨b, o, hA, k.there ht (fun hb => hs ⟨_, hA, hb⟩)⟩⟩
theorem below (h : Ow E w A c xs) (k : Below w.heap.size w w1) : Ow E w1 A c xs := h.keep (Keep.of_below k (fun _ => False)) (fun ⟨_, _, hf⟩ => hf)
theorem nil_ (E : El α) (w : World) (A : Option Addr) : Ow E w A 0 ([] : List α) := ⟨Sl.nil_ E w A (by decide), fun h => absurd h (by decide)⟩
/-- new memory -/
theorem new_ (E : El α) (w : World) (cs : Array Value) (T c : Nat) (xs : List α) (hl : xs.length ≤ c) (hc : c ≤ 9223372036854775807) (hs : cs.size = c * E.sz) (ht : ∀ (j : Nat) (v : Value), (E.flat xs)[j]? = some v → cs[j]? = some v) :
    Ow E (w.alloc (.cells cs T)) (some ⟨w.heap.size, 0, none⟩) c xs :=
  ⟨⟨hl, hc, fun _ => ⟨_, _, rfl, range_alloc_new w cs T _ ht⟩⟩, fun _ => ⟨_, _, rfl, there_alloc_new w cs T _ (by omega)⟩⟩
/-- whose block is the address's? -/
theorem lt (h : Ow E w A c xs) (hc : 0 < c) : ∃ b o, A = some ⟨b, o, none⟩ ∧ b < w.heap.size := by
  obtain ⟨b, o, hA, ht⟩ := h.room hc
  obtain ⟨h1, _⟩ := ht 0 (Nat.mul_pos hc E.pos)
  obtain ⟨u, hu⟩ := Option.isSome_iff_exists.1 h1
  exact ⟨b, o, hA, World.block_lt_of_cell? w _ hu⟩
end Ow

section
variable {P : Program}
theorem firstCells_Sl {α : Type} (E : El α) {w : World} {A : Option Addr} {c : Nat} {ys : List α} (hy : Sl E w A c ys) : (Builtin.firstCells E.sz ys.length (.slice A ys.length c)).run P w = .ok (E.flat ys).toArray w := by
  by_cases hn : ys = []
  · subst hn
    cases A with
    | none => exact run_firstCells_none w E.sz _ _ c
    | some a => exact run_firstCells_some w E.sz _ a _ c [] (by simp) (by simp)
  · obtain ⟨b, o, rfl, hr⟩ := hy.at_ hn
    exact run_firstCells_some w E.sz _ _ _ c _ (E.flat_len ys) (fun j v hv => by rw [Addr.add_mid]; exact hr j v hv)

/-- What an append answers: the value's address and capacity, the world behind it. -/
structure Appended {α : Type} (E : El α) (w : World) (A : Option Addr) (zs : List α) (A' : Option Addr) (c' : Nat) (w' : World) : Prop where
  ow : Ow E w' A' c' zs
  keep : Keep (AtB A) w w'
  lies : ∀ a, A' = some a → (∃ a0, A = some a0 ∧ a0.block = a.block) ∨ (a.block = w.heap.size ∧ w.heap.size < w'.heap.size)

theorem run_append_ow {α : Type} (E : El α) (w : World) (t ty e : TypeId) (z : Value) (bytes : Nat) (ht : P.underlying t = some (.slice e)) (hinfo : (P.info? e).map (fun i => (i.zero, i.size, i.bytes)) = some (some z, E.sz, bytes)) (hz : z.cells.size = E.sz)
    {A A2 : Option Addr} {c c2 : Nat} {xs ys : List α} (hx : Ow E w A c xs) (hy : Sl E w A2 c2 ys) (hb : (xs.length + ys.length) * bytes ≤ 140737488355328) (h63 : xs.length + ys.length ≤ 9223372036854775807) :
    ∃ A' c' w', (Builtin.append_ #[t, t] ty #[.slice A xs.length c, .slice A2 ys.length c2]).run P w = .ok (.slice A' (xs.length + ys.length) c') w' ∧ Appended E w A (xs ++ ys) A' c' w' := by
  obtain ⟨i, hi, hz0, hsz, hby⟩ := info_parts hinfo
  by_cases hroom : xs.length + ys.length ≤ c
  · by_cases hc : 0 < c
    · obtain ⟨b, o, rfl, hth⟩ := hx.room hc
      have hthn : w.there b (o + xs.length * E.sz) (ys.length * E.sz) := there_sub hth (by omega) (by rw [Nat.add_assoc, ← Nat.add_mul]; exact Nat.add_le_add_left (Nat.mul_le_mul_right _ hroom) _)
      refine ⟨some ⟨b, o, none⟩, c, w.setCells b (o + xs.length * E.sz) (E.flat ys), ?_, ⟨⟨⟨by rw [List.length_append]; exact hroom, hx.sl.cap, fun _ => ⟨b, o, rfl, ?_⟩⟩, fun _ => ⟨b, o, rfl, World.there_setCells hth _ _ _⟩⟩, ?_, fun a ha => .inl ⟨a, ha, rfl⟩⟩⟩
      · have hr := run_append_in (P := P) w t ty e i ht hi b o xs.length c A2 ys.length c2 (E.flat ys) (by rw [E.flat_len, hsz])
          (fun hn => by
            obtain ⟨b', o', hA, hr⟩ := hy.at_ (by intro e; subst e; exact hn rfl)
            exact ⟨_, hA, fun j u hj => by rw [Addr.add_mid]; exact hr j u hj⟩) (E.flat_one ys) hroom (by rw [hsz, E.flat_len]; exact hthn)
        rw [hsz] at hr
        exact hr
      · rw [E.flat_app, range_app, E.flat_len]
        refine ⟨?_, World.rangeAt_setCells_same _ _ _ _ (by rw [E.flat_len]; exact hthn)⟩
        by_cases hn : xs = []
        · subst hn; exact range_nil _ _ _
        · obtain ⟨b', o', hA, hr⟩ := hx.sl.at_ hn
          simp only [Option.some.injEq, Addr.mk.injEq, and_true] at hA
          obtain ⟨rfl, rfl⟩ := hA
          exact World.rangeAt_setCells_apart hr _ _ _ (.inr (.inl (by rw [E.flat_len]; omega)))
      · exact (Keep.refl _ w).setCells _ _ (fun _ => ⟨_, rfl, rfl⟩)
    · have hx0 : xs = [] := List.eq_nil_of_length_eq_zero (by omega)
      have hy0 : ys = [] := List.eq_nil_of_length_eq_zero (by omega)
      have hc0 : c = 0 := by omega
      subst hx0; subst hy0; subst hc0
      refine ⟨A, 0, w, ?_, ⟨⟨⟨by simp, by omega, fun h => absurd rfl h⟩, fun h => absurd h (by omega)⟩, Keep.refl _ _, fun a ha => .inl ⟨a, ha, rfl⟩⟩⟩
      have hf := firstCells_Sl (P := P) E hy
      cases A <;> simp [Builtin.append_, run_underlying ht, sizeOf, typeInfo, hi, Builtin.lenOf, hsz, El.flat_nil] at hf ⊢ <;> simp [hf, storeCells]
  · have hge := grownCap_ge w (xs.length + ys.length) c e
    have hcm : grownCap w (xs.length + ys.length) c e ≤ 9223372036854775807 := by
      have := grownCap_le_maxLen w (xs.length + ys.length) c e (by unfold maxLen; omega)
      unfold maxLen at this; omega
    have hn : ¬ (xs.length + ys.length ≤ c) := hroom
    have h63' : ¬ (9223372036854775807 < ((xs.length : Int) + (ys.length : Int))) := by omega
    have hfit := growslice_fits (bytes := bytes) (show c < xs.length + ys.length by omega) hb
    have h48' : ¬ (281474976710656 < Builtin.nextslicecap (xs.length + ys.length) c * i.bytes) := by rw [hby]; omega
    have hk : Keep (fun _ => False) w w.drew := (Keep.refl _ w).drew
    have hf := firstCells_Sl (P := P) E (hy.keep hk (fun ⟨_, _, h⟩ => h))
    have hfo := firstCells_Sl (P := P) E (hx.sl.keep hk (fun ⟨_, _, h⟩ => h))
    refine ⟨some ⟨w.heap.size, 0, none⟩, grownCap w (xs.length + ys.length) c e, w.drew.alloc (.cells ((E.flat (xs ++ ys)).toArray ++ Builtin.zeroCells z.cells (grownCap w (xs.length + ys.length) c e - (xs.length + ys.length))) e), ?_, ⟨?_, ?_, ?_⟩⟩
    · simp [Builtin.append_, run_underlying ht, sizeOf, typeInfo, zeroValue, hi, hz0, hsz, Builtin.lenOf, hn, h63', h48', Question.forced, hf, hfo, newRow, grownCap, El.flat_app]
      congr 2
      apply Array.ext'
      simp [List.append_assoc]
    · refine Ow.new_ E w.drew _ e _ _ (by rw [List.length_append]; exact hge) hcm ?_ ?_
      · rw [Array.size_append, List.size_toArray, E.flat_len, size_zeroCells, hz, List.length_append, ← Nat.add_mul]
        congr 1; omega
      · intro j v hj
        have hjl := (List.getElem?_eq_some_iff.1 hj).1
        rw [Array.getElem?_append_left (by simpa using hjl)]
        simpa using hj
    · exact ((Keep.refl _ w).drew).alloc _
    · intro a ha
      simp only [Option.some.injEq] at ha
      subst ha
      exact .inr ⟨rfl, by simp⟩

theorem wp_append_ow {α : Type} (E : El α) {w : World} {op : Oper} {a : Act} {K : Act → World → Prop} {Q : Exit → Act → World → Prop} (s x : Operand) (t : TypeId)
    (ho : op.op = .call { callee := .builtin .append, args := #[s, x], argTypes := #[t, t] }) (e : TypeId) (z : Value) (bytes : Nat) (ht : P.underlying t = some (.slice e)) (hinfo : (P.info? e).map (fun i => (i.zero, i.size, i.bytes)) = some (some z, E.sz, bytes)) (hz : z.cells.size = E.sz)
    (A : Option Addr) (n c : Nat) (hs : a.eval s = .slice A n c) (xs : List α) (hn : xs.length = n) (hxs : Ow E w A c xs) (A2 : Option Addr) (m c2 : Nat) (hx : a.eval x = .slice A2 m c2) (ys : List α) (hm : ys.length = m) (hys : Sl E w A2 c2 ys)
    (hb : (n + m) * bytes ≤ 140737488355328) (h63 : n + m ≤ 9223372036854775807)
    (h : ∀ A' c' w', Appended E w A (xs ++ ys) A' c' w' → K (a.put op.dst (.slice A' (n + m) c')) w') : op.wp P a w K Q := by
  subst hn; subst hm
  obtain ⟨A', c', w', hr, hap⟩ := run_append_ow (P := P) E w t op.type e z bytes ht hinfo hz hxs hys hb h63
  unfold Oper.wp execOp
  simp only [ho, resolve, invoke, builtin, Sem.run_bind, Sem.run_pure, Result.andThen_ok, List.map_toArray, List.map_cons, List.map_nil, hs, hx, hr]
  exact h _ _ _ hap
theorem wpList_append_ow {α : Type} (E : El α) {w : World} {op : Oper} {ops : Array Oper} {rest : List Oper} {a : Act} {Q : Exit → Act → World → Prop} (hgd : op.guard = none) (s x : Operand) (t : TypeId)
    (ho : op.op = .call { callee := .builtin .append, args := #[s, x], argTypes := #[t, t] }) (e : TypeId) (z : Value) (bytes : Nat) (ht : P.underlying t = some (.slice e)) (hinfo : (P.info? e).map (fun i => (i.zero, i.size, i.bytes)) = some (some z, E.sz, bytes)) (hz : z.cells.size = E.sz)
    (A : Option Addr) (n c : Nat) (hs : a.eval s = .slice A n c) (xs : List α) (hn : xs.length = n) (hxs : Ow E w A c xs) (A2 : Option Addr) (m c2 : Nat) (hx : a.eval x = .slice A2 m c2) (ys : List α) (hm : ys.length = m) (hys : Sl E w A2 c2 ys)
    (hb : (n + m) * bytes ≤ 140737488355328) (h63 : n + m ≤ 9223372036854775807)
    (h : ∀ A' c' w', Appended E w A (xs ++ ys) A' c' w' → wpList P ops Q rest (a.put op.dst (.slice A' (n + m) c')) w') : wpList P ops Q (op :: rest) a w :=
  wpList_plain hgd fun _ hK => wp_append_ow E s x t ho e z bytes ht hinfo hz A n c hs xs hn hxs A2 m c2 hx ys hm hys hb h63 (fun A' c' w' h' => hK _ _ (h A' c' w' h'))

/-! ### make -/
theorem flat_rep_get {α : Type} (E : El α) (x : α) : ∀ (l j : Nat), j < l * E.sz → (E.flat (List.replicate l x))[j]? = (E.cells x)[j % E.sz]?
  | 0, j, h => by simp at h
  | l + 1, j, h => by
    rw [List.replicate_succ, El.flat_cons]
    have hp := E.pos
    by_cases hj : j < E.sz
    · rw [List.getElem?_append_left (by rw [E.len]; exact hj), Nat.mod_eq_of_lt hj]
    · rw [List.getElem?_append_right (by rw [E.len]; omega), E.len, flat_rep_get E x l (j - E.sz) (by rw [Nat.add_mul] at h; omega), Nat.mod_eq_sub_mod (by omega : j ≥ E.sz)]
theorem ow_made {α : Type} (E : El α) (w : World) (e : TypeId) (z : Value) (x : α) (hz : z.cells.toList = E.cells x) (l c : Nat) (hl : l ≤ c) (hc : c ≤ 9223372036854775807) :
    Ow E (w.alloc (.cells (madeCells z.cells (c * E.sz)) e)) (some ⟨w.heap.size, 0, none⟩) c (List.replicate l x) := by
  refine Ow.new_ E w _ e c _ (by simpa using hl) hc (size_madeCells _ _) (fun j v hj => ?_)
  have hjl := (List.getElem?_eq_some_iff.1 hj).1
  rw [E.flat_len, List.length_replicate] at hjl
  rw [flat_rep_get E x l j hjl, ← hz] at hj
  have hsz : z.cells.size = E.sz := by rw [← Array.length_toList, hz, E.len]
  have hlt : j < c * E.sz := Nat.lt_of_lt_of_le hjl (Nat.mul_le_mul_right _ hl)
  have hm : j % E.sz < z.cells.size := by rw [hsz]; exact Nat.mod_lt _ E.pos
  simp only [madeCells, Array.getElem?_map, Array.getElem?_range, hlt, if_true, Option.map_some]
  rw [hsz, ← hj, Array.getElem?_toList, getElem!_pos z.cells _ hm, Array.getElem?_eq_getElem hm]
theorem rm_made {α : Type} (E : El α) (w : World) (e : TypeId) (z : Value) (c : Nat) (hc : c ≤ 9223372036854775807) :
    Rm E (w.alloc (.cells (madeCells z.cells (c * E.sz)) e)) (some ⟨w.heap.size, 0, none⟩) c :=
  ⟨hc, fun _ => ⟨_, _, rfl, there_alloc_new w _ e _ (by rw [size_madeCells]; exact Nat.le_refl _)⟩⟩
theorem wpList_make_E {α : Type} (E : El α) {w : World} {op : Oper} {ops : Array Oper} {rest : List Oper} {a : Act} {Q : Exit → Act → World → Prop} (hgd : op.guard = none) (lo co : Operand) (t : TypeId)
    (ho : op.op = .makeSlice t lo co) (e : TypeId) (z : Value) (bytes : Nat) (ht : P.underlying t = some (.slice e)) (hinfo : (P.info? e).map (fun i => (i.zero, i.size, i.bytes)) = some (some z, E.sz, bytes)) 
    (l c : Nat) (L C : Int) (hlo : a.eval lo = .int .i64 L) (hL : L = (l : Int)) (hco : a.eval co = .int .i64 C) (hC : C = (c : Int)) (hlc : l ≤ c) (hb : bytes * c ≤ 281474976710656) (h63 : c ≤ 9223372036854775807)
    (h : ∀ w', Hid (w' = w.alloc (.cells (madeCells z.cells (c * E.sz)) e)) → wpList P ops Q rest (a.put op.dst (.slice (some ⟨w.heap.size, 0, none⟩) l c)) w') : wpList P ops Q (op :: rest) a w := by
  refine wpList_plain hgd fun K hK' => ?_
  obtain ⟨i, hi, hz0, hsz, hby⟩ := info_parts hinfo
  subst hL; subst hC
  have hb' : (i.bytes : Int) * (c : Int) ≤ 281474976710656 := by
    have h : ((i.bytes * c : Nat) : Int) ≤ 281474976710656 := by rw [hby]; omega
    rwa [Int.natCast_mul] at h
  have hr := run_make (P := P) w t e i z ht hi hz0 .i64 .i64 l c (by omega) (by omega) hb' (by omega)
  simp only [Int.toNat_natCast, hsz] at hr
  unfold Oper.wp
  simp only [execOp, ho, hlo, hco, Sem.run_bind, hr, Result.andThen_ok, Sem.run_pure]
  exact hK' _ _ (h _ rfl)
end
end Go.Proofs.Ytnofckgnnpmiiaa
