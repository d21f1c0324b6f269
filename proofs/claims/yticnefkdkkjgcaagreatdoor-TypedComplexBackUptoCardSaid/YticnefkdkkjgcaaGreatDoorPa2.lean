/- Words of our own on memory: what a call keeps, slices of elements of several cells, an append in place; over any program. -/
import Derived.Test.YticnefkdkkjgcaaGreatDoorRows
import Derived.WalkKit
import Derived.WalkSpells
import Derived.WalkLawsBesides
import Derived.Deep.QuietTactic
import Derived.BigQuiet
import Derived.Lib.Hide
import Derived.Laws.EntriesVeiled
import Derived.Laws.StructEq
import Derived.Deep.MidRow
import Derived.Deep.RegionHeld3
import Derived.StillTailTactics
import Derived.Deep.DrawnRows
import Derived.Deep.LoopGhost
import Derived.Deep.DeepMust
import Derived.Deep.DeepFit
import Derived.Laws.Bits64
import Derived.Laws.BitsLemmas
import Derived.Laws.Strings
import Derived.Lib.LaidTab
import Derived.Lib.ItoaNum
import Derived.KernelRfl
import Derived.Deep.Cut
import Derived.Deep.CutBlock
import Derived.Laws.Bits
import Derived.Laws.IdiomStrings
import Derived.Laws.BitsAllLaws
import Derived.Shelf.Spec.TrailingZeros
import Derived.Lib.BitFns
import Derived.Deep.Quiet
import Derived.Lib.TrailingZeros
import Derived.Test.YticnefkdkkjgcaaGreatDoorPa1
namespace Go.Proofs.YticnefkdkkjgcaaGreatDoor
open Go.RowKit

/-- What w' keeps of w: all blocks that were there, but those of S. -/
structure Keep (S : Nat → Prop) (w w' : World) : Prop where
  os : w'.os = w.os
  tape : w'.tape = w.tape
  output : w'.output = w.output
  size : w.heap.size ≤ w'.heap.size
  block : ∀ k, k < w.heap.size → ¬ S k → w'.heap[k]? = w.heap[k]?

namespace Keep
variable {S S' : Nat → Prop} {w w1 w2 : World}
theorem refl (S : Nat → Prop) (w : World) : Keep S w w := ⟨rfl, rfl, rfl, Nat.le_refl _, fun _ _ _ => rfl⟩
theorem trans (h : Keep S w w1) (k : Keep S' w1 w2) (hs : ∀ k, k < w.heap.size → S' k → S k) : Keep S w w2 :=
  ⟨k.os.trans h.os, k.tape.trans h.tape, k.output.trans h.output, Nat.le_trans h.size k.size,
    fun i hi hS => (k.block i (Nat.lt_of_lt_of_le hi h.size) (fun h' => hS (hs i hi h'))).trans (h.block i hi hS)⟩
theorem then_ (h : Keep S w w1) (k : Keep S w1 w2) : Keep S w w2 := h.trans k (fun _ _ h => h)
theorem mono (h : Keep S w w1) (hs : ∀ k, k < w.heap.size → S k → S' k) : Keep S' w w1 :=
  ⟨h.os, h.tape, h.output, h.size, fun i hi hS => h.block i hi (fun h' => hS (hs i hi h'))⟩
theorem of_below (h : Below w.heap.size w w1) (S : Nat → Prop) : Keep S w w1 := ⟨h.os, h.tape, h.output, h.size, fun k hk _ => h.block k hk⟩
theorem below (h : Keep S w w1) {B : Nat} (hB : B ≤ w.heap.size) (hs : ∀ k, k < B → ¬ S k) : Below B w w1 :=
  ⟨h.os, h.tape, h.output, h.size, fun k hk => h.block k (by omega) (hs k hk)⟩
theorem alloc (h : Keep S w w1) (o : Obj) : Keep S w (w1.alloc o) :=
  h.trans (S' := S) (of_below ((Below.refl _ _).alloc (Nat.le_refl _) o) S) (fun _ _ h => h)
theorem drew (h : Keep S w w1) : Keep S w w1.drew := ⟨h.os, h.tape, h.output, h.size, h.block⟩
theorem drewN (h : Keep S w w1) (n : Nat) : Keep S w (w1.drewN n) := ⟨h.os, h.tape, h.output, h.size, h.block⟩
theorem setCell (h : Keep S w w1) {p : Addr} (hp : p.block < w.heap.size → S p.block) (u : Value) : Keep S w (w1.setCell p u) :=
  ⟨h.os, h.tape, h.output, by have := h.size; simpa [World.setCell] using this, fun k hk hS => (Below.heap_setCell w1 p u k (fun e => hS (by subst e; exact hp hk))).trans (h.block k hk hS)⟩
theorem setCells {b : Nat} : ∀ (vs : List Value) (o : Nat) {w1 : World}, Keep S w w1 → (b < w.heap.size → S b) → Keep S w (w1.setCells b o vs)
  | [], _, _, h, _ => h
  | v :: r, o, _, h, hb => setCells r (o + 1) (h.setCell (p := ⟨b, o, none⟩) hb v) hb
theorem cell (h : Keep S w w1) {a : Addr} {v : Value} (hc : w.cell? a = some v) (hs : ¬ S a.block) : w1.cell? a = some v :=
  (World.cell?_of_block (w := w) (h.block a.block (World.block_lt_of_cell? w a hc) hs)).trans hc
theorem range (h : Keep S w w1) {b o : Nat} {cs : List Value} (hc : w.rangeAt b o cs) (hs : ¬ S b) : w1.rangeAt b o cs :=
  fun j v hv => h.cell (hc j v hv) hs
theorem there (h : Keep S w w1) {b o n : Nat} (hc : w.there b o n) (hs : ¬ S b) : w1.there b o n := fun j hj => by
  obtain ⟨h1, h2⟩ := hc j hj
  obtain ⟨u, hu⟩ := Option.isSome_iff_exists.1 h1
  refine ⟨by rw [h.cell hu hs]; rfl, ?_⟩
  rw [← h2]
  exact World.frozen?_of_block (h.block b (World.block_lt_of_cell? w _ hu) hs)
end Keep

/-! ### ranges -/
theorem range_nil (w : World) (b o : Nat) : w.rangeAt b o [] := fun j v h => by simp at h
theorem range_app {w : World} {b o : Nat} {xs ys : List Value} : w.rangeAt b o (xs ++ ys) ↔ w.rangeAt b o xs ∧ w.rangeAt b (o + xs.length) ys := by
  constructor
  · intro h
    refine ⟨fun j v hv => h j v ?_, fun j v hv => ?_⟩
    · have hj : j < xs.length := (List.getElem?_eq_some_iff.1 hv).1
      rw [List.getElem?_append_left hj]; exact hv
    · have := h (xs.length + j) v (by rw [List.getElem?_append_right (by omega), show xs.length + j - xs.length = j by omega]; exact hv)
      rwa [show o + (xs.length + j) = o + xs.length + j by omega] at this
  · rintro ⟨h1, h2⟩ j v hv
    by_cases hj : j < xs.length
    · rw [List.getElem?_append_left hj] at hv; exact h1 j v hv
    · rw [List.getElem?_append_right (by omega)] at hv
      have := h2 (j - xs.length) v hv
      rwa [show o + xs.length + (j - xs.length) = o + j by omega] at this
theorem there_sub {w : World} {b o n o' n' : Nat} (h : w.there b o n) (h1 : o ≤ o') (h2 : o' + n' ≤ o + n) : w.there b o' n' := fun j hj => by
  have := h (o' - o + j) (by omega)
  rwa [show o + (o' - o + j) = o' + j by omega] at this
theorem there_of_range {w : World} {b o : Nat} {cs : List Value} (h : w.rangeAt b o cs) (hf : ∀ j, j < cs.length → w.frozen? ⟨b, o + j, none⟩ = false) : w.there b o cs.length :=
  fun j hj => ⟨by rw [h j cs[j] (by simp [hj])]; rfl, hf j hj⟩
theorem there_alloc_new (w : World) (cs : Array Value) (T : Nat) (n : Nat) (hn : n ≤ cs.size) : (w.alloc (.cells cs T)).there w.heap.size 0 n := fun j hj => by
  have hh : (w.alloc (.cells cs T)).heap[w.heap.size]? = some (.cells cs T (0, 0)) := heap_alloc_new w _
  constructor
  · simp only [World.cell?, hh]
    simp only [Option.isSome_none, Bool.false_eq_true, if_false]
    rw [Array.getElem?_eq_getElem (by omega)]; rfl
  · simp only [World.frozen?]; rw [hh]; simp
theorem range_alloc_new (w : World) (cs : Array Value) (T : Nat) (l : List Value) (hl : ∀ (j : Nat) (v : Value), l[j]? = some v → cs[j]? = some v) : (w.alloc (.cells cs T)).rangeAt w.heap.size 0 l := fun j v hv => by
  have hh : (w.alloc (.cells cs T)).heap[w.heap.size]? = some (.cells cs T (0, 0)) := heap_alloc_new w _
  simp only [World.cell?, hh]
  simp only [Option.isSome_none, Bool.false_eq_true, if_false]
  rw [Nat.zero_add]
  exact hl j v hv

/-! ### elements of several cells -/
structure El (α : Type) where
  sz : Nat
  pos : 0 < sz
  cells : α → List Value
  len : ∀ x, (cells x).length = sz
  one : ∀ x, ∀ v ∈ cells x, v.oneCell' = true
  val : α → Value

namespace El
variable {α : Type} (E : El α)
def flat (xs : List α) : List Value := xs.flatMap E.cells
theorem flat_nil : E.flat [] = [] := rfl
theorem flat_cons (x : α) (xs : List α) : E.flat (x :: xs) = E.cells x ++ E.flat xs := rfl
theorem flat_app (xs ys : List α) : E.flat (xs ++ ys) = E.flat xs ++ E.flat ys := by simp [flat]
theorem flat_len (xs : List α) : (E.flat xs).length = xs.length * E.sz := by
  induction xs with
  | nil => simp [flat_nil]
  | cons x xs ih => simp [flat_cons, ih, E.len, Nat.add_mul]; omega
theorem flat_one (xs : List α) : ∀ v ∈ E.flat xs, v.oneCell' = true := by
  intro v hv
  obtain ⟨x, _, hx⟩ := List.mem_flatMap.1 hv
  exact E.one x v hx
end El

/-- A slice value of address A and capacity c reads as xs. -/
structure Sl {α : Type} (E : El α) (w : World) (A : Option Addr) (c : Nat) (xs : List α) : Prop where
  le : xs.length ≤ c
  cap : c ≤ 9223372036854775807
  at_ : xs ≠ [] → ∃ b o, A = some ⟨b, o, none⟩ ∧ w.rangeAt b o (E.flat xs)

/-- Is the address in a block of which S speaks? -/
def InB (S : Nat → Prop) (A : Option Addr) : Prop := ∃ a, A = some a ∧ S a.block

namespace Sl
variable {α : Type} {E : El α} {w w1 : World} {A : Option Addr} {c : Nat} {xs : List α}
theorem keep {S : Nat → Prop} (h : Sl E w A c xs) (k : Keep S w w1) (hs : ¬ InB S A) : Sl E w1 A c xs :=
  ⟨h.le, h.cap, fun hx => let ⟨b, o, hA, hr⟩ := h.at_ hx; ⟨b, o, hA, k.range hr (fun hb => hs ⟨_, hA, hb⟩)⟩⟩
theorem below (h : Sl E w A c xs) (k : Below w.heap.size w w1) : Sl E w1 A c xs :=
  h.keep (Keep.of_below k (fun _ => False)) (fun ⟨_, _, hf⟩ => hf)
theorem nil_ (E : El α) (w : World) (A : Option Addr) {c : Nat} (hc : c ≤ 9223372036854775807) : Sl E w A c ([] : List α) := ⟨Nat.zero_le _, hc, fun h => absurd rfl h⟩
theorem elem (h : Sl E w A c xs) {i : Nat} (hi : i < xs.length) : ∃ b o, A = some ⟨b, o, none⟩ ∧ w.rangeAt b (o + i * E.sz) (E.cells xs[i]) := by
  obtain ⟨b, o, hA, hr⟩ := h.at_ (by intro e; simp [e] at hi)
  refine ⟨b, o, hA, ?_⟩
  have hs : xs = xs.take i ++ xs[i] :: xs.drop (i + 1) := by rw [List.getElem_cons_drop, List.take_append_drop]
  rw [hs, E.flat_app, E.flat_cons, range_app, range_app, E.flat_len, List.length_take, Nat.min_eq_left (by omega)] at hr
  exact hr.2.1
end Sl

/-- where a slice's rest begins: behind k elements of sz cells (at the end of the capacity the address stays). -/
def cutA (A : Option Addr) (c k sz : Nat) : Option Addr := if c - k = 0 then A else A.map (·.add (k * sz))
theorem Sl.drop {α : Type} {E : El α} {w : World} {A : Option Addr} {c : Nat} {xs : List α} (h : Sl E w A c xs) {k : Nat} (hk : k ≤ xs.length) : Sl E w (cutA A c k E.sz) (c - k) (xs.drop k) := by
  have hle := h.le
  have hcap := h.cap
  refine ⟨by rw [List.length_drop]; omega, by omega, fun hx => ?_⟩
  have hlt : k < xs.length := by
    by_cases hh : k < xs.length
    · exact hh
    · exact absurd (List.drop_eq_nil_of_le (by omega)) hx
  obtain ⟨b, o, hA, hr⟩ := h.at_ (by intro e; simp [e] at hlt)
  refine ⟨b, o + k * E.sz, ?_, ?_⟩
  · unfold cutA
    rw [if_neg (by omega), hA, Option.map_some, Addr.add_mid]
  · have hs : xs = xs.take k ++ xs.drop k := (List.take_append_drop _ _).symm
    rw [hs, E.flat_app, range_app, E.flat_len, List.length_take, Nat.min_eq_left (by omega)] at hr
    exact hr.2
theorem Sl.take {α : Type} {E : El α} {w : World} {A : Option Addr} {c : Nat} {xs : List α} (h : Sl E w A c xs) (k : Nat) : Sl E w A c (xs.take k) := by
  refine ⟨by have := h.le; rw [List.length_take]; omega, h.cap, fun hx => ?_⟩
  obtain ⟨b, o, hA, hr⟩ := h.at_ (by intro e; simp [e] at hx)
  refine ⟨b, o, hA, ?_⟩
  have hs : xs = xs.take k ++ xs.drop k := (List.take_append_drop _ _).symm
  rw [hs, E.flat_app, range_app] at hr
  exact hr.1
theorem inB_cutA {S : Nat → Prop} {A : Option Addr} {c k sz : Nat} (h : ¬ InB S A) : ¬ InB S (cutA A c k sz) := by
  unfold cutA
  split
  · exact h
  · rintro ⟨a, ha, hs⟩
    cases A with
    | none => simp at ha
    | some x =>
      simp at ha
      subst ha
      refine h ⟨x, rfl, ?_⟩
      have : (x.add (k * sz)).block = x.block := by unfold Addr.add; split <;> rfl
      rwa [this] at hs

/-! ### slice expressions -/
theorem run_slice_lh {P : Program} (w : World) (t e : TypeId) (sz : Nat) (ht : P.underlying t = some (.slice e)) (hsz : (P.info? e).map (·.size) = some sz) (A : Option Addr) (n c lo hi : Nat) (L H : Int) (hL : L = (lo : Int)) (hH : H = (hi : Int)) (h1 : lo ≤ hi) (h2 : hi ≤ c) :
    (Instr.slice t (.slice A n c) (some (.int .i64 L)) (some (.int .i64 H)) none).run P w = .ok (.slice (cutA A c lo sz) (hi - lo) (c - lo)) w := by
  subst hL; subst hH
  obtain ⟨i, hi', his⟩ := Option.map_eq_some_iff.1 hsz
  simp [Instr.slice, run_underlying ht, Instr.sliceBounds, Instr.sliceBound, sizeOf, typeInfo, hi', his, cutA, asIntOf, h1, h2]
  rcases Nat.eq_or_lt_of_le (show lo ≤ c by omega) with h | h
  · subst h; simp
  · rw [if_neg (by omega), if_neg (by omega)]
theorem run_slice_l {P : Program} (w : World) (t e : TypeId) (sz : Nat) (ht : P.underlying t = some (.slice e)) (hsz : (P.info? e).map (·.size) = some sz) (A : Option Addr) (n c lo : Nat) (L : Int) (hL : L = (lo : Int)) (h1 : lo ≤ n) (h2 : n ≤ c) :
    (Instr.slice t (.slice A n c) (some (.int .i64 L)) none none).run P w = .ok (.slice (cutA A c lo sz) (n - lo) (c - lo)) w := by
  subst hL
  obtain ⟨i, hi', his⟩ := Option.map_eq_some_iff.1 hsz
  simp [Instr.slice, run_underlying ht, Instr.sliceBounds, Instr.sliceBound, sizeOf, typeInfo, hi', his, cutA, asIntOf, h1]
  rcases Nat.eq_or_lt_of_le (show lo ≤ c by omega) with h | h
  · subst h; simp
  · rw [if_neg (by omega), if_neg (by omega)]
theorem run_slice_h {P : Program} (w : World) (t e : TypeId) (sz : Nat) (ht : P.underlying t = some (.slice e)) (hsz : (P.info? e).map (·.size) = some sz) (A : Option Addr) (n c hi : Nat) (H : Int) (hH : H = (hi : Int)) (h2 : hi ≤ c) :
    (Instr.slice t (.slice A n c) none (some (.int .i64 H)) none).run P w = .ok (.slice A hi c) w := by
  subst hH
  obtain ⟨i, hi', his⟩ := Option.map_eq_some_iff.1 hsz
  simp [Instr.slice, run_underlying ht, Instr.sliceBounds, Instr.sliceBound, sizeOf, typeInfo, hi', asIntOf, h2]
  cases A <;> simp [Addr.add]

/-! ### append in place, at any offset -/
section
variable {P : Program}
theorem run_append_in (w : World) (t ty e : TypeId) (i : TypeInfo) (ht : P.underlying t = some (.slice e)) (hi : P.info? e = some i)
    (b o sLen sCap : Nat) (A : Option Addr) (m c : Nat) (news : List Value) (hl : news.length = m * i.size) (hnews : news ≠ [] → ∃ a, A = some a ∧ ∀ j u, news[j]? = some u → w.cell? (a.add j) = some u) (h1 : ∀ u ∈ news, u.oneCell' = true)
    (hroom : sLen + m ≤ sCap) (hth : w.there b (o + sLen * i.size) news.length) :
    (Builtin.append_ #[t, t] ty #[.slice (some ⟨b, o, none⟩) sLen sCap, .slice A m c]).run P w =
      .ok (.slice (some ⟨b, o, none⟩) (sLen + m) sCap) (w.setCells b (o + sLen * i.size) news) := by
  have hst := run_storeCells_cells (P := P) b (o + sLen * i.size) news 0 w (fun j hj => by simpa using (hth j hj).1) (fun j hj => by simpa using (hth j hj).2) h1
  simp only [Nat.add_zero] at hst
  have hf : (Builtin.firstCells i.size m (.slice A m c)).run P w = .ok news.toArray w := by
    by_cases hn : news = []
    · subst hn
      have hm0 : m * i.size = 0 := by simpa using hl.symm
      cases A with
      | none => exact run_firstCells_none w i.size m m c
      | some a => exact run_firstCells_some w i.size m a m c [] (by simp [hm0]) (by simp)
    · obtain ⟨a, rfl, hc⟩ := hnews hn
      exact run_firstCells_some w i.size m a m c news hl hc
  simp [Builtin.append_, run_underlying ht, sizeOf, typeInfo, hi, Builtin.lenOf, hroom, hf, Addr.add_mid, hst]
theorem wp_append_E {α : Type} (E : El α) {w : World} {op : Oper} {a : Act} {K : Act → World → Prop} {Q : Exit → Act → World → Prop} (s x : Operand) (t : TypeId)
    (ho : op.op = .call { callee := .builtin .append, args := #[s, x], argTypes := #[t, t] }) (e : TypeId) (ht : P.underlying t = some (.slice e)) (hsz : (P.info? e).map (·.size) = some E.sz)
    (b o sLen sCap : Nat) (hs : a.eval s = .slice (some ⟨b, o, none⟩) sLen sCap) (A : Option Addr) (m c : Nat) (hx : a.eval x = .slice A m c) (ys : List α) (hm : ys.length = m) (hy : Sl E w A c ys)
    (hroom : sLen + m ≤ sCap) (hth : w.there b (o + sLen * E.sz) (m * E.sz))
    (h : ∀ w', w' = w.setCells b (o + sLen * E.sz) (E.flat ys) → K (a.put op.dst (.slice (some ⟨b, o, none⟩) (sLen + m) sCap)) w') : op.wp P a w K Q := by
  subst hm
  obtain ⟨i, hi, his⟩ := Option.map_eq_some_iff.1 hsz
  have hr := run_append_in (P := P) w t op.type e i ht hi b o sLen sCap A ys.length c (E.flat ys) (by rw [E.flat_len, his])
    (fun hn => by
      obtain ⟨b', o', hA, hr⟩ := hy.at_ (by intro e; subst e; exact hn rfl)
      exact ⟨_, hA, fun j u hj => by rw [Addr.add_mid]; exact hr j u hj⟩) (E.flat_one ys) hroom (by rw [his, E.flat_len]; exact hth)
  rw [his] at hr
  unfold Oper.wp execOp
  simp only [ho, resolve, invoke, builtin, Sem.run_bind, Sem.run_pure, Result.andThen_ok, List.map_toArray, List.map_cons, List.map_nil, hs, hx, hr]
  exact h _ rfl
theorem wpList_append_E {α : Type} (E : El α) {w : World} {op : Oper} {ops : Array Oper} {rest : List Oper} {a : Act} {Q : Exit → Act → World → Prop} (hgd : op.guard = none) (s x : Operand) (t : TypeId)
    (ho : op.op = .call { callee := .builtin .append, args := #[s, x], argTypes := #[t, t] }) (e : TypeId) (ht : P.underlying t = some (.slice e)) (hsz : (P.info? e).map (·.size) = some E.sz)
    (b o sLen sCap : Nat) (hs : a.eval s = .slice (some ⟨b, o, none⟩) sLen sCap) (A : Option Addr) (m c : Nat) (hx : a.eval x = .slice A m c) (ys : List α) (hm : ys.length = m) (hy : Sl E w A c ys)
    (hroom : sLen + m ≤ sCap) (hth : w.there b (o + sLen * E.sz) (m * E.sz))
    (h : ∀ w', w' = w.setCells b (o + sLen * E.sz) (E.flat ys) → wpList P ops Q rest (a.put op.dst (.slice (some ⟨b, o, none⟩) (sLen + m) sCap)) w') : wpList P ops Q (op :: rest) a w :=
  wpList_plain hgd fun _ hK => wp_append_E E s x t ho e ht hsz b o sLen sCap hs A m c hx ys hm hy hroom hth (fun w' hw' => hK _ _ (h w' hw'))
end
/-- one element in a block of its own -/
theorem Sl.one {α : Type} (E : El α) (w : World) (x : α) (cs : Array Value) (T : Nat) (hc : cs.toList = E.cells x) : Sl E (w.alloc (.cells cs T)) (some ⟨w.heap.size, 0, none⟩) 1 [x] :=
  ⟨Nat.le_refl _, by decide, fun _ => ⟨_, _, rfl, range_alloc_new w cs T _ (fun j v hv => by
    rw [E.flat_cons, E.flat_nil, List.append_nil, ← hc] at hv
    simpa using hv)⟩⟩
end Go.Proofs.YticnefkdkkjgcaaGreatDoor

/- Slices that may be written and grown: what an append makes of them, in place or in new memory. -/
namespace Go.Proofs.YticnefkdkkjgcaaGreatDoor
open Go.RowKit

/-- The slice of address A and capacity c reads as xs and may be written up to its capacity. -/
structure Ow {α : Type} (E : El α) (w : World) (A : Option Addr) (c : Nat) (xs : List α) : Prop where
  sl : Sl E w A c xs
  room : 0 < c → ∃ b o, A = some ⟨b, o, none⟩ ∧ w.there b o (c * E.sz)

/-- room for c elements -/
structure Rm {α : Type} (E : El α) (w : World) (A : Option Addr) (c : Nat) : Prop where
  cap : c ≤ 9223372036854775807
  room : 0 < c → ∃ b o, A = some ⟨b, o, none⟩ ∧ w.there b o (c * E.sz)
theorem Ow.rm {α : Type} {E : El α} {w : World} {A : Option Addr} {c : Nat} {xs : List α} (h : Ow E w A c xs) : Rm E w A c := ⟨h.sl.cap, h.room⟩
theorem Rm.keep {α : Type} {E : El α} {w w1 : World} {A : Option Addr} {c : Nat} {S : Nat → Prop} (h : Rm E w A c) (k : Keep S w w1) (hs : ¬ InB S A) : Rm E w1 A c :=
  ⟨h.cap, fun hc => let ⟨b, o, hA, ht⟩ := h.room hc; ⟨b, o, hA, k.there ht (fun hb => hs ⟨_, hA, hb⟩)⟩⟩

/-- A's block is one of S's. -/
def AtB (A : Option Addr) : Nat → Prop := fun k => ∃ a, A = some a ∧ a.block = k

namespace Ow
variable {α : Type} {E : El α} {w w1 : World} {A : Option Addr} {c : Nat} {xs : List α}
theorem keep {S : Nat → Prop} (h : Ow E w A c xs) (k : Keep S w w1) (hs : ¬ InB S A) : Ow E w1 A c xs :=
  ⟨h.sl.keep k hs, fun hc => let ⟨b, o, hA, ht⟩ := h.room hc; ⟨b, o, hA, k.there ht (fun hb => hs ⟨_, hA, hb⟩)⟩⟩
theorem below (h : Ow E w A c xs) (k : Below w.heap.size w w1) : Ow E w1 A c xs := h.keep (Keep.of_below k (fun _ => False)) (fun ⟨_, _, hf⟩ => hf)
theorem nil_ (E : El α) (w : World) (A : Option Addr) : Ow E w A 0 ([] : List α) := ⟨Sl.nil_ E w A (by decide), fun h => absurd h (by decide)⟩
/-- new memory -/
theorem new_ (E : El α) (w : World) (cs : Array Value) (T c : Nat) (xs : List α) (hl : xs.length ≤ c) (hc : c ≤ 9223372036854775807) (hs : cs.size = c * E.sz) (ht : ∀ (j : Nat) (v : Value), (E.flat xs)[j]? = some v → cs[j]? = some v) :
    Ow E (w.alloc (.cells cs T)) (some ⟨w.heap.size, 0, none⟩) c xs :=
  ⟨⟨hl, hc, fun _ => ⟨_, _, rfl, range_alloc_new w cs T _ ht⟩⟩, fun _ => ⟨_, _, rfl, there_alloc_new w cs T _ (by omega)⟩⟩
/-- whose block is the address's? -/
theorem lt (h : Ow E w A c xs) (hc : 0 < c) : ∃ b o, A = some ⟨b, o, none⟩ ∧ b < w.heap.size := by
  obtain ⟨b, o, hA, ht⟩ := h.room hc
  obtain ⟨h1, _⟩ := ht 0 (Nat.mul_pos hc E.pos)
  obtain ⟨u, hu⟩ := Option.isSome_iff_exists.1 h1
  exact ⟨b, o, hA, World.block_lt_of_cell? w _ hu⟩
end Ow

section
variable {P : Program}
theorem firstCells_Sl {α : Type} (E : El α) {w : World} {A : Option Addr} {c : Nat} {ys : List α} (hy : Sl E w A c ys) : (Builtin.firstCells E.sz ys.length (.slice A ys.length c)).run P w = .ok (E.flat ys).toArray w := by
  by_cases hn : ys = []
  · subst hn
    cases A with
    | none => exact run_firstCells_none w E.sz _ _ c
    | some a => exact run_firstCells_some w E.sz _ a _ c [] (by simp) (by simp)
  · obtain ⟨b, o, rfl, hr⟩ := hy.at_ hn
    exact run_firstCells_some w E.sz _ _ _ c _ (E.flat_len ys) (fun j v hv => by rw [Addr.add_mid]; exact hr j v hv)

/-- What an append answers: the value's address and capacity, the world behind it. -/
structure Appended {α : Type} (E : El α) (w : World) (A : Option Addr) (zs : List α) (A' : Option Addr) (c' : Nat) (w' : World) : Prop where
  ow : Ow E w' A' c' zs
  keep : Keep (AtB A) w w'
  lies : ∀ a, A' = some a → (∃ a0, A = some a0 ∧ a0.block = a.block) ∨ (a.block = w.heap.size ∧ w.heap.size < w'.heap.size)

theorem run_append_ow {α : Type} (E : El α) (w : World) (t ty e : TypeId) (z : Value) (bytes : Nat) (ht : P.underlying t = some (.slice e)) (hinfo : (P.info? e).map (fun i => (i.zero, i.size, i.bytes)) = some (some z, E.sz, bytes)) (hz : z.cells.size = E.sz)
    {A A2 : Option Addr} {c c2 : Nat} {xs ys : List α} (hx : Ow E w A c xs) (hy : Sl E w A2 c2 ys) (hb : (xs.length + ys.length) * bytes ≤ 140737488355328) (h63 : xs.length + ys.length ≤ 9223372036854775807) :
    ∃ A' c' w', (Builtin.append_ #[t, t] ty #[.slice A xs.length c, .slice A2 ys.length c2]).run P w = .ok (.slice A' (xs.length + ys.length) c') w' ∧ Appended E w A (xs ++ ys) A' c' w' := by
  obtain ⟨i, hi, hz0, hsz, hby⟩ := info_parts hinfo
  by_cases hroom : xs.length + ys.length ≤ c
  · by_cases hc : 0 < c
    · obtain ⟨b, o, rfl, hth⟩ := hx.room hc
      have hthn : w.there b (o + xs.length * E.sz) (ys.length * E.sz) := there_sub hth (by omega) (by rw [Nat.add_assoc, ← Nat.add_mul]; exact Nat.add_le_add_left (Nat.mul_le_mul_right _ hroom) _)
      refine ⟨some ⟨b, o, none⟩, c, w.setCells b (o + xs.length * E.sz) (E.flat ys), ?_, ⟨⟨⟨by rw [List.length_append]; exact hroom, hx.sl.cap, fun _ => ⟨b, o, rfl, ?_⟩⟩, fun _ => ⟨b, o, rfl, World.there_setCells hth _ _ _⟩⟩, ?_, fun a ha => .inl ⟨a, ha, rfl⟩⟩⟩
      · have hr := run_append_in (P := P) w t ty e i ht hi b o xs.length c A2 ys.length c2 (E.flat ys) (by rw [E.flat_len, hsz])
          (fun hn => by
            obtain ⟨b', o', hA, hr⟩ := hy.at_ (by intro e; subst e; exact hn rfl)
            exact ⟨_, hA, fun j u hj => by rw [Addr.add_mid]; exact hr j u hj⟩) (E.flat_one ys) hroom (by rw [hsz, E.flat_len]; exact hthn)
        rw [hsz] at hr
        exact hr
      · rw [E.flat_app, range_app, E.flat_len]
        refine ⟨?_, World.rangeAt_setCells_same _ _ _ _ (by rw [E.flat_len]; exact hthn)⟩
        by_cases hn : xs = []
        · subst hn; exact range_nil _ _ _
        · obtain ⟨b', o', hA, hr⟩ := hx.sl.at_ hn
          simp only [Option.some.injEq, Addr.mk.injEq, and_true] at hA
          obtain ⟨rfl, rfl⟩ := hA
          exact World.rangeAt_setCells_apart hr _ _ _ (.inr (.inl (by rw [E.flat_len]; omega)))
      · exact (Keep.refl _ w).setCells _ _ (fun _ => ⟨_, rfl, rfl⟩)
    · have hx0 : xs = [] := List.eq_nil_of_length_eq_zero (by omega)
      have hy0 : ys = [] := List.eq_nil_of_length_eq_zero (by omega)
      have hc0 : c = 0 := by omega
      subst hx0; subst hy0; subst hc0
      refine ⟨A, 0, w, ?_, ⟨⟨⟨by simp, by omega, fun h => absurd rfl h⟩, fun h => absurd h (by omega)⟩, Keep.refl _ _, fun a ha => .inl ⟨a, ha, rfl⟩⟩⟩
      have hf := firstCells_Sl (P := P) E hy
      cases A <;> simp [Builtin.append_, run_underlying ht, sizeOf, typeInfo, hi, Builtin.lenOf, hsz, El.flat_nil] at hf ⊢ <;> simp [hf, storeCells]
  · have hge := grownCap_ge w (xs.length + ys.length) c e
    have hcm : grownCap w (xs.length + ys.length) c e ≤ 9223372036854775807 := by
      have := grownCap_le_maxLen w (xs.length + ys.length) c e (by unfold maxLen; omega)
      unfold maxLen at this; omega
    have hn : ¬ (xs.length + ys.length ≤ c) := hroom
    have h63' : ¬ (9223372036854775807 < ((xs.length : Int) + (ys.length : Int))) := by omega
    have hfit := growslice_fits (bytes := bytes) (show c < xs.length + ys.length by omega) hb
    have h48' : ¬ (281474976710656 < Builtin.nextslicecap (xs.length + ys.length) c * i.bytes) := by rw [hby]; omega
    have hk : Keep (fun _ => False) w w.drew := (Keep.refl _ w).drew
    have hf := firstCells_Sl (P := P) E (hy.keep hk (fun ⟨_, _, h⟩ => h))
    have hfo := firstCells_Sl (P := P) E (hx.sl.keep hk (fun ⟨_, _, h⟩ => h))
    refine ⟨some ⟨w.heap.size, 0, none⟩, grownCap w (xs.length + ys.length) c e, w.drew.alloc (.cells ((E.flat (xs ++ ys)).toArray ++ Builtin.zeroCells z.cells (grownCap w (xs.length + ys.length) c e - (xs.length + ys.length))) e), ?_, ⟨?_, ?_, ?_⟩⟩
    · simp [Builtin.append_, run_underlying ht, sizeOf, typeInfo, zeroValue, hi, hz0, hsz, Builtin.lenOf, hn, h63', h48', Question.forced, hf, hfo, newRow, grownCap, El.flat_app]
      congr 2
      apply Array.ext'
      simp [List.append_assoc]
    · refine Ow.new_ E w.drew _ e _ _ (by rw [List.length_append]; exact hge) hcm ?_ ?_
      · rw [Array.size_append, List.size_toArray, E.flat_len, size_zeroCells, hz, List.length_append, ← Nat.add_mul]
        congr 1; omega
      · intro j v hj
        have hjl := (List.getElem?_eq_some_iff.1 hj).1
        rw [Array.getElem?_append_left (by simpa using hjl)]
        simpa using hj
    · exact ((Keep.refl _ w).drew).alloc _
    · intro a ha
      simp only [Option.some.injEq] at ha
      subst ha
      exact .inr ⟨rfl, by simp⟩

theorem wp_append_ow {α : Type} (E : El α) {w : World} {op : Oper} {a : Act} {K : Act → World → Prop} {Q : Exit → Act → World → Prop} (s x : Operand) (t : TypeId)
    (ho : op.op = .call { callee := .builtin .append, args := #[s, x], argTypes := #[t, t] }) (e : TypeId) (z : Value) (bytes : Nat) (ht : P.underlying t = some (.slice e)) (hinfo : (P.info? e).map (fun i => (i.zero, i.size, i.bytes)) = some (some z, E.sz, bytes)) (hz : z.cells.size = E.sz)
    (A : Option Addr) (n c : Nat) (hs : a.eval s = .slice A n c) (xs : List α) (hn : xs.length = n) (hxs : Ow E w A c xs) (A2 : Option Addr) (m c2 : Nat) (hx : a.eval x = .slice A2 m c2) (ys : List α) (hm : ys.length = m) (hys : Sl E w A2 c2 ys)
    (hb : (n + m) * bytes ≤ 140737488355328) (h63 : n + m ≤ 9223372036854775807)
    (h : ∀ A' c' w', Appended E w A (xs ++ ys) A' c' w' → K (a.put op.dst (.slice A' (n + m) c')) w') : op.wp P a w K Q := by
  subst hn; subst hm
  obtain ⟨A', c', w', hr, hap⟩ := run_append_ow (P := P) E w t op.type e z bytes ht hinfo hz hxs hys hb h63
  unfold Oper.wp execOp
  simp only [ho, resolve, invoke, builtin, Sem.run_bind, Sem.run_pure, Result.andThen_ok, List.map_toArray, List.map_cons, List.map_nil, hs, hx, hr]
  exact h _ _ _ hap
theorem wpList_append_ow {α : Type} (E : El α) {w : World} {op : Oper} {ops : Array Oper} {rest : List Oper} {a : Act} {Q : Exit → Act → World → Prop} (hgd : op.guard = none) (s x : Operand) (t : TypeId)
    (ho : op.op = .call { callee := .builtin .append, args := #[s, x], argTypes := #[t, t] }) (e : TypeId) (z : Value) (bytes : Nat) (ht : P.underlying t = some (.slice e)) (hinfo : (P.info? e).map (fun i => (i.zero, i.size, i.bytes)) = some (some z, E.sz, bytes)) (hz : z.cells.size = E.sz)
    (A : Option Addr) (n c : Nat) (hs : a.eval s = .slice A n c) (xs : List α) (hn : xs.length = n) (hxs : Ow E w A c xs) (A2 : Option Addr) (m c2 : Nat) (hx : a.eval x = .slice A2 m c2) (ys : List α) (hm : ys.length = m) (hys : Sl E w A2 c2 ys)
    (hb : (n + m) * bytes ≤ 140737488355328) (h63 : n + m ≤ 9223372036854775807)
    (h : ∀ A' c' w', Appended E w A (xs ++ ys) A' c' w' → wpList P ops Q rest (a.put op.dst (.slice A' (n + m) c')) w') : wpList P ops Q (op :: rest) a w :=
  wpList_plain hgd fun _ hK => wp_append_ow E s x t ho e z bytes ht hinfo hz A n c hs xs hn hxs A2 m c2 hx ys hm hys hb h63 (fun A' c' w' h' => hK _ _ (h A' c' w' h'))

/-! ### make -/
theorem flat_rep_get {α : Type} (E : El α) (x : α) : ∀ (l j : Nat), j < l * E.sz → (E.flat (List.replicate l x))[j]? = (E.cells x)[j % E.sz]?
  | 0, j, h => by simp at h
  | l + 1, j, h => by
    rw [List.replicate_succ, El.flat_cons]
    have hp := E.pos
    by_cases hj : j < E.sz
    · rw [List.getElem?_append_left (by rw [E.len]; exact hj), Nat.mod_eq_of_lt hj]
    · rw [List.getElem?_append_right (by rw [E.len]; omega), E.len, flat_rep_get E x l (j - E.sz) (by rw [Nat.add_mul] at h; omega), Nat.mod_eq_sub_mod (by omega : j ≥ E.sz)]
theorem ow_made {α : Type} (E : El α) (w : World) (e : TypeId) (z : Value) (x : α) (hz : z.cells.toList = E.cells x) (l c : Nat) (hl : l ≤ c) (hc : c ≤ 9223372036854775807) :
    Ow E (w.alloc (.cells (madeCells z.cells (c * E.sz)) e)) (some ⟨w.heap.size, 0, none⟩) c (List.replicate l x) := by
  refine Ow.new_ E w _ e c _ (by simpa using hl) hc (size_madeCells _ _) (fun j v hj => ?_)
  have hjl := (List.getElem?_eq_some_iff.1 hj).1
  rw [E.flat_len, List.length_replicate] at hjl
  rw [flat_rep_get E x l j hjl, ← hz] at hj
  have hsz : z.cells.size = E.sz := by rw [← Array.length_toList, hz, E.len]
  have hlt : j < c * E.sz := Nat.lt_of_lt_of_le hjl (Nat.mul_le_mul_right _ hl)
  have hm : j % E.sz < z.cells.size := by rw [hsz]; exact Nat.mod_lt _ E.pos
  simp only [madeCells, Array.getElem?_map, Array.getElem?_range, hlt, if_true, Option.map_some]
  rw [hsz, ← hj, Array.getElem?_toList, getElem!_pos z.cells _ hm, Array.getElem?_eq_getElem hm]
theorem rm_made {α : Type} (E : El α) (w : World) (e : TypeId) (z : Value) (c : Nat) (hc : c ≤ 9223372036854775807) :
    Rm E (w.alloc (.cells (madeCells z.cells (c * E.sz)) e)) (some ⟨w.heap.size, 0, none⟩) c :=
  ⟨hc, fun _ => ⟨_, _, rfl, there_alloc_new w _ e _ (by rw [size_madeCells]; exact Nat.le_refl _)⟩⟩
theorem wpList_make_E {α : Type} (E : El α) {w : World} {op : Oper} {ops : Array Oper} {rest : List Oper} {a : Act} {Q : Exit → Act → World → Prop} (hgd : op.guard = none) (lo co : Operand) (t : TypeId)
    (ho : op.op = .makeSlice t lo co) (e : TypeId) (z : Value) (bytes : Nat) (ht : P.underlying t = some (.slice e)) (hinfo : (P.info? e).map (fun i => (i.zero, i.size, i.bytes)) = some (some z, E.sz, bytes)) 
    (l c : Nat) (L C : Int) (hlo : a.eval lo = .int .i64 L) (hL : L = (l : Int)) (hco : a.eval co = .int .i64 C) (hC : C = (c : Int)) (hlc : l ≤ c) (hb : bytes * c ≤ 281474976710656) (h63 : c ≤ 9223372036854775807)
    (h : ∀ w', Hid (w' = w.alloc (.cells (madeCells z.cells (c * E.sz)) e)) → wpList P ops Q rest (a.put op.dst (.slice (some ⟨w.heap.size, 0, none⟩) l c)) w') : wpList P ops Q (op :: rest) a w := by
  refine wpList_plain hgd fun K hK' => ?_
  obtain ⟨i, hi, hz0, hsz, hby⟩ := info_parts hinfo
  subst hL; subst hC
  have hb' : (i.bytes : Int) * (c : Int) ≤ 281474976710656 := by
    have h : ((i.bytes * c : Nat) : Int) ≤ 281474976710656 := by rw [hby]; omega
    rwa [Int.natCast_mul] at h
  have hr := run_make (P := P) w t e i z ht hi hz0 .i64 .i64 l c (by omega) (by omega) hb' (by omega)
  simp only [Int.toNat_natCast, hsz] at hr
  unfold Oper.wp
  simp only [execOp, ho, hlo, hco, Sem.run_bind, hr, Result.andThen_ok, Sem.run_pure]
  exact hK' _ _ (h _ rfl)
end
end Go.Proofs.YticnefkdkkjgcaaGreatDoor

/- What packread.Read answers, in plain Lean: values, texts' encodings, items. -/
namespace Go.Proofs.YticnefkdkkjgcaaGreatDoor

/-- a value, its kind by number -/
inductive V where
  | mk (kind n : Nat) (neg : Bool) (mag : List Nat) (bits : Nat) (ext : Int) (text : ByteArray) (kids : List V)

def V.nul : V := .mk 1 0 false [] 0 0 ⟨#[]⟩ []
def V.boo (n : Nat) : V := .mk 2 n false [] 0 0 ⟨#[]⟩ []
def V.int (neg : Bool) (mag : List Nat) : V := .mk 3 0 neg mag 0 0 ⟨#[]⟩ []
def V.flo (bits : Nat) : V := .mk 4 0 false [] bits 0 ⟨#[]⟩ []
def V.tex (t : ByteArray) : V := .mk 5 0 false [] 0 0 t []
def V.byt (t : ByteArray) : V := .mk 6 0 false [] 0 0 t []
def V.lis (l : List V) : V := .mk 7 0 false [] 0 0 ⟨#[]⟩ l
def V.map (l : List V) : V := .mk 8 0 false [] 0 0 ⟨#[]⟩ l
def V.xt (e : Int) (t : ByteArray) : V := .mk 11 0 false [] 0 e t []

/-- a text's bytes as numbers -/
def bl (s : ByteArray) : List Nat := s.data.toList.map (·.toNat)

/-! ### code points -/
def pointN (r : Nat) : Bool := decide (r ≤ 0x10ffff) && (decide (r < 0xd800) || decide (0xdfff < r))
/-- so many bytes more that go on -/
def contN : List Nat → Nat → Nat → Option Nat
  | _, 0, r => some r
  | [], _ + 1, _ => none
  | b :: l, n + 1, r => if b / 64 = 2 then contN l n (r * 64 + b % 64) else none
/-- the code point at the list's head, and how many bytes it has -/
def utfN (l : List Nat) : Option (Nat × Nat) :=
  match l with
  | [] => none
  | c :: l =>
    if c < 0x80 then some (c, 1)
    else if c / 32 = 6 then (contN l 1 (c % 32)).bind fun r => if 0x80 ≤ r ∧ pointN r = true then some (r, 2) else none
    else if c / 16 = 14 then (contN l 2 (c % 16)).bind fun r => if 0x800 ≤ r ∧ pointN r = true then some (r, 3) else none
    else if c / 8 = 30 then (contN l 3 (c % 8)).bind fun r => if 0x10000 ≤ r ∧ pointN r = true then some (r, 4) else none
    else none
/-- how many bytes it has -/
def utfK (l : List Nat) : Option Nat := (utfN l).map (·.2)

/-- of how many bytes an encoding is that a byte begins -/
def leadK (b : Nat) : Option Nat :=
  if b < 0x80 then some 1 else if 0xc2 ≤ b ∧ b < 0xe0 then some 2 else if 0xe0 ≤ b ∧ b < 0xf0 then some 3 else if 0xf0 ≤ b ∧ b < 0xf5 then some 4 else none
/-- does some encoding of k bytes begin with these, by packread's tries? -/
def goodN (l : List Nat) (k : Nat) : Bool := utfK l == some k || utfK (l ++ [0x80]) == some k || utfK (l ++ [0x80, 0x80]) == some k
/-- the first i, from one on, up to k and the length, with which none goes on -/
def withinN (l : List Nat) (k : Nat) : Nat → Nat → Option Nat
  | 0, _ => none
  | n + 1, i => if i < k ∧ i < l.length then if goodN (l.take (i + 1)) k then withinN l k n (i + 1) else some i else none
/-- where no encoding stands: the first wrong byte within n -/
def firstN (l : List Nat) (n : Nat) : Option Nat :=
  match l with
  | [] => some 0
  | b :: _ => match leadK b with
    | none => some 0
    | some k => if n < k then some 0 else withinN l k 4 1
/-- a text's first wrong byte; n: how much it has room; the first number: fuel -/
def scanN : Nat → List Nat → Nat → Option Nat
  | 0, _, _ => none
  | m + 1, l, n => match l with
    | [] => none
    | _ => match utfK l with
      | some k => (scanN m (l.drop k) (n - k)).map (· + k)
      | none => firstN l n

/-! ### items -/
inductive R (α : Type) where
  | ok (v : α) (at_ : Nat)
  | bad (code at_ : Nat)

namespace R
def bind {α β : Type} (r : R α) (f : α → Nat → R β) : R β := match r with
  | .ok v p => f v p
  | .bad c p => .bad c p
end R

def takeR (s : ByteArray) (at_ n : Nat) : R ByteArray := if s.size - at_ < n then .bad 3 s.size else .ok (s.extract at_ (at_ + n)) (at_ + n)
def beN (l : List Nat) : Nat := l.foldl (fun x b => x * 256 + b) 0

inductive Fam where
  | whole | pairs | list | text | below | word | bytes | ext | single | double | signed

/-- the family of a first byte: how it is read, of how much, how many bytes tell that -/
def pickN (c : Nat) : Option (Fam × Nat × Nat) :=
  if c < 0x80 then some (.whole, c, 0)
  else if c < 0x90 then some (.pairs, c % 16, 0)
  else if c < 0xa0 then some (.list, c % 16, 0)
  else if c < 0xc0 then some (.text, c % 32, 0)
  else if 0xe0 ≤ c then some (.below, 256 - c, 0)
  else match c with
    | 0xc0 => some (.word, 0, 0)
    | 0xc2 => some (.word, 1, 0)
    | 0xc3 => some (.word, 2, 0)
    | 0xc4 => some (.bytes, 0, 1)
    | 0xc5 => some (.bytes, 0, 2)
    | 0xc6 => some (.bytes, 0, 4)
    | 0xc7 => some (.ext, 0, 1)
    | 0xc8 => some (.ext, 0, 2)
    | 0xc9 => some (.ext, 0, 4)
    | 0xca => some (.single, 0, 4)
    | 0xcb => some (.double, 0, 8)
    | 0xcc => some (.whole, 0, 1)
    | 0xcd => some (.whole, 0, 2)
    | 0xce => some (.whole, 0, 4)
    | 0xcf => some (.whole, 0, 8)
    | 0xd0 => some (.signed, 1, 0)
    | 0xd1 => some (.signed, 2, 0)
    | 0xd2 => some (.signed, 4, 0)
    | 0xd3 => some (.signed, 8, 0)
    | 0xd4 => some (.ext, 1, 0)
    | 0xd5 => some (.ext, 2, 0)
    | 0xd6 => some (.ext, 4, 0)
    | 0xd7 => some (.ext, 8, 0)
    | 0xd8 => some (.ext, 16, 0)
    | 0xd9 => some (.text, 0, 1)
    | 0xda => some (.text, 0, 2)
    | 0xdb => some (.text, 0, 4)
    | 0xdc => some (.list, 0, 2)
    | 0xdd => some (.list, 0, 4)
    | 0xde => some (.pairs, 0, 2)
    | 0xdf => some (.pairs, 0, 4)
    | _ => none

/-- The words on which a reading stands: what a pattern of 32, of 64 bits is; what bytes are in two's complement; how values stand to one another. -/
structure Words where
  single : Nat → V
  double : Nat → V
  whole : Nat → V
  below : Nat → V
  twos : ByteArray → V
  cmp : V → V → Int

variable (D : Words)

/-- behind how many pairs a key goes in: told from the end -/
def placeN (acc : List V) (key : V) : Nat → Nat
  | 0 => 0
  | m + 1 => if 0 ≤ D.cmp (acc.getD (2 * m) V.nul) key then placeN acc key m else m + 1
def insN (acc : List V) (m : Nat) (key x : V) : List V := acc.take (2 * m) ++ key :: x :: acc.drop (2 * m)
def dupN (acc : List V) (m : Nat) (key : V) : Bool := decide (2 * m < acc.length) && decide (D.cmp (acc.getD (2 * m) V.nul) key = 0)
def roundsN (it : Nat → R V) : Nat → Nat → List V → R (List V)
  | 0, p, acc => .ok acc p
  | n + 1, p, acc => (it p).bind fun v p' => roundsN it n p' (acc ++ [v])
def pairsN (it : Nat → R V) : Nat → Nat → List V → R (List V)
  | 0, p, acc => .ok acc p
  | n + 1, p, acc => (it p).bind fun key p1 =>
    if dupN D acc (placeN D acc key (acc.length / 2)) key = true then .bad 3 p
    else (it p1).bind fun x p2 => pairsN it n p2 (insN acc (placeN D acc key (acc.length / 2)) key x)
/-- a text of n bytes -/
def textR (s : ByteArray) (p n : Nat) : R ByteArray :=
  match scanN (s.size - p) (bl (s.extract p (p + min n (s.size - p)))) n with
  | some i => .bad 3 (p + i)
  | none => takeR s p n
/-- behind the head: what is read of a family; from: where the item begins -/
def famR (s : ByteArray) (inner : Option (Nat → R V)) (from_ : Nat) (f : Fam) (n p : Nat) : R V :=
  match f with
  | .word => .ok (if n = 0 then V.nul else V.boo (n - 1)) p
  | .whole => .ok (D.whole n) p
  | .below => .ok (D.below n) p
  | .single => .ok (D.single n) p
  | .double => .ok (D.double n) p
  | .signed => (takeR s p n).bind fun t p' => .ok (D.twos t) p'
  | .bytes => (takeR s p n).bind fun t p' => .ok (V.byt t) p'
  | .ext => (takeR s p 1).bind fun e p1 => (takeR s p1 n).bind fun t p2 => .ok (V.xt (let c := (bl e).headD 0; if c < 128 then c else (c : Int) - 256) t) p2
  | .text => (textR s p n).bind fun t p' => .ok (V.tex t) p'
  | .list => match inner with
    | none => .bad 5 from_
    | some it => (roundsN it n p []).bind fun l p' => .ok (V.lis l) p'
  | .pairs => match inner with
    | none => .bad 5 from_
    | some it => (pairsN D it n p []).bind fun l p' => .ok (V.map l) p'
def itemF (s : ByteArray) (inner : Option (Nat → R V)) (p : Nat) : R V :=
  (takeR s p 1).bind fun t p1 => match pickN ((bl t).headD 0) with
    | none => .bad 3 p
    | some (f, n, w) =>
      if w = 0 then famR D s inner p f n p1
      else (takeR s p1 w).bind fun t p2 => famR D s inner p f (beN (bl t)) p2
/-- an item at a place, so many containers more may be open -/
def itemN (s : ByteArray) : Nat → Nat → R V
  | 0, p => itemF D s none p
  | d + 1, p => itemF D s (some (itemN s d)) p
def readN (s : ByteArray) : R V := (itemN D s 128 0).bind fun v p => if p < s.size then .bad 3 p else .ok v p
end Go.Proofs.YticnefkdkkjgcaaGreatDoor

/- Values in memory: rows of eight cells, their limbs and kids; errors with a place; the package's variables. -/
namespace Go.Proofs.YticnefkdkkjgcaaGreatDoor
open Go.RowKit

/-- a limb -/
def EU : El Nat where
  sz := 1
  pos := by decide
  cells := fun x => [.int .u32 (x : Int)]
  len := fun _ => rfl
  one := fun x v h => by simp at h; subst h; rfl
  val := fun x => .int .u32 (x : Int)

/-- an api.Value's cells -/
structure Raw where
  kind : Nat
  n : Nat
  neg : Bool
  mA : Option Addr
  mL : Nat
  mC : Nat
  bits : Nat
  ext : Int
  text : ByteArray
  kA : Option Addr
  kL : Nat
  kC : Nat

def ER : El Raw where
  sz := 8
  pos := by decide
  cells := fun r => [.int .i8 (r.kind : Int), .int .u64 (r.n : Int), .bool r.neg, .slice r.mA r.mL r.mC, .int .u64 (r.bits : Int), .int .i8 r.ext, .string r.text, .slice r.kA r.kL r.kC]
  len := fun _ => rfl
  one := fun x v h => by simp at h; rcases h with rfl | rfl | rfl | rfl | rfl | rfl | rfl | rfl <;> rfl
  val := fun r => .agg #[.int .i8 (r.kind : Int), .int .u64 (r.n : Int), .bool r.neg, .slice r.mA r.mL r.mC, .int .u64 (r.bits : Int), .int .i8 r.ext, .string r.text, .slice r.kA r.kL r.kC]

def Raw.zero : Raw := ⟨0, 0, false, none, 0, 0, 0, 0, ⟨#[]⟩, none, 0, 0⟩

/-- the slice lies in blocks of D, if it has elements -/
def Lies {α : Type} (D : Nat → Prop) (A : Option Addr) (l : List α) : Prop := l ≠ [] → InB D A

mutual
/-- The cells r are those of the value; what hangs on them lies in blocks of D. -/
def Tr (W : World) (D : Nat → Prop) (r : Raw) : V → Prop
  | .mk k n neg mag bits ext text kids => r.kind = k ∧ r.n = n ∧ r.neg = neg ∧ r.bits = bits ∧ r.ext = ext ∧ r.text = text ∧
      (r.mL = mag.length ∧ Sl EU W r.mA r.mC mag ∧ Lies D r.mA mag) ∧
      ∃ rs : List Raw, r.kL = rs.length ∧ Sl ER W r.kA r.kC rs ∧ Lies D r.kA rs ∧ TrL W D rs kids
def TrL (W : World) (D : Nat → Prop) : List Raw → List V → Prop
  | [], [] => True
  | r :: rs, v :: vs => Tr W D r v ∧ TrL W D rs vs
  | _, _ => False
end

theorem Sl.keepD {α : Type} {E : El α} {W W' : World} {A : Option Addr} {c : Nat} {l : List α} {S D : Nat → Prop} (h : Sl E W A c l) (k : Keep S W W') (hl : Lies D A l) (hs : ∀ b, D b → ¬ S b) : Sl E W' A c l := by
  by_cases hn : l = []
  · subst hn
    exact ⟨h.le, h.cap, fun hx => absurd rfl hx⟩
  · exact h.keep k (fun ⟨a, ha, hS⟩ => by
      obtain ⟨a', ha', hD⟩ := hl hn
      rw [ha] at ha'
      cases ha'
      exact hs _ hD hS)
theorem Lies.mono {α : Type} {E : El α} {W : World} {A : Option Addr} {c : Nat} {l : List α} {D D' : Nat → Prop} (h : Lies D A l) (hs : Sl E W A c l) (hd : ∀ b, b < W.heap.size → D b → D' b) : Lies D' A l := fun hn => by
  obtain ⟨a, ha, hD⟩ := h hn
  refine ⟨a, ha, hd _ ?_ hD⟩
  obtain ⟨b, o, hA, hr⟩ := hs.at_ hn
  rw [ha] at hA
  cases hA
  have hp : 0 < (E.flat l).length := by
    rw [E.flat_len]
    exact Nat.mul_pos (List.length_pos_iff.2 hn) E.pos
  exact World.block_lt_of_cell? W ⟨b, o + 0, none⟩ (hr 0 _ (List.getElem?_eq_getElem hp))

mutual
theorem Tr.keep {W W' : World} {S D : Nat → Prop} (k : Keep S W W') (hs : ∀ b, D b → ¬ S b) : ∀ (v : V) (r : Raw), Tr W D r v → Tr W' D r v
  | .mk kind n neg mag bits ext text kids, r, h => by
    obtain ⟨h1, h2, h3, h4, h5, h6, ⟨h7, h8, h9⟩, rs, g1, g2, g3, g4⟩ := h
    exact ⟨h1, h2, h3, h4, h5, h6, ⟨h7, h8.keepD k h9 hs, h9⟩, rs, g1, g2.keepD k g3 hs, g3, TrL.keep k hs kids rs g4⟩
theorem TrL.keep {W W' : World} {S D : Nat → Prop} (k : Keep S W W') (hs : ∀ b, D b → ¬ S b) : ∀ (vs : List V) (rs : List Raw), TrL W D rs vs → TrL W' D rs vs
  | [], [], _ => trivial
  | v :: vs, r :: rs, h => ⟨Tr.keep k hs v r h.1, TrL.keep k hs vs rs h.2⟩
  | [], _ :: _, h => h
  | _ :: _, [], h => h
end
mutual
theorem Tr.mono {W : World} {D D' : Nat → Prop} (hd : ∀ b, b < W.heap.size → D b → D' b) : ∀ (v : V) (r : Raw), Tr W D r v → Tr W D' r v
  | .mk kind n neg mag bits ext text kids, r, h => by
    obtain ⟨h1, h2, h3, h4, h5, h6, ⟨h7, h8, h9⟩, rs, g1, g2, g3, g4⟩ := h
    exact ⟨h1, h2, h3, h4, h5, h6, ⟨h7, h8, h9.mono h8 hd⟩, rs, g1, g2, g3.mono g2 hd, TrL.mono hd kids rs g4⟩
theorem TrL.mono {W : World} {D D' : Nat → Prop} (hd : ∀ b, b < W.heap.size → D b → D' b) : ∀ (vs : List V) (rs : List Raw), TrL W D rs vs → TrL W D' rs vs
  | [], [], _ => trivial
  | v :: vs, r :: rs, h => ⟨Tr.mono hd v r h.1, TrL.mono hd vs rs h.2⟩
  | [], _ :: _, h => h
  | _ :: _, [], h => h
end
theorem TrL.len {W : World} {D : Nat → Prop} : ∀ {rs : List Raw} {vs : List V}, TrL W D rs vs → rs.length = vs.length
  | [], [], _ => rfl
  | _ :: _, _ :: _, h => by simp [TrL.len h.2]
  | [], _ :: _, h => h.elim
  | _ :: _, [], h => h.elim
theorem TrL.get {W : World} {D : Nat → Prop} : ∀ {rs : List Raw} {vs : List V} (_ : TrL W D rs vs) (i : Nat) (h1 : i < rs.length) (h2 : i < vs.length), Tr W D rs[i] vs[i]
  | _ :: _, _ :: _, h, 0, _, _ => h.1
  | _ :: _, _ :: _, h, i + 1, h1, h2 => TrL.get h.2 i (by simpa using h1) (by simpa using h2)
  | [], [], _, _, h1, _ => absurd h1 (by simp)
  | [], _ :: _, h, _, _, _ => h.elim
  | _ :: _, [], h, _, _, _ => h.elim
theorem TrL.app {W : World} {D : Nat → Prop} : ∀ {rs rs' : List Raw} {vs vs' : List V}, TrL W D rs vs → TrL W D rs' vs' → TrL W D (rs ++ rs') (vs ++ vs')
  | [], _, [], _, _, h' => h'
  | _ :: _, _, _ :: _, _, h, h' => ⟨h.1, TrL.app h.2 h'⟩
  | [], _, _ :: _, _, h, _ => h.elim
  | _ :: _, _, [], _, h, _ => h.elim
theorem TrL.take {W : World} {D : Nat → Prop} : ∀ {rs : List Raw} {vs : List V} (_ : TrL W D rs vs) (n : Nat), TrL W D (rs.take n) (vs.take n)
  | _, _, _, 0 => by simp [TrL]
  | [], [], _, _ + 1 => trivial
  | _ :: _, _ :: _, h, n + 1 => ⟨h.1, TrL.take h.2 n⟩
  | [], _ :: _, h, _ + 1 => h.elim
  | _ :: _, [], h, _ + 1 => h.elim
theorem TrL.drop {W : World} {D : Nat → Prop} : ∀ {rs : List Raw} {vs : List V} (_ : TrL W D rs vs) (n : Nat), TrL W D (rs.drop n) (vs.drop n)
  | _, _, h, 0 => h
  | [], [], _, _ + 1 => trivial
  | _ :: _, _ :: _, h, n + 1 => TrL.drop h.2 n
  | [], _ :: _, h, _ + 1 => h.elim
  | _ :: _, [], h, _ + 1 => h.elim
end Go.Proofs.YticnefkdkkjgcaaGreatDoor

/- packread's reader: what stands in it, its errors, the bytes that it takes. -/
namespace Go.Proofs.YticnefkdkkjgcaaGreatDoor
open Go.RowKit

def nob : Nat → Prop := fun _ => False
/-- the block of the error of a number -/
def gerr : Nat → Nat
  | 1 => 0 | 2 => 2 | 3 => 3 | 4 => 4 | 5 => 1 | 6 => 5 | 7 => 6 | 8 => 7 | 9 => 8 | 10 => 9 | _ => 10
/-- the error of a number -/
def sent (sa : Nat → Addr) (c : Nat) : Value := .iface 260 (.pointer (some (sa c)))
/-- the table of math/bits, the shapes of ieee -/
def tzL : List Nat := [0, 1, 56, 2, 57, 49, 28, 3, 61, 58, 42, 50, 38, 29, 17, 4, 62, 47, 59, 36, 45, 43, 51, 22, 53, 39, 33, 30, 24, 18, 12, 5, 63, 55, 48, 27, 60, 41, 37, 16, 46, 35, 44, 21, 52, 32, 23, 11, 54, 26, 40, 15, 34, 20, 31, 10, 25, 14, 19, 9, 13, 8, 7, 6]
def shL : List Int := [10, -24, 5, 23, -149, 8, 52, -1074, 11]
/-- the kinds of typed's table -/
def kdL : List Nat := [1, 2, 3, 4, 1, 66, 67, 68, 5, 6, 7, 8, 0, 70, 71, 72, 9, 10, 11, 0, 73, 74, 75]
theorem _root_.Go.Lib.TabIs.keep {S : Nat → Prop} {W W' : World} (h : Lib.TabIs Tryz.prog W "internal/strconv.uint64pow10" .u64 Lib.pow10Tab) (k : Keep S W W') (hs : ¬ S 20) (hl : 20 < W.heap.size) : Lib.TabIs Tryz.prog W' "internal/strconv.uint64pow10" .u64 Lib.pow10Tab := by
  unfold Lib.TabIs World.var? at h ⊢
  rw [show Tryz.prog.globalNamed "internal/strconv.uint64pow10" = some 20 by kernel_rfl] at h ⊢
  simp only [Option.bind_some] at h ⊢
  rw [k.block _ hl hs]
  exact h
/-- The package's variables hold what they were laid with; all that is theirs lies below B. -/
structure GL (B : Nat) (sa : Nat → Addr) (W : World) : Prop where
  le : B ≤ W.heap.size
  lt : 21 ≤ B
  err : ∀ c, 1 ≤ c → c ≤ 11 → W.cell? ⟨gerr c, 0, none⟩ = some (sent sa c)
  sen : ∀ c, 1 ≤ c → c ≤ 11 → (sa c).block < B ∧ ∃ ca ta, W.heap[(sa c).block]? = some (.cells ca ta (0, 0))
  inj : ∀ c c', 1 ≤ c → c ≤ 11 → 1 ≤ c' → c' ≤ 11 → sa c = sa c' → c = c'
  tz : ∀ i, i < 64 → W.cell? ⟨16, i, none⟩ = some (.int .u8 (tzL.getD i 0 : Nat))
  sh : ∀ i, i < 9 → W.cell? ⟨15, i, none⟩ = some (.int .i64 (shL.getD i 0))
  kd : ∀ i, i < 23 → W.cell? ⟨11, i, none⟩ = some (.int .i8 (kdL.getD i 0 : Nat))
  pw : Lib.TabIs Tryz.prog W "internal/strconv.uint64pow10" .u64 Lib.pow10Tab
  et : W.cell? ⟨12, 0, none⟩ = some (.iface 194 (.agg #[.pointer (some ⟨22, 42, none⟩)]))
theorem gerr_lt (c : Nat) : gerr c < 21 := by unfold gerr; split <;> decide
theorem GL.keep {B : Nat} {sa : Nat → Addr} {W W' : World} {S : Nat → Prop} (h : GL B sa W) (k : Keep S W W') (hs : ∀ b, S b → B ≤ b) : GL B sa W' := by
  have hc : ∀ a v, a.block < 21 → W.cell? a = some v → W'.cell? a = some v := fun a v ha hv => k.cell hv (fun hS => by have := hs _ hS; have := h.lt; omega)
  exact ⟨Nat.le_trans h.le k.size, h.lt, fun c h1 h2 => hc _ _ (gerr_lt c) (h.err c h1 h2),
    fun c h1 h2 => by
      obtain ⟨g1, ca, ta, g2⟩ := h.sen c h1 h2
      exact ⟨g1, ca, ta, by rw [← g2]; exact k.block _ (Nat.lt_of_lt_of_le g1 h.le) (fun hS => by have := hs _ hS; omega)⟩,
    h.inj, fun i hi => hc _ _ (by show 16 < 21; decide) (h.tz i hi), fun i hi => hc _ _ (by show 15 < 21; decide) (h.sh i hi), fun i hi => hc _ _ (by show 11 < 21; decide) (h.kd i hi), h.pw.keep k (fun hS => by have := hs _ hS; have := h.lt; omega) (by have := h.lt; have := h.le; omega), hc _ _ (by show 12 < 21; decide) h.et⟩

theorem GL.drewN {B : Nat} {sa : Nat → Addr} {W : World} (h : GL B sa W) (n : Nat) : GL B sa (W.drewN n) := h.keep ((Keep.refl nob W).drewN n) (fun _ h => h.elim)

/-- a reader in block b -/
structure Rd (W : World) (b : Nat) (s : ByteArray) (p fr op : Nat) : Prop where
  c0 : W.cell? ⟨b, 0, none⟩ = some (.string s)
  c1 : W.cell? ⟨b, 1, none⟩ = some (.int .i64 (p : Int))
  c2 : W.cell? ⟨b, 2, none⟩ = some (.int .i64 (fr : Int))
  c3 : W.cell? ⟨b, 3, none⟩ = some (.int .i64 (op : Int))
  fz : ∀ i, i < 4 → W.frozen? ⟨b, i, none⟩ = false
theorem Rd.keep {W W' : World} {S : Nat → Prop} {b : Nat} {s : ByteArray} {p fr op : Nat} (h : Rd W b s p fr op) (k : Keep S W W') (hs : ¬ S b) : Rd W' b s p fr op :=
  ⟨k.cell h.c0 hs, k.cell h.c1 hs, k.cell h.c2 hs, k.cell h.c3 hs, fun i hi => by
    rw [← h.fz i hi]
    exact World.frozen?_of_block (k.block b (World.block_lt_of_cell? W _ h.c0) hs)⟩
theorem Rd.drewN {W : World} {b : Nat} {s : ByteArray} {p fr op : Nat} (h : Rd W b s p fr op) (n : Nat) : Rd (W.drewN n) b s p fr op := h.keep ((Keep.refl nob W).drewN n) (fun h => h)
theorem Rd.set1 {W : World} {b : Nat} {s : ByteArray} {p fr op : Nat} (h : Rd W b s p fr op) (q : Nat) : Rd (W.setCell ⟨b, 1, none⟩ (.int .i64 (q : Int))) b s q fr op :=
  ⟨by rw [World.cell?_setCell_other _ _ _ _ (by simp)]; exact h.c0, World.cell?_setCell_same _ _ _ h.c1, by rw [World.cell?_setCell_other _ _ _ _ (by simp)]; exact h.c2,
    by rw [World.cell?_setCell_other _ _ _ _ (by simp)]; exact h.c3, fun i hi => by rw [World.frozen?_setCell]; exact h.fz i hi⟩
theorem Rd.set2 {W : World} {b : Nat} {s : ByteArray} {p fr op : Nat} (h : Rd W b s p fr op) (q : Nat) : Rd (W.setCell ⟨b, 2, none⟩ (.int .i64 (q : Int))) b s p q op :=
  ⟨by rw [World.cell?_setCell_other _ _ _ _ (by simp)]; exact h.c0, by rw [World.cell?_setCell_other _ _ _ _ (by simp)]; exact h.c1, World.cell?_setCell_same _ _ _ h.c2,
    by rw [World.cell?_setCell_other _ _ _ _ (by simp)]; exact h.c3, fun i hi => by rw [World.frozen?_setCell]; exact h.fz i hi⟩
theorem Rd.set3 {W : World} {b : Nat} {s : ByteArray} {p fr op : Nat} (h : Rd W b s p fr op) (q : Nat) : Rd (W.setCell ⟨b, 3, none⟩ (.int .i64 (q : Int))) b s p fr q :=
  ⟨by rw [World.cell?_setCell_other _ _ _ _ (by simp)]; exact h.c0, by rw [World.cell?_setCell_other _ _ _ _ (by simp)]; exact h.c1, by rw [World.cell?_setCell_other _ _ _ _ (by simp)]; exact h.c2,
    World.cell?_setCell_same _ _ _ h.c3, fun i hi => by rw [World.frozen?_setCell]; exact h.fz i hi⟩
/-- An error of a number, at a place, in a block of D. -/
def FErr (sa : Nat → Addr) (W : World) (D : Nat → Prop) (e : Value) (c p : Nat) : Prop :=
  ∃ b, e = .iface 73 (.pointer (some ⟨b, 0, none⟩)) ∧ D b ∧ W.cell? ⟨b, 0, none⟩ = some (sent sa c) ∧ W.cell? ⟨b, 1, none⟩ = some (.int .i64 (p : Int)) ∧ W.cell? ⟨b, 2, none⟩ = some (.string ⟨#[]⟩)
theorem FErr.keep {sa : Nat → Addr} {W W' : World} {D S : Nat → Prop} {e : Value} {c p : Nat} (h : FErr sa W D e c p) (k : Keep S W W') (hs : ∀ b, D b → ¬ S b) : FErr sa W' D e c p := by
  obtain ⟨b, h0, h1, h2, h3, h4⟩ := h
  exact ⟨b, h0, h1, k.cell h2 (hs b h1), k.cell h3 (hs b h1), k.cell h4 (hs b h1)⟩
theorem FErr.mono {sa : Nat → Addr} {W : World} {D D' : Nat → Prop} {e : Value} {c p : Nat} (h : FErr sa W D e c p) (hd : ∀ b, b < W.heap.size → D b → D' b) : FErr sa W D' e c p := by
  obtain ⟨b, h0, h1, h2, h3, h4⟩ := h
  exact ⟨b, h0, hd b (World.block_lt_of_cell? W _ h2) h1, h2, h3, h4⟩

/-! ### results -/
theorem cells_val {w : World} {b : Nat} {r : Raw} (h : w.rangeAt b 0 (ER.cells r)) : w.cell? ⟨b, 0, none⟩ = some (.int .i8 (r.kind : Int)) ∧ w.cell? ⟨b, 1, none⟩ = some (.int .u64 (r.n : Int)) ∧ w.cell? ⟨b, 2, none⟩ = some (.bool r.neg) ∧
    w.cell? ⟨b, 3, none⟩ = some (.slice r.mA r.mL r.mC) ∧ w.cell? ⟨b, 4, none⟩ = some (.int .u64 (r.bits : Int)) ∧ w.cell? ⟨b, 5, none⟩ = some (.int .i8 r.ext) ∧ w.cell? ⟨b, 6, none⟩ = some (.string r.text) ∧ w.cell? ⟨b, 7, none⟩ = some (.slice r.kA r.kL r.kC) := by
  refine ⟨?_, ?_, ?_, ?_, ?_, ?_, ?_, ?_⟩
  · simpa using h 0 _ rfl
  · simpa using h 1 _ rfl
  · simpa using h 2 _ rfl
  · simpa using h 3 _ rfl
  · simpa using h 4 _ rfl
  · simpa using h 5 _ rfl
  · simpa using h 6 _ rfl
  · simpa using h 7 _ rfl
theorem load_val {w : World} {b : Nat} {r : Raw} (h : w.rangeAt b 0 (ER.cells r)) : (loadVar 39 ⟨b, 0, none⟩).run Tryz.prog w = .ok (ER.val r) w := by
  obtain ⟨h0, h1, h2, h3, h4, h5, h6, h7⟩ := cells_val h
  go_simp
  rfl
theorem range_new (w : World) (r : Raw) (T : TypeId) : (w.alloc (.cells (ER.cells r).toArray T)).rangeAt w.heap.size 0 (ER.cells r) := range_alloc_new w _ T _ (fun j v hj => by simpa using hj)
/-- of a value without limbs and kids -/
theorem Tr.flat (W : World) (D : Nat → Prop) (k n : Nat) (neg : Bool) (bits : Nat) (ext : Int) (text : ByteArray) : Tr W D ⟨k, n, neg, none, 0, 0, bits, ext, text, none, 0, 0⟩ (.mk k n neg [] bits ext text []) :=
  ⟨rfl, rfl, rfl, rfl, rfl, rfl, ⟨rfl, Sl.nil_ EU W none (Nat.zero_le _), fun h => absurd rfl h⟩, [], rfl, Sl.nil_ ER W none (Nat.zero_le _), fun h => absurd rfl h, trivial⟩
/-- a result in a cell and one beside it -/
theorem ret_vt {fn : Func} {p u : Tmp} {R : Ending → World → Prop} {a : Act} {w : World} {b : Nat} {r : Raw} {v : Value} (h : fn.results = #[.cell p 39, .tmp u]) (hp : a.tmps.getD p undef = .pointer (some ⟨b, 0, none⟩)) (hv : a.tmps.getD u undef = v) (hd : a.defers = [])
    (hr : w.rangeAt b 0 (ER.cells r)) (hR : R (.returned (.tuple #[ER.val r, v])) w) : bodyPost Tryz.prog fn R .ret a w := by
  refine bodyPost_ret ((results_cell_tmp h _ _ _).trans ?_) hd hR
  have h1 := load_val hr
  rw [hp, hv]
  simp [asAddr, h1]

/-! ### families without items within -/
/-- eight cells that may be written -/
theorem eight {W : World} {b : Nat} (h : W.there b 0 8) : ∃ v0 v1 v2 v3 v4 v5 v6 v7, (W.cell? ⟨b, 0, none⟩ = some v0 ∧ W.cell? ⟨b, 1, none⟩ = some v1 ∧ W.cell? ⟨b, 2, none⟩ = some v2 ∧ W.cell? ⟨b, 3, none⟩ = some v3 ∧
    W.cell? ⟨b, 4, none⟩ = some v4 ∧ W.cell? ⟨b, 5, none⟩ = some v5 ∧ W.cell? ⟨b, 6, none⟩ = some v6 ∧ W.cell? ⟨b, 7, none⟩ = some v7) ∧
    W.frozen? ⟨b, 0, none⟩ = false ∧ W.frozen? ⟨b, 1, none⟩ = false ∧ W.frozen? ⟨b, 2, none⟩ = false ∧ W.frozen? ⟨b, 3, none⟩ = false ∧ W.frozen? ⟨b, 4, none⟩ = false ∧ W.frozen? ⟨b, 5, none⟩ = false ∧ W.frozen? ⟨b, 6, none⟩ = false ∧ W.frozen? ⟨b, 7, none⟩ = false := by
  have c : ∀ j, j < 8 → ∃ v, W.cell? ⟨b, j, none⟩ = some v := fun j hj => by
    have := (h j hj).1
    rw [Nat.zero_add] at this
    exact Option.isSome_iff_exists.1 this
  have f : ∀ j, j < 8 → W.frozen? ⟨b, j, none⟩ = false := fun j hj => by
    have := (h j hj).2
    rwa [Nat.zero_add] at this
  obtain ⟨v0, c0⟩ := c 0 (by decide)
  obtain ⟨v1, c1⟩ := c 1 (by decide)
  obtain ⟨v2, c2⟩ := c 2 (by decide)
  obtain ⟨v3, c3⟩ := c 3 (by decide)
  obtain ⟨v4, c4⟩ := c 4 (by decide)
  obtain ⟨v5, c5⟩ := c 5 (by decide)
  obtain ⟨v6, c6⟩ := c 6 (by decide)
  obtain ⟨v7, c7⟩ := c 7 (by decide)
  exact ⟨v0, v1, v2, v3, v4, v5, v6, v7, ⟨c0, c1, c2, c3, c4, c5, c6, c7⟩, f 0 (by decide), f 1 (by decide), f 2 (by decide), f 3 (by decide), f 4 (by decide), f 5 (by decide), f 6 (by decide), f 7 (by decide)⟩
theorem range_put8 {W : World} {b : Nat} (r : Raw) (h : W.there b 0 8) : (W.setCells b 0 (ER.cells r)).rangeAt b 0 (ER.cells r) := World.rangeAt_setCells_same W b 0 _ h

end Go.Proofs.YticnefkdkkjgcaaGreatDoor

/- packread's families: bytes, extensions. -/
namespace Go.Proofs.YticnefkdkkjgcaaGreatDoor
open Go.RowKit

/-- a result's new cells -/
theorem start (w : World) : ∃ w0 b4, Hid (w.alloc (.cells #[.int .i8 0, .int .u64 0, .bool false, .slice none 0 0, .int .u64 0, .int .i8 0, .string ⟨#[]⟩, .slice none 0 0] 39) = w0) ∧ Hid (w.heap.size = b4) ∧ Hid (Keep nob w w0) ∧ Hid (w0.there b4 0 8) ∧ Hid (w.heap.size ≤ b4 ∧ b4 < w0.heap.size) :=
  ⟨_, _, Lib.hid rfl, Lib.hid rfl, Lib.hid ((Keep.refl _ _).alloc _), Lib.hid (there_alloc_new w _ _ 8 (Nat.le_refl _)), Lib.hid ⟨Nat.le_refl _, by simp⟩⟩
/-- a value's cells, stored one by one -/
theorem put8 {w1 : World} {b4 : Nat} (th : w1.there b4 0 8) (r : Raw) (a0 a1 a2 a3 a4 a5 a6 a7 : Value) (h : [a0, a1, a2, a3, a4, a5, a6, a7] = ER.cells r) :
    ∃ w2, Hid (((((((((w1.setCell ⟨b4, 0, none⟩ a0).setCell ⟨b4, 1, none⟩ a1).setCell ⟨b4, 2, none⟩ a2).setCell ⟨b4, 3, none⟩ a3).setCell ⟨b4, 4, none⟩ a4).setCell ⟨b4, 5, none⟩ a5).setCell ⟨b4, 6, none⟩ a6).setCell ⟨b4, 7, none⟩ a7) = w2) ∧
      w2.rangeAt b4 0 (ER.cells r) ∧ Keep (· = b4) w1 w2 := by
  refine ⟨_, Lib.hid rfl, ?_, ?_⟩
  · have := World.rangeAt_setCells_same w1 b4 0 [a0, a1, a2, a3, a4, a5, a6, a7] th
    rw [← h]
    exact this
  · exact (Keep.refl (· = b4) w1).setCells (b := b4) [a0, a1, a2, a3, a4, a5, a6, a7] 0 (fun _ => rfl)
end Go.Proofs.YticnefkdkkjgcaaGreatDoor

/- The builtin copy at elements of any number of cells. -/
namespace Go.Proofs.YticnefkdkkjgcaaGreatDoor
open Go.RowKit
section
variable {P : Program}
theorem run_copy_E {α : Type} (E : El α) (w : World) (dT sT ty e : TypeId) (ht : P.underlying dT = some (.slice e)) (hsz : (P.info? e).map (·.size) = some E.sz) (A A2 : Option Addr) (dLen dCap c2 : Nat) (ys : List α) (hy : Sl E w A2 c2 ys) (m : Nat) (hm : m = Nat.min ys.length dLen)
    (hroom : 0 < m → ∃ b o, A = some ⟨b, o, none⟩ ∧ w.there b o (m * E.sz)) :
    ∃ w', (Builtin.copy_ #[dT, sT] ty #[.slice A dLen dCap, .slice A2 ys.length c2]).run P w = .ok (goInt m) w' ∧ (m = 0 → w' = w) ∧ ∀ b o, 0 < m → A = some ⟨b, o, none⟩ → w' = w.setCells b o (E.flat (ys.take m)) := by
  obtain ⟨i, hi, his⟩ := Option.map_eq_some_iff.1 hsz
  have hyt : (ys.take m).length = m := by rw [List.length_take, hm]; exact Nat.min_eq_left (Nat.min_le_left _ _)
  have hf : (Builtin.firstCells E.sz m (.slice A2 ys.length c2)).run P w = .ok (E.flat (ys.take m)).toArray w := by
    by_cases hn : ys.take m = []
    · have hm0 : m = 0 := by rw [← hyt, hn]; rfl
      rw [hn, hm0]
      cases A2 with
      | none => exact run_firstCells_none w E.sz _ _ c2
      | some a => exact run_firstCells_some w E.sz _ a _ c2 [] (by simp) (by simp)
    · obtain ⟨b, o, hA, hr⟩ := (hy.take m).at_ hn
      subst hA
      exact run_firstCells_some w E.sz _ _ _ c2 _ (by rw [E.flat_len, hyt]) (fun j v hv => by rw [Addr.add_mid]; exact hr j v hv)
  rcases Nat.eq_zero_or_pos m with h0 | h0
  · refine ⟨w, ?_, fun _ => rfl, fun b o h => by omega⟩
    subst h0
    rw [List.take_zero, El.flat_nil] at hf
    cases A <;> simp [Builtin.copy_, run_underlying ht, Builtin.lenOf, sizeOf, typeInfo, hi, his, ← hm, hf, storeCells]
  · obtain ⟨b, o, rfl, hth⟩ := hroom h0
    have hl : (E.flat (ys.take m)).length = m * E.sz := by rw [E.flat_len, hyt]
    have hst := run_storeCells_cells (P := P) b o (E.flat (ys.take m)) 0 w (fun j hj => by simpa using (hth j (by omega)).1) (fun j hj => by simpa using (hth j (by omega)).2) (E.flat_one _)
    simp only [Nat.add_zero] at hst
    refine ⟨w.setCells b o (E.flat (ys.take m)), ?_, fun h => by omega, fun b' o' _ h => by cases h; rfl⟩
    simp [Builtin.copy_, run_underlying ht, Builtin.lenOf, sizeOf, typeInfo, hi, his, ← hm, hf, hst]
theorem wp_copy_E {α : Type} (E : El α) {w : World} {op : Oper} {a : Act} {K : Act → World → Prop} {Q : Exit → Act → World → Prop} (d x : Operand) (dT sT : TypeId)
    (ho : op.op = .call { callee := .builtin .copy, args := #[d, x], argTypes := #[dT, sT] }) (e : TypeId) (ht : P.underlying dT = some (.slice e)) (hsz : (P.info? e).map (·.size) = some E.sz)
    (A : Option Addr) (dLen dCap : Nat) (hd : a.eval d = .slice A dLen dCap) (A2 : Option Addr) (n c2 : Nat) (hx : a.eval x = .slice A2 n c2) (ys : List α) (hn : ys.length = n) (hy : Sl E w A2 c2 ys) (m : Nat) (hm : m = Nat.min n dLen)
    (hroom : 0 < m → ∃ b o, A = some ⟨b, o, none⟩ ∧ w.there b o (m * E.sz))
    (h : ∀ w', (m = 0 → w' = w) → (∀ b o, 0 < m → A = some ⟨b, o, none⟩ → w' = w.setCells b o (E.flat (ys.take m))) → K (a.put op.dst (goInt m)) w') : op.wp P a w K Q := by
  subst hn
  obtain ⟨w', hr, h1, h2⟩ := run_copy_E (P := P) E w dT sT op.type e ht hsz A A2 dLen dCap c2 ys hy m hm hroom
  unfold Oper.wp execOp
  simp only [ho, resolve, invoke, builtin, Sem.run_bind, Sem.run_pure, Result.andThen_ok, List.map_toArray, List.map_cons, List.map_nil, hd, hx, hr]
  exact h _ h1 h2
theorem wpList_copy_E {α : Type} (E : El α) {w : World} {op : Oper} {ops : Array Oper} {rest : List Oper} {a : Act} {Q : Exit → Act → World → Prop} (hgd : op.guard = none) (d x : Operand) (dT sT : TypeId)
    (ho : op.op = .call { callee := .builtin .copy, args := #[d, x], argTypes := #[dT, sT] }) (e : TypeId) (ht : P.underlying dT = some (.slice e)) (hsz : (P.info? e).map (·.size) = some E.sz)
    (A : Option Addr) (dLen dCap : Nat) (hd : a.eval d = .slice A dLen dCap) (A2 : Option Addr) (n c2 : Nat) (hx : a.eval x = .slice A2 n c2) (ys : List α) (hn : ys.length = n) (hy : Sl E w A2 c2 ys) (m : Nat) (hm : m = Nat.min n dLen)
    (hroom : 0 < m → ∃ b o, A = some ⟨b, o, none⟩ ∧ w.there b o (m * E.sz))
    (h : ∀ w', Hid (m = 0 → w' = w) → Hid (∀ b o, 0 < m → A = some ⟨b, o, none⟩ → w' = w.setCells b o (E.flat (ys.take m))) → wpList P ops Q rest (a.put op.dst (goInt m)) w') : wpList P ops Q (op :: rest) a w :=
  wpList_plain hgd fun _ hK => wp_copy_E E d x dT sT ho e ht hsz A dLen dCap hd A2 n c2 hx ys hn hy m hm hroom (fun w' h1 h2 => hK _ _ (h w' h1 h2))
end
/-- a whole slice copied into another's new memory -/
theorem copied {α : Type} {E : El α} {w w' : World} {A : Option Addr} {c m : Nat} {xs ys : List α} (ho : Ow E w A c xs) (hl : ys.length = m) (hx : xs.length = m) (h0 : m = 0 → w' = w) (h1 : ∀ b o, 0 < m → A = some ⟨b, o, none⟩ → w' = w.setCells b o (E.flat (ys.take m))) : Ow E w' A c ys ∧ Keep (AtB A) w w' := by
  rcases Nat.eq_zero_or_pos m with hm | hm
  · have := h0 hm
    subst this
    have e1 : ys = [] := List.eq_nil_of_length_eq_zero (by omega)
    have e2 : xs = [] := List.eq_nil_of_length_eq_zero (by omega)
    subst e1 e2
    exact ⟨ho, Keep.refl _ _⟩
  · have hc : 0 < c := by have := ho.sl.le; omega
    obtain ⟨b, o, rfl, hth⟩ := ho.room hc
    have := h1 b o hm rfl
    subst this
    rw [List.take_of_length_le (by omega)]
    have hth2 : w.there b o ((E.flat ys).length) := there_sub hth (Nat.le_refl _) (by rw [E.flat_len]; exact Nat.add_le_add_left (Nat.mul_le_mul_right _ (by have := ho.sl.le; omega)) _)
    exact ⟨⟨⟨by have := ho.sl.le; omega, ho.sl.cap, fun _ => ⟨b, o, rfl, World.rangeAt_setCells_same _ _ _ _ hth2⟩⟩, fun _ => ⟨b, o, rfl, World.there_setCells hth _ _ _⟩⟩, (Keep.refl _ w).setCells _ _ (fun _ => ⟨_, rfl, rfl⟩)⟩
end Go.Proofs.YticnefkdkkjgcaaGreatDoor

/- Natural numbers: lists of limbs without noughts at their end. -/
namespace Go.Proofs.YticnefkdkkjgcaaGreatDoor
open Go.RowKit

/-- how many limbs are left of the first n, noughts at their end dropped -/
def cutN (l : List Nat) : Nat → Nat
  | 0 => 0
  | n + 1 => if l.getD n 0 = 0 then cutN l n else n + 1
def cutL (l : List Nat) : List Nat := l.take (cutN l l.length)
theorem cutN_le (l : List Nat) : ∀ n, cutN l n ≤ n
  | 0 => Nat.le_refl _
  | n + 1 => by
    unfold cutN
    split
    · exact Nat.le_trans (cutN_le l n) (Nat.le_succ n)
    · exact Nat.le_refl _
theorem cutL_len (l : List Nat) : (cutL l).length = cutN l l.length := by
  unfold cutL
  rw [List.length_take]
  exact Nat.min_eq_left (cutN_le l _)
theorem infoU32 : (Tryz.prog.info? 82).map (fun i => (i.zero, i.size, i.bytes)) = some (some (.int .u32 0), 1, 4) := by kernel_rfl
theorem sizeU32 : (Tryz.prog.info? 82).map (·.size) = some 1 := by kernel_rfl
/-- a slice with both ends said -/
theorem run_slice_hm {P : Program} (w : World) (t e : TypeId) (sz : Nat) (ht : P.underlying t = some (.slice e)) (hsz : (P.info? e).map (·.size) = some sz) (A : Option Addr) (n c hi : Nat) (H M : Int) (hH : H = (hi : Int)) (hM : M = (hi : Int)) (h2 : hi ≤ c) :
    (Instr.slice t (.slice A n c) none (some (.int .i64 H)) (some (.int .i64 M))).run P w = .ok (.slice A hi hi) w := by
  subst hH
  subst hM
  obtain ⟨i, hi', his⟩ := Option.map_eq_some_iff.1 hsz
  simp [Instr.slice, run_underlying ht, Instr.sliceBounds, Instr.sliceBound, sizeOf, typeInfo, hi', asIntOf, h2]
  cases A <;> simp [Addr.add]

set_option maxRecDepth 100000 in
theorem cut_ok (A : Option Addr) (c L : Nat) (l : List Nat) (w : World) (hL : l.length = L) (h : Sl EU w A c l) :
    Calls Tryz.prog 106 #[.slice A L c] w fun e w' => e = .returned (.slice A (cutN l L) (cutN l L)) ∧ w' = w := by
  have H := Lib.hid h
  have HL := Lib.hid hL
  have hlc := h.le
  rw [hL] at hlc
  have hcc := h.cap
  clear h hL
  go_enter Tryz.func106, Tryz.ntmps106
  go_wp2_with (fail)
  go_loopw [3] (fun u3 wr => ∃ i : Nat, i ≤ L ∧ u3 = .int .i64 (i : Int) ∧ Hid (cutN l L = cutN l i) ∧ Hid (wr = w)) (fun u3 _ => (intOf u3).toNat)
  case atStart => exact ⟨L, Nat.le_refl _, rfl, Lib.hid rfl, Lib.hid rfl⟩
  case round =>
    obtain ⟨i, h1, rfl, HC, HW⟩ := hrel
    have HW2 := HW.out
    subst HW2
    rcases Nat.eq_zero_or_pos i with h0 | h0
    · subst h0
      go_wp2
      go_ret
      rw [HC.out]
      exact ⟨rfl, rfl⟩
    · obtain ⟨q, rfl⟩ : ∃ q, i = q + 1 := ⟨i - 1, by omega⟩
      obtain ⟨b1, o1, rfl, hx⟩ := (H.out).elem (i := q) (by rw [HL.out]; exact h1)
      have hx1 := hx 0 _ rfl
      simp only [EU, Nat.add_zero, Nat.mul_one] at hx1
      obtain ⟨x, HX⟩ : ∃ x, Hid (l[q]'(by rw [HL.out]; exact h1) = x) := ⟨_, Lib.hid rfl⟩
      rw [HX.out] at hx1
      have hp0 : (0 : Int) < ((q + 1 : Nat) : Int) := by omega
      have hw : IntKind.i64.wrap (((q + 1 : Nat) : Int) - 1) = (q : Int) := by rw [IntWalk.i64_left, IntWalk.wrap64_in _ ⟨by omega, by omega⟩]; omega
      have hq0 : (0 : Int) ≤ (q : Int) := by omega
      have hq1 : (q : Int) < (L : Int) := by omega
      have hget : Hid (l.getD q 0 = x) := by unfold Hid; rw [← HX.out, List.getD_eq_getElem?_getD, List.getElem?_eq_getElem (by rw [HL.out]; exact h1)]; rfl
      by_cases hz : x = 0
      · subst hz
        go_wp2
        refine ⟨⟨q, by omega, rfl, ?_, Lib.hid trivial⟩, by simp [intOf]⟩
        unfold Hid
        rw [HC.out, cutN, if_pos hget.out]
      · have hzi : ¬ (x : Int) = 0 := by omega
        go_wp2
        go_ret
        rw [HC.out, cutN, if_neg (by rw [hget.out]; exact hz)]
        exact ⟨rfl, rfl⟩
theorem cut_sl {A : Option Addr} {c : Nat} {l : List Nat} {w : World} (h : Sl EU w A c l) : Sl EU w A (cutN l l.length) (cutL l) := by
  have h1 := h.take (cutN l l.length)
  exact ⟨by rw [cutL_len]; exact Nat.le_refl _, Nat.le_trans (cutN_le l _) (Nat.le_trans h.le h.cap), h1.at_⟩

set_option maxRecDepth 100000 in
/-- Norm: a list of one's own without noughts at its end. -/
theorem nNorm_ok (A : Option Addr) (c L : Nat) (l : List Nat) (w : World) (hL : l.length = L) (h : Sl EU w A c l) (hl : L ≤ 1000000000) :
    Calls Tryz.prog 105 #[.slice A L c] w fun e w' => Keep nob w w' ∧ ∃ A' , e = .returned (.slice A' (cutN l L) (cutN l L)) ∧ Sl EU w' A' (cutN l L) (cutL l) ∧ Lies (fun k => w.heap.size ≤ k) A' (cutL l) := by
  have H := Lib.hid h
  have HL := Lib.hid hL
  have hlc := h.le
  rw [hL] at hlc
  have hcc := h.cap
  have hC := cut_ok A c L l w hL h
  have hn := cutN_le l L
  obtain ⟨n, HN⟩ : ∃ n, Hid (cutN l L = n) := ⟨_, Lib.hid rfl⟩
  rw [HN.out] at hC hn
  clear h hL
  go_enter Tryz.func105, Tryz.ntmps105
  go_upto_region 3 with (first
    | (go_at_call 106; go_must (refine hC.mono ?_); rintro e w1 ⟨rfl, rfl⟩)
    | (at_make; refine wpList_make_E EU rfl _ _ 34 rfl 82 _ 4 Tryz.underlying34 infoU32 n n _ _ rfl rfl rfl rfl (Nat.le_refl _) (by omega) (by omega) ?_; intro w2 HW2))
  have HO2 : Hid (Ow EU w2 (some ⟨w1.heap.size, 0, none⟩) n (List.replicate n (0 : Nat))) := by rw [HW2.out]; exact ow_made EU w1 82 (.int .u32 0) 0 rfl n n (Nat.le_refl _) (by omega)
  have HK2 : Hid (Keep nob w1 w2) := by rw [HW2.out]; exact (Keep.refl _ w1).alloc _
  clear HW2
  obtain ⟨bo, HBO⟩ : ∃ bo, Hid (w1.heap.size = bo) := ⟨_, Lib.hid rfl⟩
  rw [HBO.out] at HO2 ⊢
  have HC2 : Hid (Sl EU w2 A n (cutL l)) := by
    have h1 := cut_sl (H.out.keep HK2.out (fun ⟨_, _, h⟩ => h))
    rw [HL.out, HN.out] at h1
    exact h1
  have HCL : Hid ((cutL l).length = n) := by unfold Hid; rw [cutL_len, HL.out, HN.out]
  go_upto_region 4 with (refine wpList_copy_E EU rfl _ _ 34 34 rfl 82 Tryz.underlying34 sizeU32 (some ⟨bo, 0, none⟩) n n rfl A n n rfl (cutL l) HCL.out HC2.out n (by simp) (fun _ => HO2.out.room (by omega)) ?_; intro w3 h30 h31)
  obtain ⟨ho3, hk3⟩ := copied HO2.out HCL.out (List.length_replicate) h30.out h31.out
  go_wp2
  go_ret
  refine ⟨HK2.out.trans hk3 (fun k h1 h2 => ?_), some ⟨bo, 0, none⟩, by rw [HN.out]; rfl, by rw [HN.out]; exact ho3.sl, fun _ => ⟨_, rfl, ?_⟩⟩
  · obtain ⟨a, ha, hb⟩ := h2
    cases ha
    have := HBO.out
    simp only at hb
    omega
  · have := HBO.out
    simp only
    omega

/-! ### whole numbers -/
/-- a whole number's two cells -/
def intV (neg : Bool) (A : Option Addr) (n c : Nat) : Value := .agg #[.bool neg, .slice A n c]
theorem load_int {w : World} {b : Nat} {neg : Bool} {A : Option Addr} {n c : Nat} (h0 : w.cell? ⟨b, 0, none⟩ = some (.bool neg)) (h1 : w.cell? ⟨b, 1, none⟩ = some (.slice A n c)) : (loadVar 36 ⟨b, 0, none⟩).run Tryz.prog w = .ok (intV neg A n c) w := by
  go_simp
  rfl
theorem ret_int {fn : Func} {p : Tmp} {R : Ending → World → Prop} {a : Act} {w : World} {b : Nat} {neg : Bool} {A : Option Addr} {n c : Nat} (h : fn.results = #[.cell p 36]) (hp : a.tmps.getD p undef = .pointer (some ⟨b, 0, none⟩)) (hd : a.defers = [])
    (h0 : w.cell? ⟨b, 0, none⟩ = some (.bool neg)) (h1 : w.cell? ⟨b, 1, none⟩ = some (.slice A n c)) (hR : R (.returned (intV neg A n c)) w) : bodyPost Tryz.prog fn R .ret a w := by
  refine bodyPost_ret (v := intV neg A n c) ?_ hd hR
  have hl := load_int h0 h1
  have hp' : a.tmps[p]?.getD undef = .pointer (some ⟨b, 0, none⟩) := by rw [← hp]; simp
  simp [results, h, hp', asAddr, hl]
theorem int_new0 (w : World) (neg : Bool) (A : Option Addr) (n c : Nat) (T : TypeId) : (w.alloc (.cells #[.bool neg, .slice A n c] T)).cell? ⟨w.heap.size, 0, none⟩ = some (.bool neg) := by simp
theorem int_new1 (w : World) (neg : Bool) (A : Option Addr) (n c : Nat) (T : TypeId) : (w.alloc (.cells #[.bool neg, .slice A n c] T)).cell? ⟨w.heap.size, 1, none⟩ = some (.slice A n c) := by simp
/-- made: a sign (-1, 0, 1) and a size -/
theorem made_ok (sg : Int) (A : Option Addr) (n c : Nat) (w : World) : Calls Tryz.prog 125 #[.int .i8 sg, .slice A n c] w fun e w' =>
    e = .returned (intV (decide (sg = -1) && decide (0 < n)) A n c) ∧ Keep nob w w' := by
  by_cases h : sg = -1
  · subst h
    by_cases hn : 0 < n
    · have hn2 : (0 : Int) < (n : Int) := by omega
      go_enter Tryz.func125, Tryz.ntmps125
      go_wp2
      refine ret_int rfl rfl rfl (int_new0 _ _ _ _ _ _) (int_new1 _ _ _ _ _ _) ⟨?_, (Keep.refl _ _).alloc _⟩
      simp [hn]
    · have hn2 : ¬ (0 : Int) < (n : Int) := by omega
      go_enter Tryz.func125, Tryz.ntmps125
      go_wp2
      refine ret_int rfl rfl rfl (int_new0 _ _ _ _ _ _) (int_new1 _ _ _ _ _ _) ⟨?_, (Keep.refl _ _).alloc _⟩
      simp
  · go_enter Tryz.func125, Tryz.ntmps125
    go_wp2
    refine ret_int rfl rfl rfl (int_new0 _ _ _ _ _ _) (int_new1 _ _ _ _ _ _) ⟨?_, (Keep.refl _ _).alloc _⟩
    simp [h]

/-- the sign of a number in normal form, by its sign's cell and how many limbs it has -/
def sgn (neg : Bool) (n : Nat) : Int := if n = 0 then 0 else if neg then -1 else 1
set_option maxRecDepth 100000 in
theorem wsigned_ok (neg : Bool) (A : Option Addr) (c L : Nat) (l : List Nat) (w : World) (hL : l.length = L) (h : Sl EU w A c l) (hl : L ≤ 1000000000) :
    Calls Tryz.prog 74 #[intV neg A L c] w fun e w' => Keep nob w w' ∧ ∃ A', e = .returned (.tuple #[.int .i8 (sgn neg (cutN l L)), .slice A' (cutN l L) (cutN l L)]) ∧ Sl EU w' A' (cutN l L) (cutL l) ∧ Lies (fun k => w.heap.size ≤ k) A' (cutL l) := by
  have k0 : Keep nob w (w.alloc (.cells #[.bool neg, .slice A L c] 36)) := (Keep.refl _ _).alloc _
  have hN := nNorm_ok A c L l _ hL (h.keep k0 (fun ⟨_, _, h⟩ => h)) hl
  obtain ⟨n, HN⟩ : ∃ n, Hid (cutN l L = n) := ⟨_, Lib.hid rfl⟩
  rw [HN.out] at hN
  have hlen : Hid ((cutL l).length = n) := by unfold Hid; rw [cutL_len, hL, HN.out]
  have c0 : (w.alloc (.cells #[.bool neg, .slice A L c] 36)).cell? ⟨w.heap.size, 0, none⟩ = some (.bool neg) := by simp
  have c1 : (w.alloc (.cells #[.bool neg, .slice A L c] 36)).cell? ⟨w.heap.size, 1, none⟩ = some (.slice A L c) := by simp
  obtain ⟨w0, HW0⟩ : ∃ w0, Hid (w.alloc (.cells #[.bool neg, .slice A L c] 36) = w0) := ⟨_, Lib.hid rfl⟩
  obtain ⟨b0, HB0⟩ : ∃ b0, Hid (w.heap.size = b0) := ⟨_, Lib.hid rfl⟩
  have HS : Hid (w.heap.size ≤ w0.heap.size) := by unfold Hid; rw [← HW0.out]; exact k0.size
  rw [HW0.out] at hN c0 c1 k0
  rw [HB0.out] at c0 c1
  have HK0 := Lib.hid k0
  clear k0 h hL
  unfold intV
  go_enter Tryz.func74, Tryz.ntmps74
  go_upto_region 1 with (fail)
  rw [HW0.out, HB0.out]
  go_upto_block 0 with (go_at_call 105; go_must (refine hN.mono ?_); rintro e w1 ⟨hk1, A', rfl, hs1, hl1⟩)
  have k1 := hk1
  have d0 := k1.cell c0 (fun h => h)
  have post : ∀ v, v = sgn neg n → Keep nob w w1 ∧ ∃ A'', Ending.returned (Value.tuple #[.int .i8 v, .slice A' n n]) = .returned (.tuple #[.int .i8 (sgn neg n), .slice A'' n n]) ∧ Sl EU w1 A'' n (cutL l) ∧ Lies (fun k => w.heap.size ≤ k) A'' (cutL l) := fun v hv =>
    ⟨HK0.out.then_ k1, A', by rw [hv], hs1, hl1.mono hs1 (fun k _ hk => Nat.le_trans HS.out hk)⟩
  rcases Nat.eq_zero_or_pos n with hn | hn
  · subst hn
    have e : cutL l = [] := List.eq_nil_of_length_eq_zero hlen.out
    go_wp2
    go_ret2
    rw [HN.out, e]
    exact ⟨HK0.out.then_ k1, none, by simp [sgn], Sl.nil_ EU w1 none (Nat.zero_le _), fun h => absurd rfl h⟩
  · have hne : ¬ (n : Int) = 0 := by omega
    have hne' : ¬ n = 0 := by omega
    cases neg
    · go_wp2
      go_ret2
      rw [HN.out]
      exact post 1 (by simp [sgn, hne'])
    · go_wp2
      go_ret2
      rw [HN.out]
      exact post (-1) (by simp [sgn, hne'])
end Go.Proofs.YticnefkdkkjgcaaGreatDoor

/- Whole numbers: Norm, From; as values. -/
namespace Go.Proofs.YticnefkdkkjgcaaGreatDoor
open Go.RowKit

/-- two cells that may be written -/
theorem two {W : World} {b : Nat} (h : W.there b 0 2) : ∃ v0 v1, (W.cell? ⟨b, 0, none⟩ = some v0 ∧ W.cell? ⟨b, 1, none⟩ = some v1) ∧ W.frozen? ⟨b, 0, none⟩ = false ∧ W.frozen? ⟨b, 1, none⟩ = false := by
  have h0 := h 0 (by decide)
  have h1 := h 1 (by decide)
  rw [Nat.zero_add] at h0 h1
  obtain ⟨v0, c0⟩ := Option.isSome_iff_exists.1 h0.1
  obtain ⟨v1, c1⟩ := Option.isSome_iff_exists.1 h1.1
  exact ⟨v0, v1, ⟨c0, c1⟩, h0.2, h1.2⟩
theorem put2 {w1 : World} {b4 : Nat} (th : w1.there b4 0 2) (a0 a1 : Value) :
    ∃ w2, Hid ((w1.setCell ⟨b4, 0, none⟩ a0).setCell ⟨b4, 1, none⟩ a1 = w2) ∧ w2.cell? ⟨b4, 0, none⟩ = some a0 ∧ w2.cell? ⟨b4, 1, none⟩ = some a1 ∧ Keep (· = b4) w1 w2 := by
  refine ⟨_, Lib.hid rfl, ?_, ?_, ?_⟩
  · have := World.rangeAt_setCells_same w1 b4 0 [a0, a1] th 0 a0 rfl
    exact this
  · have := World.rangeAt_setCells_same w1 b4 0 [a0, a1] th 1 a1 rfl
    exact this
  · exact (Keep.refl (· = b4) w1).setCells (b := b4) [a0, a1] 0 (fun _ => rfl)
theorem _root_.Go.World.there.keep' {W W' : World} {b o n : Nat} (h : W.there b o n) (k : Keep nob W W') : W'.there b o n := k.there h (fun h => h)
/-- is the number, in normal form, below 0? -/
def negN (neg : Bool) (n : Nat) : Bool := neg && decide (0 < n)
theorem sgn_neg (neg : Bool) (n : Nat) : (decide (sgn neg n = -1) && decide (0 < n)) = negN neg n := by
  unfold sgn negN
  rcases Nat.eq_zero_or_pos n with h | h
  · subst h; simp
  · have : ¬ n = 0 := by omega
    cases neg <;> simp [this]
set_option maxRecDepth 100000 in
theorem wNorm_ok (neg : Bool) (A : Option Addr) (c L : Nat) (l : List Nat) (w : World) (hL : l.length = L) (h : Sl EU w A c l) (hl : L ≤ 1000000000) :
    Calls Tryz.prog 92 #[intV neg A L c] w fun e w' => Keep nob w w' ∧ ∃ A', e = .returned (intV (negN neg (cutN l L)) A' (cutN l L) (cutN l L)) ∧ Sl EU w' A' (cutN l L) (cutL l) ∧ Lies (fun k => w.heap.size ≤ k) A' (cutL l) := by
  have c0 : ((w.alloc (.cells #[.bool neg, .slice A L c] 36)).alloc (.cells #[.bool false, .slice none 0 0] 36)).cell? ⟨w.heap.size, 0, none⟩ = some (.bool neg) := by simp
  have c1 : ((w.alloc (.cells #[.bool neg, .slice A L c] 36)).alloc (.cells #[.bool false, .slice none 0 0] 36)).cell? ⟨w.heap.size, 1, none⟩ = some (.slice A L c) := by simp
  have k0 : Keep nob w ((w.alloc (.cells #[.bool neg, .slice A L c] 36)).alloc (.cells #[.bool false, .slice none 0 0] 36)) := ((Keep.refl _ _).alloc _).alloc _
  have t0 := there_alloc_new (w.alloc (.cells #[.bool neg, .slice A L c] 36)) #[.bool false, .slice none 0 0] 36 2 (Nat.le_refl _)
  obtain ⟨w0, HW0⟩ : ∃ w0, Hid ((w.alloc (.cells #[.bool neg, .slice A L c] 36)).alloc (.cells #[.bool false, .slice none 0 0] 36) = w0) := ⟨_, Lib.hid rfl⟩
  rw [HW0.out] at c0 c1 k0 t0
  have hN := wsigned_ok neg A c L l w0 hL (h.keep k0 (fun ⟨_, _, h⟩ => h)) hl
  obtain ⟨n, HN⟩ : ∃ n, Hid (cutN l L = n) := ⟨_, Lib.hid rfl⟩
  rw [HN.out] at hN
  unfold intV at hN ⊢
  have HK0 := Lib.hid k0
  have HT0 := Lib.hid t0
  clear k0 h hL t0
  go_enter Tryz.func92, Tryz.ntmps92
  go_upto_region 1 with (fail)
  have HSZ : Hid ((w.alloc (.cells #[.bool neg, .slice A L c] 36)).heap.size = w.heap.size + 1) := by unfold Hid; simp
  rw [HW0.out]
  obtain ⟨b2, HB2⟩ : ∃ b2, Hid (w.heap.size + 1 = b2) := ⟨_, Lib.hid rfl⟩
  have HT2 : Hid (w0.there b2 0 2) := by rw [← HB2.out, ← HSZ.out]; exact HT0.out
  clear HT0
  have HL2 : Hid (b2 < w0.heap.size) := by
    have := HT2.out 0 (by decide)
    obtain ⟨v, hv⟩ := Option.isSome_iff_exists.1 this.1
    exact World.block_lt_of_cell? w0 _ hv
  simp only [HB2.out]
  go_wp2_with (first
    | (go_at_call 74; go_must (refine hN.mono ?_); rintro e w1 ⟨hk1, A', rfl, hs1, hl1⟩; have HK1 := Lib.hid hk1; have HS1 := Lib.hid hs1; have HL1 := Lib.hid hl1; clear hk1 hs1 hl1)
    | (go_at_call 125; go_must (refine (made_ok _ _ _ _ _).mono ?_); rintro e w2 ⟨rfl, hk2⟩; unfold intV; have HK2 := Lib.hid hk2; clear hk2; obtain ⟨v0, v1, ⟨d0, d1⟩, f0, f1⟩ := two ((HT2.out.keep' HK1.out).keep' HK2.out)))
  obtain ⟨w3, e3, p0, p1, k3⟩ := put2 ((HT2.out.keep' HK1.out).keep' HK2.out) (.bool (decide (sgn neg n = -1) && decide (0 < n))) (.slice A' n n)
  rw [e3.out]
  have k9 : Keep (· = b2) w0 w3 := ((HK1.out.then_ HK2.out).mono (fun _ _ h => h.elim)).then_ k3
  refine ret_int rfl rfl rfl p0 p1 ⟨HK0.out.trans k9 (fun k h1 h2 => by have := HB2.out; omega), A', by rw [HN.out, sgn_neg]; rfl, ?_, ?_⟩
  · rw [HN.out]
    exact (HS1.out.keep HK2.out (fun ⟨_, _, h⟩ => h)).keepD k3 HL1.out (fun k hk e => by have := HL2.out; omega)
  · exact HL1.out.mono HS1.out (fun k _ hk => by have := HL2.out; have := HB2.out; omega)
end Go.Proofs.YticnefkdkkjgcaaGreatDoor

/- A whole number as a value; small numbers. -/
namespace Go.Proofs.YticnefkdkkjgcaaGreatDoor
open Go.RowKit

/-- a result in a cell -/
theorem ret_v {fn : Func} {p : Tmp} {R : Ending → World → Prop} {a : Act} {w : World} {b : Nat} {r : Raw} (h : fn.results = #[.cell p 39]) (hp : a.tmps.getD p undef = .pointer (some ⟨b, 0, none⟩)) (hd : a.defers = [])
    (hr : w.rangeAt b 0 (ER.cells r)) (hR : R (.returned (ER.val r)) w) : bodyPost Tryz.prog fn R .ret a w := by
  refine bodyPost_ret (v := ER.val r) ?_ hd hR
  have hl := load_val hr
  have hp' : a.tmps[p]?.getD undef = .pointer (some ⟨b, 0, none⟩) := by rw [← hp]; simp
  simp [results, h, hp', asAddr, hl]
theorem Tr.int {W : World} {D : Nat → Prop} {neg : Bool} {A : Option Addr} {n : Nat} {l : List Nat} (hs : Sl EU W A n l) (hl : Lies D A l) (hn : l.length = n) : Tr W D ⟨3, 0, neg, A, n, n, 0, 0, ⟨#[]⟩, none, 0, 0⟩ (V.int neg l) :=
  ⟨rfl, rfl, rfl, rfl, rfl, rfl, ⟨hn.symm, hs, hl⟩, [], rfl, Sl.nil_ ER W none (Nat.zero_le _), fun h => absurd rfl h, trivial⟩
set_option maxRecDepth 100000 in
theorem OfInt_ok (neg : Bool) (A : Option Addr) (c L : Nat) (l : List Nat) (w : World) (hL : l.length = L) (h : Sl EU w A c l) (hl : L ≤ 1000000000) :
    Calls Tryz.prog 91 #[intV neg A L c] w fun e w' => Keep nob w w' ∧ ∃ r, e = .returned (ER.val r) ∧ Tr w' (fun k => w.heap.size ≤ k) r (V.int (negN neg (cutN l L)) (cutL l)) := by
  obtain ⟨w0, b2, HW0, HB2, HK0, HT0, HL0⟩ := start (w.alloc (.cells #[.bool neg, .slice A L c] 36))
  have ka : Keep nob w (w.alloc (.cells #[.bool neg, .slice A L c] 36)) := (Keep.refl _ _).alloc _
  have c0 : w0.cell? ⟨w.heap.size, 0, none⟩ = some (.bool neg) := HK0.out.cell (by simp) (fun h => h)
  have c1 : w0.cell? ⟨w.heap.size, 1, none⟩ = some (.slice A L c) := HK0.out.cell (by simp) (fun h => h)
  have HKA := Lib.hid (ka.then_ HK0.out)
  have hN := wNorm_ok neg A c L l w0 hL (h.keep HKA.out (fun ⟨_, _, h⟩ => h)) hl
  have hcl : (cutL l).length = cutN l L := by rw [cutL_len, hL]
  have HSZ : Hid ((w.alloc (.cells #[.bool neg, .slice A L c] 36)).heap.size = w.heap.size + 1) := by unfold Hid; simp
  have HB3 : Hid (w.heap.size + 1 = b2) := by unfold Hid; rw [← HSZ.out]; exact HB2.out
  have HS : Hid (w.heap.size ≤ b2 ∧ b2 < w0.heap.size) := by have h1 := HL0.out; have h2 := HB3.out; exact ⟨by omega, h1.2⟩
  clear HL0 HK0 ka
  obtain ⟨n, HN⟩ : ∃ n, Hid (cutN l L = n) := ⟨_, Lib.hid rfl⟩
  obtain ⟨g, HG⟩ : ∃ g, Hid (negN neg n = g) := ⟨_, Lib.hid rfl⟩
  rw [HN.out, HG.out] at hN
  rw [HN.out] at hcl
  have HCL := Lib.hid hcl
  clear h hL hcl
  unfold intV at hN ⊢
  go_enter Tryz.func91, Tryz.ntmps91
  go_upto_region 1 with (fail)
  rw [HW0.out]
  simp only [HB3.out]
  go_wp2_with (go_at_call 92; go_must (refine hN.mono ?_); rintro e w1 ⟨hk1, A', rfl, hs1, hl1⟩; have HK1 := Lib.hid hk1; have HS1 := Lib.hid hs1; have HL1 := Lib.hid hl1; clear hk1 hs1 hl1; obtain ⟨v0, v1, v2, v3, v4, v5, v6, v7, ⟨d0, d1, d2, d3, d4, d5, d6, d7⟩, f0, f1, f2, f3, f4, f5, f6, f7⟩ := eight (HT0.out.keep' HK1.out))
  obtain ⟨w2, e2, r2, k2⟩ := put8 (HT0.out.keep' HK1.out) ⟨3, 0, g, A', n, n, 0, 0, ⟨#[]⟩, none, 0, 0⟩ (.int .i8 3) (.int .u64 0) (.bool g) (.slice A' n n) (.int .u64 0) (.int .i8 0) (.string ⟨#[]⟩) (.slice none 0 0) rfl
  rw [e2.out]
  have HA := HS.out
  refine ret_v rfl rfl rfl r2 ⟨(HKA.out.then_ HK1.out).trans k2 (fun k h1 h2 => by omega), _, rfl, ?_⟩
  rw [HN.out, HG.out]
  refine Tr.int (HS1.out.keepD k2 HL1.out (fun k hk e => by omega)) (HL1.out.mono HS1.out (fun k _ hk => by omega)) HCL.out
end Go.Proofs.YticnefkdkkjgcaaGreatDoor

/- Small numbers as lists of limbs, as whole numbers. -/
namespace Go.Proofs.YticnefkdkkjgcaaGreatDoor
open Go.RowKit

/-- a small number's two limbs -/
def two32 (x : Nat) : List Nat := [x % 4294967296, x / 4294967296]
theorem two32_sl (w : World) (x : Nat) (T : TypeId) : Sl EU (w.alloc (.cells #[.int .u32 ((x % 4294967296 : Nat) : Int), .int .u32 ((x / 4294967296 : Nat) : Int)] T)) (some ⟨w.heap.size, 0, none⟩) 2 (two32 x) :=
  ⟨Nat.le_refl _, by decide, fun _ => ⟨_, _, rfl, range_alloc_new w _ T _ (fun j v hj => by simpa [two32, El.flat_cons, El.flat_nil, EU] using hj)⟩⟩
set_option maxRecDepth 100000 in
theorem nFrom_ok (x : Nat) (hx : x < 18446744073709551616) (w : World) :
    Calls Tryz.prog 98 #[.int .u64 (x : Int)] w fun e w' => Keep nob w w' ∧ ∃ A', e = .returned (.slice A' (cutN (two32 x) 2) (cutN (two32 x) 2)) ∧ Sl EU w' A' (cutN (two32 x) 2) (cutL (two32 x)) ∧ Lies (fun k => w.heap.size ≤ k) A' (cutL (two32 x)) := by
  obtain ⟨lo, HLO⟩ : ∃ lo : Nat, Hid (x % 4294967296 = lo) := ⟨_, Lib.hid rfl⟩
  obtain ⟨hi, HHI⟩ : ∃ hi : Nat, Hid (x / 4294967296 = hi) := ⟨_, Lib.hid rfl⟩
  have i1 : IntKind.u32.wrap (x : Int) = (lo : Int) := by rw [IntKind.wrap_u32, ← HLO.out]; omega
  have i2 : (x : Int) / 4294967296 = (hi : Int) := by rw [← HHI.out]; omega
  have i3 : IntKind.u32.wrap (hi : Int) = (hi : Int) := by rw [IntKind.wrap_u32, ← HHI.out]; omega
  have hs := two32_sl w x 82
  rw [HLO.out, HHI.out] at hs
  have hC := cut_ok (some ⟨w.heap.size, 0, none⟩) 2 2 (two32 x) _ rfl hs
  have HS := Lib.hid hs
  obtain ⟨n, HN⟩ : ∃ n, Hid (cutN (two32 x) 2 = n) := ⟨_, Lib.hid rfl⟩
  obtain ⟨l, HL⟩ : ∃ l, Hid (two32 x = l) := ⟨_, Lib.hid rfl⟩
  have HLL : Hid (l.length = 2) := by unfold Hid; rw [← HL.out]; rfl
  rw [HN.out] at hC
  rw [HL.out] at HS
  clear hs
  go_enter Tryz.func98, Tryz.ntmps98
  go_wp2_with (go_at_call 106; go_must (refine hC.mono ?_); rintro e w1 ⟨rfl, rfl⟩)
  go_ret
  have hcs := cut_sl HS.out
  rw [HN.out, HL.out]
  rw [HLL.out, ← HL.out, HN.out, HL.out] at hcs
  exact ⟨(Keep.refl _ _).alloc _, _, rfl, hcs, fun _ => ⟨_, rfl, Nat.le_refl _⟩⟩
end Go.Proofs.YticnefkdkkjgcaaGreatDoor

/- packread's families of numbers: small ones. -/
namespace Go.Proofs.YticnefkdkkjgcaaGreatDoor
open Go.RowKit

/-- a whole number's new cells -/
theorem start2 (w : World) : ∃ w0 b4, Hid (w.alloc (.cells #[.bool false, .slice none 0 0] 36) = w0) ∧ Hid (w.heap.size = b4) ∧ Hid (Keep nob w w0) ∧ Hid (w0.there b4 0 2) ∧ Hid (w.heap.size ≤ b4 ∧ b4 < w0.heap.size) :=
  ⟨_, _, Lib.hid rfl, Lib.hid rfl, Lib.hid ((Keep.refl _ _).alloc _), Lib.hid (there_alloc_new w _ _ 2 (Nat.le_refl _)), Lib.hid ⟨Nat.le_refl _, by simp⟩⟩
set_option maxRecDepth 100000 in
theorem wFrom_neg (x : Nat) (h0 : 0 < x) (hx : x < 9223372036854775808) (w : World) :
    Calls Tryz.prog 95 #[.int .i64 (-(x : Int))] w fun e w' => Keep nob w w' ∧ ∃ A', e = .returned (intV (decide (0 < cutN (two32 x) 2)) A' (cutN (two32 x) 2) (cutN (two32 x) 2)) ∧ Sl EU w' A' (cutN (two32 x) 2) (cutL (two32 x)) ∧ Lies (fun k => w.heap.size ≤ k) A' (cutL (two32 x)) := by
  obtain ⟨w0, b2, HW0, HB2, HK0, HT0, HL0⟩ := start2 w
  have hN := nFrom_ok x (by omega) w0
  obtain ⟨n, HN⟩ : ∃ n, Hid (cutN (two32 x) 2 = n) := ⟨_, Lib.hid rfl⟩
  obtain ⟨l, HL⟩ : ∃ l, Hid (cutL (two32 x) = l) := ⟨_, Lib.hid rfl⟩
  obtain ⟨z, HZ⟩ : ∃ z : Int, Hid (-(x : Int) = z) := ⟨_, Lib.hid rfl⟩
  rw [HN.out, HL.out] at hN ⊢
  rw [HZ.out]
  have hz : z < 0 := by have := HZ.out; omega
  obtain ⟨u, HU⟩ : ∃ u : Int, Hid (IntKind.u64.wrap z = u) := ⟨_, Lib.hid rfl⟩
  have i1 : IntKind.u64.wrap z = u := HU.out
  have i2 : IntKind.u64.wrap (-u) = (x : Int) := by rw [← HU.out, IntKind.wrap_u64, IntKind.wrap_u64, ← HZ.out]; omega
  have hu0 : 0 ≤ u := by rw [← HU.out, IntKind.wrap_u64]; omega
  clear h0
  go_enter Tryz.func95, Tryz.ntmps95
  go_upto_region 1 with (fail)
  rw [HW0.out, HB2.out]
  go_wp2_with (first
    | (go_at_call 98; go_must (refine hN.mono ?_); rintro e w1 ⟨hk1, A', rfl, hs1, hl1⟩; have HK1 := Lib.hid hk1; have HS1 := Lib.hid hs1; have HL1 := Lib.hid hl1; clear hk1 hs1 hl1)
    | (go_at_call 125; go_must (refine (made_ok _ _ _ _ _).mono ?_); rintro e w2 ⟨rfl, hk2⟩; unfold intV; have HK2 := Lib.hid hk2; clear hk2; obtain ⟨v0, v1, ⟨d0, d1⟩, f0, f1⟩ := two ((HT0.out.keep' HK1.out).keep' HK2.out)))
  obtain ⟨w3, e3, p0, p1, k3⟩ := put2 ((HT0.out.keep' HK1.out).keep' HK2.out) (.bool (decide (0 < n))) (.slice A' n n)
  rw [e3.out]
  have HA := HL0.out
  have k9 : Keep (· = b2) w0 w3 := ((HK1.out.then_ HK2.out).mono (fun _ _ h => h.elim)).then_ k3
  exact ret_int rfl rfl rfl p0 p1 ⟨HK0.out.trans k9 (fun k h1 h2 => by omega), A', rfl, (HS1.out.keep HK2.out (fun ⟨_, _, h⟩ => h)).keepD k3 HL1.out (fun k hk e => by omega), HL1.out.mono HS1.out (fun k _ hk => by omega)⟩

/-! ### families -/
/-- the words of whole numbers: by two limbs -/
def wholeV (x : Nat) : V := V.int (negN (negN false (cutN (two32 x) 2)) (cutN (cutL (two32 x)) (cutN (two32 x) 2))) (cutL (cutL (two32 x)))
def belowV (x : Nat) : V := V.int (negN (decide (0 < cutN (two32 x) 2)) (cutN (cutL (two32 x)) (cutN (two32 x) 2))) (cutL (cutL (two32 x)))
end Go.Proofs.YticnefkdkkjgcaaGreatDoor

/- packread's family of whole numbers. -/
namespace Go.Proofs.YticnefkdkkjgcaaGreatDoor
open Go.RowKit

end Go.Proofs.YticnefkdkkjgcaaGreatDoor

/- packread's families: what they answer; extensions. -/
namespace Go.Proofs.YticnefkdkkjgcaaGreatDoor
open Go.RowKit

/-- what a family answers, by what is read -/
def FamPost (sa : Nat → Addr) (b : Nat) (s : ByteArray) (op : Nat) (w : World) (x : R V) (e : Ending) (w' : World) : Prop := match x with
  | .ok v q => Keep (· = b) w w' ∧ (∃ fr, Rd w' b s q fr op) ∧ ∃ r, e = .returned (.tuple #[ER.val r, .nilIface]) ∧ Tr w' (fun k => w.heap.size ≤ k) r v
  | .bad c q => ∃ ev, e = .returned (.tuple #[ER.val Raw.zero, ev]) ∧ Keep (· = b) w w' ∧ FErr sa w' (fun k => w.heap.size ≤ k) ev c q

theorem take_size {s t : ByteArray} {p n q : Nat} (h : takeR s p n = .ok t q) : t = s.extract p (p + n) ∧ q = p + n ∧ (p ≤ s.size → q ≤ s.size) := by
  unfold takeR at h
  split at h
  · cases h
  · simp only [R.ok.injEq] at h
    exact ⟨h.1.symm, h.2.symm, fun _ => by omega⟩
theorem wrap_i8 (c : Nat) (h : c < 256) : IntKind.i8.wrap (c : Int) = if c < 128 then (c : Int) else (c : Int) - 256 := by
  have e1 : (c : Int) % 256 = (c : Int) := by omega
  by_cases hc : c < 128
  · have h2 : ¬ (c : Int) ≥ 128 := by omega
    simp [IntKind.wrap, IntKind.bits, IntKind.signed, e1, hc, h2]
  · have h2 : (c : Int) ≥ 128 := by omega
    simp [IntKind.wrap, IntKind.bits, IntKind.signed, e1, hc, h2]
theorem head_at {e : ByteArray} (h : 0 < e.size) : (e[0]'h).toNat = (bl e).headD 0 := by
  obtain ⟨⟨l⟩⟩ := e
  cases l with
  | nil => simp [ByteArray.size] at h
  | cons a l => rfl
end Go.Proofs.YticnefkdkkjgcaaGreatDoor

/- Code points: point, follow. -/
namespace Go.Proofs.YticnefkdkkjgcaaGreatDoor
open Go.RowKit

theorem point_ok (r : Nat) (w : World) : Calls Tryz.prog 116 #[.int .i32 (r : Int)] w fun e w' => e = .returned (.bool (pointN r)) ∧ w' = w := by
  have h0 : (0 : Int) ≤ (r : Int) := by omega
  by_cases h1 : r ≤ 0x10ffff
  · have i1 : (r : Int) ≤ 1114111 := by omega
    by_cases h2 : r < 0xd800
    · have i2 : (r : Int) < 55296 := by omega
      go_enter Tryz.func116, Tryz.ntmps116
      go_wp2
      go_ret
      simp [pointN, h1, h2]
    · have i2 : ¬ (r : Int) < 55296 := by omega
      by_cases h3 : 0xdfff < r
      · have i3 : (r : Int) > 57343 := by omega
        go_enter Tryz.func116, Tryz.ntmps116
        go_wp2
        go_ret
        simp [pointN, h1, h2, h3]
      · have i3 : ¬ (r : Int) > 57343 := by omega
        go_enter Tryz.func116, Tryz.ntmps116
        go_wp2
        go_ret
        simp [pointN, h1, h2, h3]
  · have i1 : ¬ (r : Int) ≤ 1114111 := by omega
    go_enter Tryz.func116, Tryz.ntmps116
    go_wp2
    go_ret
    simp [pointN, h1]
/-- the byte at a place, as a number -/
theorem byte_at {s : ByteArray} {i : Nat} (h : i < s.size) : (bl s)[i]? = some (s[i]'h).toNat := by
  obtain ⟨⟨l⟩⟩ := s
  have h' : i < l.length := by simpa [ByteArray.size] using h
  simp only [bl, List.getElem?_map, List.getElem?_eq_getElem h', Option.map_some]
  rfl
theorem and192 (c : Nat) (h : c < 256) : bits .and .u8 (c : Int) 192 = 128 ↔ c / 64 = 2 := by
  have := (show ∀ c : Fin 256, decide (bits .and .u8 ((c.val : Nat) : Int) 192 = 128) = decide (c.val / 64 = 2) by decide +kernel) ⟨c, h⟩
  simpa using this
theorem follow_ok (s : ByteArray) (p : Nat) (w : World) : Calls Tryz.prog 115 #[.string s, .int .i64 (p : Int)] w fun e w' =>
    (match (bl s)[p]? with
    | some b => if b / 64 = 2 then e = .returned (.tuple #[.int .i32 ((b % 64 : Nat) : Int), .bool true]) else e = .returned (.tuple #[.int .i32 0, .bool false])
    | none => e = .returned (.tuple #[.int .i32 0, .bool false])) ∧ w' = w := by
  have hp0 : (0 : Int) ≤ (p : Int) := by omega
  by_cases h : p < s.size
  · rw [byte_at h]
    obtain ⟨c, HC⟩ : ∃ c : Nat, Hid ((s[p]'h).toNat = c) := ⟨_, Lib.hid rfl⟩
    have hc : (s[p]'h).toNat = c := HC.out
    have hc1 : c < 256 := by rw [← hc]; exact UInt8.toNat_lt _
    have hi : ¬ (p : Int) ≥ (s.size : Int) := by omega
    dsimp only
    rw [hc]
    obtain ⟨m, HM⟩ : ∃ m : Int, Hid (bits .and .u8 (c : Int) 192 = m) := ⟨_, Lib.hid rfl⟩
    have hm := HM.out
    have hiff := and192 c hc1
    rw [hm] at hiff
    by_cases h2 : c / 64 = 2
    · have hm2 := hiff.2 h2
      subst hm2
      simp only [if_pos h2]
      clear hiff
      go_enter Tryz.func115, Tryz.ntmps115
      go_wp2
      go_ret2
      exact ⟨by simp, rfl⟩
    · have hm2 : ¬ m = 128 := fun e => h2 (hiff.1 e)
      simp only [if_neg h2]
      clear hiff
      go_enter Tryz.func115, Tryz.ntmps115
      go_wp2
      go_ret2
      exact ⟨rfl, rfl⟩
  · rw [List.getElem?_eq_none (by rw [show (bl s).length = s.size by simp [bl]]; omega)]
    have hi : (p : Int) ≥ (s.size : Int) := by omega
    go_enter Tryz.func115, Tryz.ntmps115
    go_wp2
    go_ret2
    exact ⟨rfl, rfl⟩
end Go.Proofs.YticnefkdkkjgcaaGreatDoor

/- The code point at a place of a text. -/
namespace Go.Proofs.YticnefkdkkjgcaaGreatDoor
open Go.RowKit

theorem and_cls (c : Nat) (h : c < 256) : (bits .and .u8 (c : Int) 224 = 192 ↔ c / 32 = 6) ∧ (bits .and .u8 (c : Int) 240 = 224 ↔ c / 16 = 14) ∧ (bits .and .u8 (c : Int) 248 = 240 ↔ c / 8 = 30) := by
  have h1 := (show ∀ c : Fin 256, decide (bits .and .u8 ((c.val : Nat) : Int) 224 = 192) = decide (c.val / 32 = 6) by decide +kernel) ⟨c, h⟩
  have h2 := (show ∀ c : Fin 256, decide (bits .and .u8 ((c.val : Nat) : Int) 240 = 224) = decide (c.val / 16 = 14) by decide +kernel) ⟨c, h⟩
  have h3 := (show ∀ c : Fin 256, decide (bits .and .u8 ((c.val : Nat) : Int) 248 = 240) = decide (c.val / 8 = 30) by decide +kernel) ⟨c, h⟩
  exact ⟨by simpa using h1, by simpa using h2, by simpa using h3⟩
/-- what First answers -/
def FirstE (x : Option (Nat × Nat)) : Ending := match x with
  | some (r, k) => .returned (.tuple #[.int .i32 (r : Int), .int .i64 (k : Int), .bool true])
  | none => .returned (.tuple #[.int .i32 0, .int .i64 0, .bool false])
theorem first_out (s : ByteArray) (p : Nat) (h : s.size ≤ p) (w : World) (hp : p < 9223372036854775808) : Calls Tryz.prog 89 #[.string s, .int .i64 (p : Int)] w fun e w' => e = FirstE none ∧ w' = w := by
  have h0 : ¬ (p : Int) < 0 := by omega
  have hi : (p : Int) ≥ (s.size : Int) := by omega
  go_enter Tryz.func89, Tryz.ntmps89
  go_wp2
  go_ret3
  exact ⟨rfl, rfl⟩
set_option maxRecDepth 100000 in
theorem first_one (s : ByteArray) (p c : Nat) (h : p < s.size) (hc : (s[p]'h).toNat = c) (h8 : c < 128) (w : World) : Calls Tryz.prog 89 #[.string s, .int .i64 (p : Int)] w fun e w' => e = FirstE (some (c, 1)) ∧ w' = w := by
  have h0 : (0 : Int) ≤ (p : Int) := by omega
  have hi : ¬ (p : Int) ≥ (s.size : Int) := by omega
  have h9 : (c : Int) < 128 := by omega
  have i1 : IntKind.i32.wrap (c : Int) = (c : Int) := by rw [IntKind.wrap_i32]; omega
  go_enter Tryz.func89, Tryz.ntmps89
  go_wp2
  go_ret3
  exact ⟨rfl, rfl⟩
end Go.Proofs.YticnefkdkkjgcaaGreatDoor

/- The code point at a place of a text: of several bytes. -/
namespace Go.Proofs.YticnefkdkkjgcaaGreatDoor
open Go.RowKit

/-- the tail of utf.First, from the loop on -/
def tailN (l : List Nat) (n r least : Nat) (i : Nat) : Option (Nat × Nat) := (contN l (n - i) r).bind fun r' => if least ≤ r' ∧ pointN r' = true then some (r', n) else none
theorem tail_step {l : List Nat} {q b n r least i : Nat} (h : l[q]? = some b) (hi : i < n) : tailN (l.drop q) n r least i = if b / 64 = 2 then tailN (l.drop (q + 1)) n (r * 64 + b % 64) least (i + 1) else none := by
  obtain ⟨hq, hb⟩ := List.getElem?_eq_some_iff.1 h
  unfold tailN
  rw [List.drop_eq_getElem_cons hq, hb, show n - i = (n - (i + 1)) + 1 by omega, contN]
  split <;> rfl
theorem tail_none {l : List Nat} {q n r least i : Nat} (h : l[q]? = none) (hi : i < n) : tailN (l.drop q) n r least i = none := by
  unfold tailN
  rw [List.drop_eq_nil_of_le (List.getElem?_eq_none_iff.1 h), show n - i = (n - (i + 1)) + 1 by omega, contN]
  rfl
theorem tail_end (l : List Nat) (n r least : Nat) : tailN l n r least n = if least ≤ r ∧ pointN r = true then some (r, n) else none := by
  unfold tailN
  rw [Nat.sub_self]
  cases l <;> rfl

set_option maxRecDepth 100000 in
theorem first_two (s : ByteArray) (p c : Nat) (h : p < s.size) (hs : s.size ≤ 1152921504606846976) (hc : (s[p]'h).toNat = c) (hd : c / 32 = 6) (w : World) :
    Calls Tryz.prog 89 #[.string s, .int .i64 (p : Int)] w fun e w' => e = FirstE (tailN ((bl s).drop (p + 1)) 2 (c % 32) 128 1) ∧ w' = w := by
  have h0 : (0 : Int) ≤ (p : Int) := by omega
  have hi : ¬ (p : Int) ≥ (s.size : Int) := by omega
  have h9 : ¬ (c : Int) < 128 := by omega
  have hc1 : c < 256 := by rw [← hc]; exact UInt8.toNat_lt _
  obtain ⟨a1, a2, a3⟩ := and_cls c hc1
  have b1 := a1.2 hd
  obtain ⟨r0, HR0⟩ : ∃ r0 : Nat, Hid (c % 32 = r0) := ⟨_, Lib.hid rfl⟩
  have i1 : (c : Int) % 32 = (r0 : Int) := by rw [← HR0.out]; omega
  have i2 : IntKind.i32.wrap (r0 : Int) = (r0 : Int) := by rw [IntKind.wrap_i32, ← HR0.out]; omega
  have HB0 : Hid (r0 < 64 ^ 1) := by unfold Hid; rw [← HR0.out]; omega
  have HP := Lib.hid h
  have HS := Lib.hid hs
  rw [HR0.out]
  clear a1 a2 a3
  go_enter Tryz.func89, Tryz.ntmps89
  go_wp2_with (fail)
  go_loopw [4, 5, 6, 9, 10, 11] (fun u4 u5 u6 u9 u10 u11 wr => ∃ i r : Nat, 1 ≤ i ∧ i ≤ 2 ∧ u4 = .int .i32 (r : Int) ∧ u5 = .int .i64 2 ∧ u6 = .bool false ∧ u9 = .int .i64 (i : Int) ∧ Hid (r < 64 ^ i) ∧ Hid (tailN ((bl s).drop (p + i)) 2 r 128 i = tailN ((bl s).drop (p + 1)) 2 r0 128 1) ∧ Hid (wr = w)) (fun _ _ _ u9 _ _ _ => 2 - (intOf u9).toNat)
  case atStart => exact ⟨1, r0, by decide, by decide, rfl, rfl, rfl, rfl, HB0, Lib.hid rfl, Lib.hid rfl⟩
  case round =>
    obtain ⟨i, r, h1, h2, rfl, rfl, rfl, rfl, HB, HT, HW⟩ := hrel
    have HW2 := HW.out
    subst HW2
    have hr : r < 16777216 := by
      have := HB.out
      have h3 : 64 ^ i ≤ 64 ^ 4 := Nat.pow_le_pow_right (by decide) (by omega)
      omega
    by_cases hlt : i < 2
    · have hlt2 : (i : Int) < 2 := by omega
      obtain ⟨q, HQ⟩ : ∃ q : Nat, Hid (p + i = q) := ⟨_, Lib.hid rfl⟩
      have hq1 : IntKind.i64.wrap ((p : Int) + (i : Int)) = (q : Int) := by have := HQ.out; rw [IntWalk.i64_left, IntWalk.wrap64_in _ ⟨by omega, by omega⟩]; omega
      have hF := follow_ok s q wr
      have hi3 : IntKind.i64.wrap ((i : Int) + 1) = ((i + 1 : Nat) : Int) := by rw [IntWalk.i64_left, IntWalk.wrap64_in _ ⟨by omega, by omega⟩]; omega
      have hend : ∀ x, x = none → FirstE x = .returned (.tuple #[.int .i32 0, .int .i64 0, .bool false]) := fun x hx => by subst hx; rfl
      cases hb : (bl s)[q]? with
      | none =>
        rw [hb] at hF
        dsimp only at hF
        have HE : Hid (tailN ((bl s).drop (p + i)) 2 r 128 i = none) := by unfold Hid; rw [HQ.out]; exact tail_none hb hlt
        go_wp2_with (go_at_call 115; go_must (refine hF.mono ?_); rintro e w1 ⟨rfl, rfl⟩)
        go_ret3
        rw [← HT.out, HE.out]
        exact ⟨rfl, rfl⟩
      | some b =>
        rw [hb] at hF
        dsimp only at hF
        have HE : Hid (tailN ((bl s).drop (p + i)) 2 r 128 i = if b / 64 = 2 then tailN ((bl s).drop (q + 1)) 2 (r * 64 + b % 64) 128 (i + 1) else none) := by unfold Hid; rw [HQ.out]; exact tail_step hb hlt
        by_cases hb2 : b / 64 = 2
        · simp only [if_pos hb2] at hF
          rw [if_pos hb2] at HE
          obtain ⟨y, HY⟩ : ∃ y : Nat, Hid (b % 64 = y) := ⟨_, Lib.hid rfl⟩
          rw [HY.out] at hF HE
          have hy : y < 64 := by rw [← HY.out]; omega
          have hs6 : IntKind.i32.wrap ((r : Int) * 64) = ((r * 64 : Nat) : Int) := by rw [IntKind.wrap_i32]; omega
          have hor : bits .or .i32 ((r * 64 : Nat) : Int) (y : Int) = ((r * 64 + y : Nat) : Int) := by
            have h7 := i32_or6 (x := ((r * 64 : Nat) : Int)) (y := (y : Int)) (by omega) (by omega) (by omega) (by omega) (by omega)
            rw [h7]; omega
          obtain ⟨r1, HR1⟩ : ∃ r1 : Nat, Hid (r * 64 = r1) := ⟨_, Lib.hid rfl⟩
          obtain ⟨r2, HR2⟩ : ∃ r2 : Nat, Hid (r1 + y = r2) := ⟨_, Lib.hid rfl⟩
          rw [HR1.out] at hs6 hor HE
          rw [HR2.out] at hor HE
          go_wp2_with (go_at_call 115; go_must (refine hF.mono ?_); rintro e w1 ⟨rfl, rfl⟩)
          refine ⟨⟨i + 1, r2, by omega, by omega, rfl, rfl, rfl, rfl, ?_, ?_, Lib.hid trivial⟩, by simp [intOf]; omega⟩
          · have hB := HB.out
            have h5 := HR1.out
            have h6 := HR2.out
            unfold Hid
            rw [Nat.pow_succ]
            omega
          · unfold Hid
            rw [← HT.out, HE.out, show p + (i + 1) = q + 1 by have := HQ.out; omega]
        · simp only [if_neg hb2] at hF
          rw [if_neg hb2] at HE
          go_wp2_with (go_at_call 115; go_must (refine hF.mono ?_); rintro e w1 ⟨rfl, rfl⟩)
          go_ret3
          rw [← HT.out, HE.out]
          exact ⟨rfl, rfl⟩
    · obtain rfl : i = 2 := by omega
      have hP := point_ok r wr
      have HE := HT.out
      rw [tail_end] at HE
      by_cases hl : r < 128
      · have hli : (r : Int) < 128 := by omega
        rw [if_neg (fun hh => by omega)] at HE
        have HE := Lib.hid HE
        go_wp2_with (go_at_call 116; go_must (refine hP.mono ?_); rintro e w1 ⟨rfl, rfl⟩)
        go_ret3
        rw [← HE.out]
        exact ⟨rfl, rfl⟩
      · have hli : ¬ (r : Int) < 128 := by omega
        cases hpt : pointN r with
        | true =>
          rw [hpt] at hP
          rw [if_pos ⟨by omega, hpt⟩] at HE
          have HE := Lib.hid HE
          go_wp2_with (go_at_call 116; go_must (refine hP.mono ?_); rintro e w1 ⟨rfl, rfl⟩)
          go_ret3
          rw [← HE.out]
          exact ⟨rfl, rfl⟩
        | false =>
          rw [hpt] at hP
          rw [if_neg (fun hh => by rw [hpt] at hh; cases hh.2)] at HE
          have HE := Lib.hid HE
          go_wp2_with (go_at_call 116; go_must (refine hP.mono ?_); rintro e w1 ⟨rfl, rfl⟩)
          go_ret3
          rw [← HE.out]
          exact ⟨rfl, rfl⟩
end Go.Proofs.YticnefkdkkjgcaaGreatDoor

/- The code point at a place of a text: of several bytes. -/
namespace Go.Proofs.YticnefkdkkjgcaaGreatDoor
open Go.RowKit


set_option maxRecDepth 100000 in
theorem first_three (s : ByteArray) (p c : Nat) (h : p < s.size) (hs : s.size ≤ 1152921504606846976) (hc : (s[p]'h).toNat = c) (hd : c / 16 = 14) (w : World) :
    Calls Tryz.prog 89 #[.string s, .int .i64 (p : Int)] w fun e w' => e = FirstE (tailN ((bl s).drop (p + 1)) 3 (c % 16) 2048 1) ∧ w' = w := by
  have h0 : (0 : Int) ≤ (p : Int) := by omega
  have hi : ¬ (p : Int) ≥ (s.size : Int) := by omega
  have h9 : ¬ (c : Int) < 128 := by omega
  have hc1 : c < 256 := by rw [← hc]; exact UInt8.toNat_lt _
  obtain ⟨a1, a2, a3⟩ := and_cls c hc1
  have b0 : ¬ bits .and .u8 (c : Int) 224 = 192 := fun e => by have := a1.1 e; omega
  have b1 := a2.2 hd
  obtain ⟨r0, HR0⟩ : ∃ r0 : Nat, Hid (c % 16 = r0) := ⟨_, Lib.hid rfl⟩
  have i1 : (c : Int) % 16 = (r0 : Int) := by rw [← HR0.out]; omega
  have i2 : IntKind.i32.wrap (r0 : Int) = (r0 : Int) := by rw [IntKind.wrap_i32, ← HR0.out]; omega
  have HB0 : Hid (r0 < 64 ^ 1) := by unfold Hid; rw [← HR0.out]; omega
  have HP := Lib.hid h
  have HS := Lib.hid hs
  rw [HR0.out]
  clear a1 a2 a3
  go_enter Tryz.func89, Tryz.ntmps89
  go_wp2_with (fail)
  go_loopw [4, 5, 6, 9, 10, 11] (fun u4 u5 u6 u9 u10 u11 wr => ∃ i r : Nat, 1 ≤ i ∧ i ≤ 3 ∧ u4 = .int .i32 (r : Int) ∧ u5 = .int .i64 3 ∧ u6 = .bool false ∧ u9 = .int .i64 (i : Int) ∧ Hid (r < 64 ^ i) ∧ Hid (tailN ((bl s).drop (p + i)) 3 r 2048 i = tailN ((bl s).drop (p + 1)) 3 r0 2048 1) ∧ Hid (wr = w)) (fun _ _ _ u9 _ _ _ => 3 - (intOf u9).toNat)
  case atStart => exact ⟨1, r0, by decide, by decide, rfl, rfl, rfl, rfl, HB0, Lib.hid rfl, Lib.hid rfl⟩
  case round =>
    obtain ⟨i, r, h1, h2, rfl, rfl, rfl, rfl, HB, HT, HW⟩ := hrel
    have HW2 := HW.out
    subst HW2
    have hr : r < 16777216 := by
      have := HB.out
      have h3 : 64 ^ i ≤ 64 ^ 4 := Nat.pow_le_pow_right (by decide) (by omega)
      omega
    by_cases hlt : i < 3
    · have hlt2 : (i : Int) < 3 := by omega
      obtain ⟨q, HQ⟩ : ∃ q : Nat, Hid (p + i = q) := ⟨_, Lib.hid rfl⟩
      have hq1 : IntKind.i64.wrap ((p : Int) + (i : Int)) = (q : Int) := by have := HQ.out; rw [IntWalk.i64_left, IntWalk.wrap64_in _ ⟨by omega, by omega⟩]; omega
      have hF := follow_ok s q wr
      have hi3 : IntKind.i64.wrap ((i : Int) + 1) = ((i + 1 : Nat) : Int) := by rw [IntWalk.i64_left, IntWalk.wrap64_in _ ⟨by omega, by omega⟩]; omega
      have hend : ∀ x, x = none → FirstE x = .returned (.tuple #[.int .i32 0, .int .i64 0, .bool false]) := fun x hx => by subst hx; rfl
      cases hb : (bl s)[q]? with
      | none =>
        rw [hb] at hF
        dsimp only at hF
        have HE : Hid (tailN ((bl s).drop (p + i)) 3 r 2048 i = none) := by unfold Hid; rw [HQ.out]; exact tail_none hb hlt
        go_wp2_with (go_at_call 115; go_must (refine hF.mono ?_); rintro e w1 ⟨rfl, rfl⟩)
        go_ret3
        rw [← HT.out, HE.out]
        exact ⟨rfl, rfl⟩
      | some b =>
        rw [hb] at hF
        dsimp only at hF
        have HE : Hid (tailN ((bl s).drop (p + i)) 3 r 2048 i = if b / 64 = 2 then tailN ((bl s).drop (q + 1)) 3 (r * 64 + b % 64) 2048 (i + 1) else none) := by unfold Hid; rw [HQ.out]; exact tail_step hb hlt
        by_cases hb2 : b / 64 = 2
        · simp only [if_pos hb2] at hF
          rw [if_pos hb2] at HE
          obtain ⟨y, HY⟩ : ∃ y : Nat, Hid (b % 64 = y) := ⟨_, Lib.hid rfl⟩
          rw [HY.out] at hF HE
          have hy : y < 64 := by rw [← HY.out]; omega
          have hs6 : IntKind.i32.wrap ((r : Int) * 64) = ((r * 64 : Nat) : Int) := by rw [IntKind.wrap_i32]; omega
          have hor : bits .or .i32 ((r * 64 : Nat) : Int) (y : Int) = ((r * 64 + y : Nat) : Int) := by
            have h7 := i32_or6 (x := ((r * 64 : Nat) : Int)) (y := (y : Int)) (by omega) (by omega) (by omega) (by omega) (by omega)
            rw [h7]; omega
          obtain ⟨r1, HR1⟩ : ∃ r1 : Nat, Hid (r * 64 = r1) := ⟨_, Lib.hid rfl⟩
          obtain ⟨r2, HR2⟩ : ∃ r2 : Nat, Hid (r1 + y = r2) := ⟨_, Lib.hid rfl⟩
          rw [HR1.out] at hs6 hor HE
          rw [HR2.out] at hor HE
          go_wp2_with (go_at_call 115; go_must (refine hF.mono ?_); rintro e w1 ⟨rfl, rfl⟩)
          refine ⟨⟨i + 1, r2, by omega, by omega, rfl, rfl, rfl, rfl, ?_, ?_, Lib.hid trivial⟩, by simp [intOf]; omega⟩
          · have hB := HB.out
            have h5 := HR1.out
            have h6 := HR2.out
            unfold Hid
            rw [Nat.pow_succ]
            omega
          · unfold Hid
            rw [← HT.out, HE.out, show p + (i + 1) = q + 1 by have := HQ.out; omega]
        · simp only [if_neg hb2] at hF
          rw [if_neg hb2] at HE
          go_wp2_with (go_at_call 115; go_must (refine hF.mono ?_); rintro e w1 ⟨rfl, rfl⟩)
          go_ret3
          rw [← HT.out, HE.out]
          exact ⟨rfl, rfl⟩
    · obtain rfl : i = 3 := by omega
      have hP := point_ok r wr
      have HE := HT.out
      rw [tail_end] at HE
      by_cases hl : r < 2048
      · have hli : (r : Int) < 2048 := by omega
        rw [if_neg (fun hh => by omega)] at HE
        have HE := Lib.hid HE
        go_wp2_with (go_at_call 116; go_must (refine hP.mono ?_); rintro e w1 ⟨rfl, rfl⟩)
        go_ret3
        rw [← HE.out]
        exact ⟨rfl, rfl⟩
      · have hli : ¬ (r : Int) < 2048 := by omega
        cases hpt : pointN r with
        | true =>
          rw [hpt] at hP
          rw [if_pos ⟨by omega, hpt⟩] at HE
          have HE := Lib.hid HE
          go_wp2_with (go_at_call 116; go_must (refine hP.mono ?_); rintro e w1 ⟨rfl, rfl⟩)
          go_ret3
          rw [← HE.out]
          exact ⟨rfl, rfl⟩
        | false =>
          rw [hpt] at hP
          rw [if_neg (fun hh => by rw [hpt] at hh; cases hh.2)] at HE
          have HE := Lib.hid HE
          go_wp2_with (go_at_call 116; go_must (refine hP.mono ?_); rintro e w1 ⟨rfl, rfl⟩)
          go_ret3
          rw [← HE.out]
          exact ⟨rfl, rfl⟩
end Go.Proofs.YticnefkdkkjgcaaGreatDoor

/- The code point at a place of a text: of several bytes. -/
namespace Go.Proofs.YticnefkdkkjgcaaGreatDoor
open Go.RowKit


set_option maxRecDepth 100000 in
theorem first_four (s : ByteArray) (p c : Nat) (h : p < s.size) (hs : s.size ≤ 1152921504606846976) (hc : (s[p]'h).toNat = c) (hd : c / 8 = 30) (w : World) :
    Calls Tryz.prog 89 #[.string s, .int .i64 (p : Int)] w fun e w' => e = FirstE (tailN ((bl s).drop (p + 1)) 4 (c % 8) 65536 1) ∧ w' = w := by
  have h0 : (0 : Int) ≤ (p : Int) := by omega
  have hi : ¬ (p : Int) ≥ (s.size : Int) := by omega
  have h9 : ¬ (c : Int) < 128 := by omega
  have hc1 : c < 256 := by rw [← hc]; exact UInt8.toNat_lt _
  obtain ⟨a1, a2, a3⟩ := and_cls c hc1
  have b0 : ¬ bits .and .u8 (c : Int) 224 = 192 := fun e => by have := a1.1 e; omega
  have b1 : ¬ bits .and .u8 (c : Int) 240 = 224 := fun e => by have := a2.1 e; omega
  have b2 := a3.2 hd
  obtain ⟨r0, HR0⟩ : ∃ r0 : Nat, Hid (c % 8 = r0) := ⟨_, Lib.hid rfl⟩
  have i1 : (c : Int) % 8 = (r0 : Int) := by rw [← HR0.out]; omega
  have i2 : IntKind.i32.wrap (r0 : Int) = (r0 : Int) := by rw [IntKind.wrap_i32, ← HR0.out]; omega
  have HB0 : Hid (r0 < 64 ^ 1) := by unfold Hid; rw [← HR0.out]; omega
  have HP := Lib.hid h
  have HS := Lib.hid hs
  rw [HR0.out]
  clear a1 a2 a3
  go_enter Tryz.func89, Tryz.ntmps89
  go_wp2_with (fail)
  go_loopw [4, 5, 6, 9, 10, 11] (fun u4 u5 u6 u9 u10 u11 wr => ∃ i r : Nat, 1 ≤ i ∧ i ≤ 4 ∧ u4 = .int .i32 (r : Int) ∧ u5 = .int .i64 4 ∧ u6 = .bool false ∧ u9 = .int .i64 (i : Int) ∧ Hid (r < 64 ^ i) ∧ Hid (tailN ((bl s).drop (p + i)) 4 r 65536 i = tailN ((bl s).drop (p + 1)) 4 r0 65536 1) ∧ Hid (wr = w)) (fun _ _ _ u9 _ _ _ => 4 - (intOf u9).toNat)
  case atStart => exact ⟨1, r0, by decide, by decide, rfl, rfl, rfl, rfl, HB0, Lib.hid rfl, Lib.hid rfl⟩
  case round =>
    obtain ⟨i, r, h1, h2, rfl, rfl, rfl, rfl, HB, HT, HW⟩ := hrel
    have HW2 := HW.out
    subst HW2
    have hr : r < 16777216 := by
      have := HB.out
      have h3 : 64 ^ i ≤ 64 ^ 4 := Nat.pow_le_pow_right (by decide) (by omega)
      omega
    by_cases hlt : i < 4
    · have hlt2 : (i : Int) < 4 := by omega
      obtain ⟨q, HQ⟩ : ∃ q : Nat, Hid (p + i = q) := ⟨_, Lib.hid rfl⟩
      have hq1 : IntKind.i64.wrap ((p : Int) + (i : Int)) = (q : Int) := by have := HQ.out; rw [IntWalk.i64_left, IntWalk.wrap64_in _ ⟨by omega, by omega⟩]; omega
      have hF := follow_ok s q wr
      have hi3 : IntKind.i64.wrap ((i : Int) + 1) = ((i + 1 : Nat) : Int) := by rw [IntWalk.i64_left, IntWalk.wrap64_in _ ⟨by omega, by omega⟩]; omega
      have hend : ∀ x, x = none → FirstE x = .returned (.tuple #[.int .i32 0, .int .i64 0, .bool false]) := fun x hx => by subst hx; rfl
      cases hb : (bl s)[q]? with
      | none =>
        rw [hb] at hF
        dsimp only at hF
        have HE : Hid (tailN ((bl s).drop (p + i)) 4 r 65536 i = none) := by unfold Hid; rw [HQ.out]; exact tail_none hb hlt
        go_wp2_with (go_at_call 115; go_must (refine hF.mono ?_); rintro e w1 ⟨rfl, rfl⟩)
        go_ret3
        rw [← HT.out, HE.out]
        exact ⟨rfl, rfl⟩
      | some b =>
        rw [hb] at hF
        dsimp only at hF
        have HE : Hid (tailN ((bl s).drop (p + i)) 4 r 65536 i = if b / 64 = 2 then tailN ((bl s).drop (q + 1)) 4 (r * 64 + b % 64) 65536 (i + 1) else none) := by unfold Hid; rw [HQ.out]; exact tail_step hb hlt
        by_cases hb2 : b / 64 = 2
        · simp only [if_pos hb2] at hF
          rw [if_pos hb2] at HE
          obtain ⟨y, HY⟩ : ∃ y : Nat, Hid (b % 64 = y) := ⟨_, Lib.hid rfl⟩
          rw [HY.out] at hF HE
          have hy : y < 64 := by rw [← HY.out]; omega
          have hs6 : IntKind.i32.wrap ((r : Int) * 64) = ((r * 64 : Nat) : Int) := by rw [IntKind.wrap_i32]; omega
          have hor : bits .or .i32 ((r * 64 : Nat) : Int) (y : Int) = ((r * 64 + y : Nat) : Int) := by
            have h7 := i32_or6 (x := ((r * 64 : Nat) : Int)) (y := (y : Int)) (by omega) (by omega) (by omega) (by omega) (by omega)
            rw [h7]; omega
          obtain ⟨r1, HR1⟩ : ∃ r1 : Nat, Hid (r * 64 = r1) := ⟨_, Lib.hid rfl⟩
          obtain ⟨r2, HR2⟩ : ∃ r2 : Nat, Hid (r1 + y = r2) := ⟨_, Lib.hid rfl⟩
          rw [HR1.out] at hs6 hor HE
          rw [HR2.out] at hor HE
          go_wp2_with (go_at_call 115; go_must (refine hF.mono ?_); rintro e w1 ⟨rfl, rfl⟩)
          refine ⟨⟨i + 1, r2, by omega, by omega, rfl, rfl, rfl, rfl, ?_, ?_, Lib.hid trivial⟩, by simp [intOf]; omega⟩
          · have hB := HB.out
            have h5 := HR1.out
            have h6 := HR2.out
            unfold Hid
            rw [Nat.pow_succ]
            omega
          · unfold Hid
            rw [← HT.out, HE.out, show p + (i + 1) = q + 1 by have := HQ.out; omega]
        · simp only [if_neg hb2] at hF
          rw [if_neg hb2] at HE
          go_wp2_with (go_at_call 115; go_must (refine hF.mono ?_); rintro e w1 ⟨rfl, rfl⟩)
          go_ret3
          rw [← HT.out, HE.out]
          exact ⟨rfl, rfl⟩
    · obtain rfl : i = 4 := by omega
      have hP := point_ok r wr
      have HE := HT.out
      rw [tail_end] at HE
      by_cases hl : r < 65536
      · have hli : (r : Int) < 65536 := by omega
        rw [if_neg (fun hh => by omega)] at HE
        have HE := Lib.hid HE
        go_wp2_with (go_at_call 116; go_must (refine hP.mono ?_); rintro e w1 ⟨rfl, rfl⟩)
        go_ret3
        rw [← HE.out]
        exact ⟨rfl, rfl⟩
      · have hli : ¬ (r : Int) < 65536 := by omega
        cases hpt : pointN r with
        | true =>
          rw [hpt] at hP
          rw [if_pos ⟨by omega, hpt⟩] at HE
          have HE := Lib.hid HE
          go_wp2_with (go_at_call 116; go_must (refine hP.mono ?_); rintro e w1 ⟨rfl, rfl⟩)
          go_ret3
          rw [← HE.out]
          exact ⟨rfl, rfl⟩
        | false =>
          rw [hpt] at hP
          rw [if_neg (fun hh => by rw [hpt] at hh; cases hh.2)] at HE
          have HE := Lib.hid HE
          go_wp2_with (go_at_call 116; go_must (refine hP.mono ?_); rintro e w1 ⟨rfl, rfl⟩)
          go_ret3
          rw [← HE.out]
          exact ⟨rfl, rfl⟩
end Go.Proofs.YticnefkdkkjgcaaGreatDoor

/- utf.First. -/
namespace Go.Proofs.YticnefkdkkjgcaaGreatDoor
open Go.RowKit

set_option maxRecDepth 100000 in
theorem first_bad (s : ByteArray) (p c : Nat) (h : p < s.size) (hc : (s[p]'h).toNat = c) (h8 : 128 ≤ c) (h2 : ¬ c / 32 = 6) (h3 : ¬ c / 16 = 14) (h4 : ¬ c / 8 = 30) (w : World) :
    Calls Tryz.prog 89 #[.string s, .int .i64 (p : Int)] w fun e w' => e = FirstE none ∧ w' = w := by
  have h0 : (0 : Int) ≤ (p : Int) := by omega
  have hi : ¬ (p : Int) ≥ (s.size : Int) := by omega
  have h9 : ¬ (c : Int) < 128 := by omega
  have hc1 : c < 256 := by rw [← hc]; exact UInt8.toNat_lt _
  obtain ⟨a1, a2, a3⟩ := and_cls c hc1
  have b0 : ¬ bits .and .u8 (c : Int) 224 = 192 := fun e => h2 (a1.1 e)
  have b1 : ¬ bits .and .u8 (c : Int) 240 = 224 := fun e => h3 (a2.1 e)
  have b2 : ¬ bits .and .u8 (c : Int) 248 = 240 := fun e => h4 (a3.1 e)
  clear a1 a2 a3 h2 h3 h4
  go_enter Tryz.func89, Tryz.ntmps89
  go_wp2
  go_ret3
  exact ⟨rfl, rfl⟩
theorem utfFirst_ok (s : ByteArray) (p : Nat) (hs : s.size ≤ 1152921504606846976) (hp : p ≤ 1152921504606846976) (w : World) :
    Calls Tryz.prog 89 #[.string s, .int .i64 (p : Int)] w fun e w' => e = FirstE (utfN ((bl s).drop p)) ∧ w' = w := by
  have hl : (bl s).length = s.size := by simp [bl]
  by_cases h : p < s.size
  · obtain ⟨c, hc⟩ : ∃ c, (s[p]'h).toNat = c := ⟨_, rfl⟩
    have hb := byte_at h
    rw [hc] at hb
    obtain ⟨hq, hg⟩ := List.getElem?_eq_some_iff.1 hb
    rw [List.drop_eq_getElem_cons hq, hg]
    by_cases h8 : c < 128
    · rw [show utfN (c :: (bl s).drop (p + 1)) = some (c, 1) by simp only [utfN]; rw [if_pos h8]]
      exact first_one s p c h hc h8 w
    · by_cases h2 : c / 32 = 6
      · rw [show utfN (c :: (bl s).drop (p + 1)) = tailN ((bl s).drop (p + 1)) 2 (c % 32) 128 1 by simp only [utfN]; rw [if_neg h8, if_pos h2]; rfl]
        exact first_two s p c h hs hc h2 w
      · by_cases h3 : c / 16 = 14
        · rw [show utfN (c :: (bl s).drop (p + 1)) = tailN ((bl s).drop (p + 1)) 3 (c % 16) 2048 1 by simp only [utfN]; rw [if_neg h8, if_neg h2, if_pos h3]; rfl]
          exact first_three s p c h hs hc h3 w
        · by_cases h4 : c / 8 = 30
          · rw [show utfN (c :: (bl s).drop (p + 1)) = tailN ((bl s).drop (p + 1)) 4 (c % 8) 65536 1 by simp only [utfN]; rw [if_neg h8, if_neg h2, if_neg h3, if_pos h4]; rfl]
            exact first_four s p c h hs hc h4 w
          · rw [show utfN (c :: (bl s).drop (p + 1)) = none by simp only [utfN]; rw [if_neg h8, if_neg h2, if_neg h3, if_neg h4]]
            exact first_bad s p c h hc (by omega) h2 h3 h4 w
  · rw [List.drop_eq_nil_of_le (by omega)]
    exact first_out s p (by omega) w (by omega)
end Go.Proofs.YticnefkdkkjgcaaGreatDoor

/- packread.within: the first wrong byte of an encoding. -/
namespace Go.Proofs.YticnefkdkkjgcaaGreatDoor
open Go.RowKit

def tailL : Nat → List Nat
  | 0 => []
  | 1 => [128]
  | _ => [128, 128]
def goodJ (l : List Nat) (k : Nat) : Nat → Bool
  | 0 => false
  | j + 1 => goodJ l k j || (utfK (l ++ tailL j) == some k)
theorem goodJ_all (l : List Nat) (k : Nat) : goodJ l k 3 = goodN l k := by simp [goodJ, goodN, tailL]
theorem bl_app (a b : ByteArray) : bl (a ++ b) = bl a ++ bl b := by simp [bl]
theorem bl_take (s : ByteArray) (n : Nat) : bl (s.extract 0 n) = (bl s).take n := by simp [bl]

/-- what 'first' and 'within' answer -/
def WithinE (x : Option Nat) : Ending := match x with
  | some i => .returned (.tuple #[.int .i64 (i : Int), .bool true])
  | none => .returned (.tuple #[.int .i64 0, .bool false])
theorem size_tail (s t : ByteArray) (n : Nat) (hs : s.size ≤ 1152921504606846970) (ht : t.size ≤ 3) : (s.extract 0 n ++ t).size ≤ 1152921504606846976 := by
  rw [ByteArray.size_append, ByteArray.size_extract]; omega
end Go.Proofs.YticnefkdkkjgcaaGreatDoor

/- packread.first: the tries by which it finds of how many bytes an encoding is. Plain Lean. -/
namespace Go.Proofs.YticnefkdkkjgcaaGreatDoor

def cL : Nat → List Nat
  | 0 => []
  | 1 => [128]
  | 2 => [144]
  | _ => [160]
def tL : Nat → List Nat
  | 0 => []
  | 1 => [128]
  | 2 => [128, 128]
  | _ => [128, 128, 128]
theorem lead_try (b : Nat) (hb : b < 256) (h : ∀ a j, a < 4 → j < 4 → utfK (b :: (cL j ++ tL a)) = none) : leadK b = none := by
  have key := (show ∀ b : Fin 256, (leadK b.val).isSome = true → ∃ a : Fin 4, ∃ j : Fin 4, (utfK (b.val :: (cL j.val ++ tL a.val))).isSome = true by decide +kernel) ⟨b, hb⟩
  cases hk : leadK b with
  | none => rfl
  | some k =>
    obtain ⟨a, j, h1⟩ := key (by rw [hk]; rfl)
    rw [h a.val j.val a.isLt j.isLt] at h1
    cases h1
end Go.Proofs.YticnefkdkkjgcaaGreatDoor

/- No document begins another; what is refused at a place is refused at the end of each beginning that ends ahead of it. Plain Lean. -/
namespace Go.Proofs.YticnefkdkkjgcaaGreatDoor

/-! ### encodings -/
theorem contN_app : ∀ (l : List Nat) (n r r' : Nat) (l2 : List Nat), contN l n r = some r' → contN (l ++ l2) n r = some r'
  | l, 0, r, r', l2, h => by cases l <;> cases l2 <;> simpa [contN] using h
  | [], _ + 1, _, _, _, h => by simp [contN] at h
  | b :: l, n + 1, r, r', l2, h => by
    simp only [contN, List.cons_append] at h ⊢
    split at h
    · rw [if_pos (by assumption)]; exact contN_app l n _ _ l2 h
    · simp at h
theorem contN_len : ∀ (l : List Nat) (n r r' : Nat), contN l n r = some r' → n ≤ l.length
  | _, 0, _, _, _ => Nat.zero_le _
  | [], _ + 1, _, _, h => by simp [contN] at h
  | b :: l, n + 1, r, r', h => by
    simp only [contN] at h
    split at h
    · have := contN_len l n _ _ h; simp; omega
    · simp at h
theorem utfN_app {l : List Nat} {x : Nat × Nat} (l2 : List Nat) (h : utfN l = some x) : utfN (l ++ l2) = some x := by
  match l, h with
  | [], h => simp [utfN] at h
  | c :: l, h =>
    simp only [utfN, List.cons_append] at h ⊢
    split
    · rename_i h1; rw [if_pos h1] at h; exact h
    · rename_i h1
      rw [if_neg h1] at h
      split
      · rename_i h2
        rw [if_pos h2] at h
        obtain ⟨r, hr, h⟩ := Option.bind_eq_some_iff.1 h
        rw [contN_app _ _ _ _ l2 hr]
        exact h
      · rename_i h2
        rw [if_neg h2] at h
        split
        · rename_i h3
          rw [if_pos h3] at h
          obtain ⟨r, hr, h⟩ := Option.bind_eq_some_iff.1 h
          rw [contN_app _ _ _ _ l2 hr]
          exact h
        · rename_i h3
          rw [if_neg h3] at h
          split
          · rename_i h4
            rw [if_pos h4] at h
            obtain ⟨r, hr, h⟩ := Option.bind_eq_some_iff.1 h
            rw [contN_app _ _ _ _ l2 hr]
            exact h
          · rename_i h4
            rw [if_neg h4] at h
            exact h
theorem utfK_app {l : List Nat} {k : Nat} (l2 : List Nat) (h : utfK l = some k) : utfK (l ++ l2) = some k := by
  obtain ⟨x, hx, rfl⟩ := Option.map_eq_some_iff.1 h
  rw [utfK, utfN_app l2 hx]; rfl
/-- what stands where a code point stands -/
theorem utfK_cases {l : List Nat} {k : Nat} (h : utfK l = some k) : ∃ c r, l = c :: r ∧
    ((k = 1 ∧ c < 0x80) ∨
     (k = 2 ∧ c / 32 = 6 ∧ ∃ b1 r1, r = b1 :: r1 ∧ b1 / 64 = 2 ∧ 0x80 ≤ c % 32 * 64 + b1 % 64) ∨
     (k = 3 ∧ c / 16 = 14 ∧ ∃ b1 b2 r1, r = b1 :: b2 :: r1 ∧ b1 / 64 = 2 ∧ b2 / 64 = 2 ∧ 0x800 ≤ (c % 16 * 64 + b1 % 64) * 64 + b2 % 64 ∧ pointN ((c % 16 * 64 + b1 % 64) * 64 + b2 % 64) = true) ∨
     (k = 4 ∧ c / 8 = 30 ∧ ∃ b1 b2 b3 r1, r = b1 :: b2 :: b3 :: r1 ∧ b1 / 64 = 2 ∧ b2 / 64 = 2 ∧ b3 / 64 = 2 ∧ 0x10000 ≤ ((c % 8 * 64 + b1 % 64) * 64 + b2 % 64) * 64 + b3 % 64 ∧ pointN (((c % 8 * 64 + b1 % 64) * 64 + b2 % 64) * 64 + b3 % 64) = true)) := by
  obtain ⟨x, hx, rfl⟩ := Option.map_eq_some_iff.1 h
  clear h
  match l, hx with
  | [], h => simp [utfN] at h
  | c :: l, hx =>
    refine ⟨c, l, rfl, ?_⟩
    simp only [utfN] at hx
    split at hx
    · simp at hx; subst hx; exact .inl ⟨rfl, by assumption⟩
    split at hx
    · obtain ⟨r, hr, hy⟩ := Option.bind_eq_some_iff.1 hx
      clear hx
      match l, hr with
      | [], hr => simp [contN] at hr
      | b1 :: l, hr =>
        simp only [contN] at hr
        split at hr
        · split at hy
          · simp only [Option.some.injEq] at hr hy
            subst hr hy
            exact .inr (.inl ⟨rfl, by assumption, b1, l, rfl, by assumption, by omega⟩)
          · simp at hy
        · simp at hr
    split at hx
    · obtain ⟨r, hr, hy⟩ := Option.bind_eq_some_iff.1 hx
      clear hx
      match l, hr with
      | [], hr => simp [contN] at hr
      | [b1], hr => simp [contN] at hr
      | b1 :: b2 :: l, hr =>
        simp only [contN] at hr
        split at hr
        · split at hr
          · split at hy
            · rename_i hp
              simp only [Option.some.injEq] at hr hy
              subst hr hy
              exact .inr (.inr (.inl ⟨rfl, by assumption, b1, b2, l, rfl, by assumption, by assumption, hp.1, hp.2⟩))
            · simp at hy
          · simp at hr
        · simp at hr
    split at hx
    · obtain ⟨r, hr, hy⟩ := Option.bind_eq_some_iff.1 hx
      clear hx
      match l, hr with
      | [], hr => simp [contN] at hr
      | [b1], hr => simp [contN] at hr
      | [b1, b2], hr => simp [contN] at hr
      | b1 :: b2 :: b3 :: l, hr =>
        simp only [contN] at hr
        split at hr
        · split at hr
          · split at hr
            · split at hy
              · rename_i hp
                simp only [Option.some.injEq] at hr hy
                subst hr hy
                exact .inr (.inr (.inr ⟨rfl, by assumption, b1, b2, b3, l, rfl, by assumption, by assumption, by assumption, hp.1, hp.2⟩))
              · simp at hy
            · simp at hr
          · simp at hr
        · simp at hr
    · simp at hx
theorem utfK_pos {l : List Nat} {k : Nat} (h : utfK l = some k) : 1 ≤ k ∧ k ≤ l.length ∧ k ≤ 4 := by
  obtain ⟨c, r, e, g⟩ := utfK_cases h
  clear h
  subst e
  rcases g with ⟨rfl, _⟩ | ⟨rfl, _, b1, r1, rfl, _⟩ | ⟨rfl, _, b1, b2, r1, rfl, _⟩ | ⟨rfl, _, b1, b2, b3, r1, rfl, _⟩ <;> simp
theorem pointN_iff (r : Nat) : pointN r = true ↔ r ≤ 0x10ffff ∧ (r < 0xd800 ∨ 0xdfff < r) := by simp [pointN]
theorem utfK_lead {c : Nat} {l : List Nat} {k : Nat} (h : utfK (c :: l) = some k) : leadK c = some k := by
  obtain ⟨c', r, e, g⟩ := utfK_cases h
  clear h
  simp only [List.cons.injEq] at e
  obtain ⟨rfl, rfl⟩ := e
  unfold leadK
  rcases g with ⟨rfl, h⟩ | ⟨rfl, h, b1, r1, rfl, h1, h2⟩ | ⟨rfl, h, b1, b2, r1, rfl, h1, h2, h3, h4⟩ | ⟨rfl, h, b1, b2, b3, r1, rfl, h1, h2, h3, h4, h5⟩
  · rw [if_pos h]
  · rw [if_neg (by omega), if_pos (by omega)]
  · rw [if_neg (by omega), if_neg (by omega), if_pos (by omega)]
  · rw [pointN_iff] at h5
    rw [if_neg (by omega), if_neg (by omega), if_neg (by omega), if_pos (by omega)]
theorem utfK_mk2 {c b1 : Nat} {r : List Nat} (h : c / 32 = 6) (h1 : b1 / 64 = 2) (h2 : 0x80 ≤ c % 32 * 64 + b1 % 64) : utfK (c :: b1 :: r) = some 2 := by
  have : c % 32 * 64 + b1 % 64 < 0xd800 := by omega
  simp only [utfK, utfN]
  rw [if_neg (by omega), if_pos h]
  simp [contN, h1, h2, pointN_iff]
  omega
theorem utfK_mk3 {c b1 b2 : Nat} {r : List Nat} (h : c / 16 = 14) (h1 : b1 / 64 = 2) (h2 : b2 / 64 = 2) (h3 : 0x800 ≤ (c % 16 * 64 + b1 % 64) * 64 + b2 % 64) (h4 : pointN ((c % 16 * 64 + b1 % 64) * 64 + b2 % 64) = true) : utfK (c :: b1 :: b2 :: r) = some 3 := by
  simp only [utfK, utfN]
  rw [if_neg (by omega), if_neg (by omega), if_pos h]
  simp [contN, h1, h2, h3, h4]
theorem utfK_mk4 {c b1 b2 b3 : Nat} {r : List Nat} (h : c / 8 = 30) (h1 : b1 / 64 = 2) (h2 : b2 / 64 = 2) (h3 : b3 / 64 = 2) (h4 : 0x10000 ≤ ((c % 8 * 64 + b1 % 64) * 64 + b2 % 64) * 64 + b3 % 64) (h5 : pointN (((c % 8 * 64 + b1 % 64) * 64 + b2 % 64) * 64 + b3 % 64) = true) : utfK (c :: b1 :: b2 :: b3 :: r) = some 4 := by
  simp only [utfK, utfN]
  rw [if_neg (by omega), if_neg (by omega), if_neg (by omega), if_pos h]
  simp [contN, h1, h2, h3, h4, h5]
theorem good_of {l : List Nat} {k : Nat} (h : utfK l = some k) {i : Nat} (h1 : 1 ≤ i) (h2 : i < k) : goodN (l.take (i + 1)) k = true := by
  obtain ⟨c, r, e, g⟩ := utfK_cases h
  clear h
  subst e
  unfold goodN
  simp only [Bool.or_eq_true, beq_iff_eq]
  rcases g with ⟨rfl, _⟩ | ⟨rfl, h, b1, r1, rfl, g1, g2⟩ | ⟨rfl, h, b1, b2, r1, rfl, g1, g2, g3, g4⟩ | ⟨rfl, h, b1, b2, b3, r1, rfl, g1, g2, g3, g4, g5⟩
  · omega
  · obtain rfl : i = 1 := by omega
    exact .inl (.inl (utfK_mk2 h g1 g2))
  · rw [pointN_iff] at g4
    obtain rfl | rfl : i = 1 ∨ i = 2 := by omega
    · exact .inl (.inr (utfK_mk3 h g1 (by decide) (by omega) ((pointN_iff _).2 (by omega))))
    · exact .inl (.inl (utfK_mk3 h g1 g2 g3 ((pointN_iff _).2 g4)))
  · rw [pointN_iff] at g5
    obtain rfl | rfl | rfl : i = 1 ∨ i = 2 ∨ i = 3 := by omega
    · exact .inr (utfK_mk4 h g1 (by decide) (by decide) (by omega) ((pointN_iff _).2 (by omega)))
    · exact .inl (.inr (utfK_mk4 h g1 g2 (by decide) (by omega) ((pointN_iff _).2 (by omega))))
    · exact .inl (.inl (utfK_mk4 h g1 g2 g3 g4 ((pointN_iff _).2 g5)))
theorem within_app : ∀ (m i : Nat) (l l2 : List Nat) (k p : Nat), withinN l k m i = some p → withinN (l ++ l2) k m i = some p ∧ i ≤ p ∧ p < k ∧ p < l.length ∧ goodN (l.take (p + 1)) k = false
  | 0, _, _, _, _, _, h => by simp [withinN] at h
  | m + 1, i, l, l2, k, p, h => by
    simp only [withinN] at h ⊢
    split at h
    · rename_i hc
      have ht : (l ++ l2).take (i + 1) = l.take (i + 1) := List.take_append_of_le_length (by omega)
      rw [if_pos ⟨hc.1, by rw [List.length_append]; omega⟩, ht]
      split at h
      · rename_i hg
        rw [if_pos hg]
        obtain ⟨h1, h2, h3, h4, h5⟩ := within_app m (i + 1) l l2 k p h
        exact ⟨h1, by omega, h3, h4, h5⟩
      · rename_i hg
        rw [if_neg hg]
        simp only [Option.some.injEq] at h
        subst h
        exact ⟨rfl, Nat.le_refl _, hc.1, hc.2, by simpa using hg⟩
    · simp at h
theorem first_app {l : List Nat} {n p : Nat} (l2 : List Nat) (hl : l ≠ []) (hn : (l ++ l2).length ≤ n) (h : firstN l n = some p) : firstN (l ++ l2) n = some p ∧ utfK (l ++ l2) = none ∧ p < l.length := by
  match l, hl with
  | b :: l, _ =>
    have key : ∀ k, utfK (b :: l ++ l2) = some k → leadK b = some k ∧ k ≤ n := fun k hk => ⟨utfK_lead hk, Nat.le_trans (utfK_pos hk).2.1 hn⟩
    have key2 : utfK (b :: l ++ l2) ≠ none → ∃ k, utfK (b :: l ++ l2) = some k := fun h => Option.ne_none_iff_exists'.1 h
    simp only [firstN, List.cons_append] at h ⊢
    cases hk : leadK b with
    | none =>
      rw [hk] at h
      simp only [Option.some.injEq] at h
      subst h
      refine ⟨rfl, Decidable.byContradiction fun hc => ?_, by simp⟩
      obtain ⟨k, hk'⟩ := key2 hc
      rw [hk] at key
      exact absurd (key k hk').1 (by simp)
    | some k =>
      rw [hk] at h
      simp only at h ⊢
      split at h
      · rename_i hlt
        rw [if_pos hlt]
        simp only [Option.some.injEq] at h
        subst h
        refine ⟨rfl, Decidable.byContradiction fun hc => ?_, by simp⟩
        obtain ⟨k', hk'⟩ := key2 hc
        obtain ⟨h1, h2⟩ := key k' hk'
        rw [hk] at h1
        simp only [Option.some.injEq] at h1
        omega
      · rename_i hlt
        rw [if_neg hlt]
        obtain ⟨h1, h2, h3, h4, h5⟩ := within_app 4 1 (b :: l) l2 k p h
        refine ⟨h1, Decidable.byContradiction fun hc => ?_, h4⟩
        obtain ⟨k', hk'⟩ := key2 hc
        obtain ⟨g1, g2⟩ := key k' hk'
        rw [hk] at g1
        simp only [Option.some.injEq] at g1
        subst g1
        have := good_of hk' h2 h3
        rw [List.take_append_of_le_length (by omega), h5] at this
        cases this
theorem scan_app : ∀ (m : Nat) (l : List Nat) (n : Nat) (l2 : List Nat) (p m' : Nat), l.length ≤ m → (l ++ l2).length ≤ m' → (l ++ l2).length ≤ n → scanN m l n = some p → scanN m' (l ++ l2) n = some p ∧ p < l.length
  | 0, _, _, _, _, _, _, _, _, h => by simp [scanN] at h
  | m + 1, [], _, _, _, _, _, _, _, h => by simp [scanN] at h
  | m + 1, b :: l, n, l2, p, 0, _, h2, _, _ => by simp at h2
  | m + 1, b :: l, n, l2, p, m' + 1, h1, h2, h3, h => by
    cases hk : utfK (b :: l) with
    | some k =>
      obtain ⟨k1, k2, k3⟩ := utfK_pos hk
      have hk2 : utfK (b :: (l ++ l2)) = some k := utfK_app l2 hk
      simp only [scanN, hk] at h
      obtain ⟨p0, hp0, rfl⟩ := Option.map_eq_some_iff.1 h
      have hd : (b :: l ++ l2).drop k = (b :: l).drop k ++ l2 := List.drop_append_of_le_length k2
      have hlen : ((b :: l).drop k ++ l2).length = (b :: l ++ l2).length - k := by rw [← hd, List.length_drop]
      obtain ⟨g1, g2⟩ := scan_app m ((b :: l).drop k) (n - k) l2 p0 m' (by rw [List.length_drop]; omega) (by omega) (by omega) hp0
      simp only [List.cons_append, scanN, hk2]
      rw [List.length_drop] at g2
      refine ⟨?_, by omega⟩
      rw [show (b :: (l ++ l2)).drop k = (b :: l).drop k ++ l2 from hd, g1]
      rfl
    | none =>
      simp only [scanN, hk] at h
      obtain ⟨g1, g2, g3⟩ := first_app l2 (by simp) h3 h
      refine ⟨?_, g3⟩
      simp only [List.cons_append] at g1 g2
      simp only [List.cons_append, scanN, g2, g1]
theorem scan_none {m m' : Nat} {l : List Nat} {n : Nat} (j : Nat) (h1 : l.length ≤ m) (h2 : l.length ≤ n) (h3 : (l.take j).length ≤ m') (h : ∀ p, scanN m l n = some p → j ≤ p) : scanN m' (l.take j) n = none := by
  refine Decidable.byContradiction fun hc => ?_
  obtain ⟨q, hq⟩ := Option.ne_none_iff_exists'.1 hc
  have e : l.take j ++ l.drop j = l := List.take_append_drop j l
  obtain ⟨g1, g2⟩ := scan_app m' (l.take j) n (l.drop j) q m h3 (by rw [e]; exact h1) (by rw [e]; exact h2) hq
  rw [e] at g1
  have := h q g1
  rw [List.length_take] at g2
  omega

/-! ### beginnings -/
/-- r' is what is read of the first i bytes, r what is read of all -/
def Cl {α : Type} (i : Nat) (r' r : R α) : Prop := match r with
  | .ok v p => (p ≤ i → r' = .ok v p) ∧ (i < p → r' = .bad 3 i)
  | .bad _ p => i ≤ p → r' = .bad 3 i
def OkGe {α : Type} (p : Nat) (r : R α) : Prop := match r with
  | .ok _ q => p ≤ q
  | .bad _ _ => True
theorem OkGe.mono {α : Type} {p q : Nat} {r : R α} (h : OkGe q r) (hp : p ≤ q) : OkGe p r := by
  cases r with
  | ok v z => exact Nat.le_trans hp h
  | bad c z => trivial
theorem OkGe.bind {α β : Type} {p : Nat} {m : R α} {f : α → Nat → R β} (h : OkGe p m) (hf : ∀ v q, p ≤ q → OkGe q (f v q)) : OkGe p (m.bind f) := by
  cases m with
  | ok v q => exact (hf v q h).mono h
  | bad c q => trivial
theorem Cl.bind {α β : Type} {i : Nat} {m m' : R α} {f f' : α → Nat → R β} (h : Cl i m' m) (hf : ∀ v q, m = .ok v q → q ≤ i → Cl i (f' v q) (f v q)) (hg : ∀ v q, m = .ok v q → OkGe q (f v q)) : Cl i (m'.bind f') (m.bind f) := by
  cases m with
  | ok v q =>
    by_cases hq : q ≤ i
    · rw [h.1 hq]
      exact hf v q rfl hq
    · rw [h.2 (by omega)]
      have := hg v q rfl
      show Cl i (.bad 3 i) (f v q)
      cases hr : f v q with
      | ok w z =>
        rw [hr] at this
        exact ⟨fun hz => absurd (Nat.le_trans this hz) hq, fun _ => rfl⟩
      | bad c z => exact fun _ => rfl
  | bad c q => exact fun hq => by rw [show m' = .bad 3 i from h hq]; rfl
theorem Cl.ok {α : Type} {i p : Nat} (v : α) (h : p ≤ i) : Cl i (.ok v p) (.ok v p) := ⟨fun _ => rfl, fun h' => absurd h (by omega)⟩
theorem Cl.bad {α : Type} {i p c : Nat} (r' : R α) (h : p < i) : Cl i r' (.bad c p) := fun h' => absurd h (by omega)
end Go.Proofs.YticnefkdkkjgcaaGreatDoor

/- packread.first: where no encoding stands, the first wrong byte. -/
namespace Go.Proofs.YticnefkdkkjgcaaGreatDoor
open Go.RowKit

/-- all tries ahead of the one at (a, j) failed -/
def Tried (b a j : Nat) : Prop := ∀ a' j', a' < 4 → j' < 4 → (a' < a ∨ a' = a ∧ j' < j) → utfK (b :: (cL j' ++ tL a')) = none
theorem Tried.next {b a j : Nat} (h : Tried b a j) (hx : utfK (b :: (cL j ++ tL a)) = none) : Tried b a (j + 1) := fun a' j' h1 h2 h3 => by
  rcases h3 with h3 | ⟨rfl, h3⟩
  · exact h a' j' h1 h2 (.inl h3)
  · rcases Nat.lt_or_ge j' j with h4 | h4
    · exact h a' j' h1 h2 (.inr ⟨rfl, h4⟩)
    · obtain rfl : j' = j := by omega
      exact hx
theorem Tried.row {b a : Nat} (h : Tried b a 4) : Tried b (a + 1) 0 := fun a' j' h1 h2 h3 => by
  rcases h3 with h3 | ⟨rfl, h3⟩
  · rcases Nat.lt_or_ge a' a with h4 | h4
    · exact h a' j' h1 h2 (.inl h4)
    · obtain rfl : a' = a := by omega
      exact h a' j' h1 h2 (.inr ⟨rfl, h2⟩)
  · omega
theorem bl_head {s : ByteArray} (h : 0 < s.size) : ∃ r, bl s = (s[0]'h).toNat :: r ∧ bl (s.extract 0 1) = [(s[0]'h).toNat] := by
  have h1 := byte_at h
  obtain ⟨hq, hg⟩ := List.getElem?_eq_some_iff.1 h1
  have e : bl s = (s[0]'h).toNat :: (bl s).drop 1 := by
    have := List.drop_eq_getElem_cons hq
    rw [List.drop_zero, hg] at this
    exact this
  refine ⟨(bl s).drop 1, e, ?_⟩
  rw [bl_take, e]
  rfl
theorem first_some {s : ByteArray} {b k n : Nat} {r : List Nat} (e : bl s = b :: r) (h : leadK b = some k) : firstN (bl s) n = if n < k then some 0 else withinN (bl s) k 4 1 := by
  rw [e]; simp only [firstN, h]
theorem first_none {s : ByteArray} {b n : Nat} {r : List Nat} (e : bl s = b :: r) (h : leadK b = none) : firstN (bl s) n = some 0 := by
  rw [e]; simp only [firstN, h]
theorem size_app3 (s c t : ByteArray) (hs : s.size ≤ 1152921504606846960) (h1 : c.size ≤ 3) (h2 : t.size ≤ 3) : (s.extract 0 1 ++ c ++ t).size ≤ 1152921504606846976 := by
  rw [ByteArray.size_append, ByteArray.size_append, ByteArray.size_extract]; omega
end Go.Proofs.YticnefkdkkjgcaaGreatDoor

/- packread's family of texts. UNDER WAY. -/
namespace Go.Proofs.YticnefkdkkjgcaaGreatDoor
open Go.RowKit

/-- a scan from a place on: what is left of the fuel does not matter -/
def ScanAt (l : List Nat) (n at_ : Nat) : Option Nat := (scanN (l.length - at_) (l.drop at_) (n - at_)).map (· + at_)
theorem scan_fuel {m m' : Nat} {l : List Nat} {n : Nat} (h1 : l.length ≤ m) (h2 : l.length ≤ m') (h3 : l.length ≤ n) : scanN m l n = scanN m' l n := by
  cases h : scanN m l n with
  | some p =>
    have := (scan_app m l n [] p m' h1 (by simpa using h2) (by simpa using h3) h).1
    rw [List.append_nil] at this
    exact this.symm
  | none =>
    cases h' : scanN m' l n with
    | none => rfl
    | some p =>
      have := (scan_app m' l n [] p m h2 (by simpa using h1) (by simpa using h3) h').1
      rw [List.append_nil, h] at this
      cases this
theorem scan_at_end {l : List Nat} {n p : Nat} (h : l.length ≤ p) : ScanAt l n p = none := by
  unfold ScanAt
  rw [show l.length - p = 0 by omega]
  rfl
theorem scan_at_step {l : List Nat} {n p k : Nat} (h : p < l.length) (hn : l.length ≤ n) (hk : utfK (l.drop p) = some k) : ScanAt l n p = ScanAt l n (p + k) := by
  obtain ⟨k1, k2, _⟩ := utfK_pos hk
  rw [List.length_drop] at k2
  unfold ScanAt
  rw [show l.length - p = (l.length - p - 1) + 1 by omega]
  have hd : l.drop p ≠ [] := fun e => by
    have := congrArg List.length e
    rw [List.length_drop] at this
    simp at this
    omega
  obtain ⟨b, r, hbr⟩ := List.exists_cons_of_ne_nil hd
  have e : scanN (l.length - p - 1 + 1) (l.drop p) (n - p) = (scanN (l.length - p - 1) ((l.drop p).drop k) (n - p - k)).map (· + k) := by
    rw [hbr] at hk ⊢
    simp only [scanN, hk]
  rw [e, List.drop_drop, Option.map_map, scan_fuel (m' := l.length - (p + k)) (by rw [List.length_drop]; omega) (by rw [List.length_drop]; omega) (by rw [List.length_drop]; omega), show n - p - k = n - (p + k) by omega]
  congr 1
  funext x
  simp only [Function.comp]
  omega
theorem scan_at_bad {l : List Nat} {n p : Nat} (h : p < l.length) (hk : utfK (l.drop p) = none) : ScanAt l n p = (firstN (l.drop p) (n - p)).map (· + p) := by
  unfold ScanAt
  rw [show l.length - p = (l.length - p - 1) + 1 by omega]
  have hd : l.drop p ≠ [] := fun e => by
    have := congrArg List.length e
    rw [List.length_drop] at this
    simp at this
    omega
  obtain ⟨b, r, hbr⟩ := List.exists_cons_of_ne_nil hd
  rw [hbr] at hk ⊢
  simp only [scanN, hk]
end Go.Proofs.YticnefkdkkjgcaaGreatDoor

/- No document begins another: items. Plain Lean. -/
namespace Go.Proofs.YticnefkdkkjgcaaGreatDoor
variable (D : Words)

theorem bl_len (s : ByteArray) : (bl s).length = s.size := by simp [bl]
theorem bl_extract (s : ByteArray) (a b : Nat) : bl (s.extract a b) = ((bl s).take b).drop a := by
  simp [bl, ByteArray.data_extract, Array.toList_extract, List.map_take, List.map_drop]
  rw [List.take_drop]
  rcases Nat.le_total a b with h | h
  · rw [Nat.add_sub_cancel' h]
  · rw [List.drop_eq_nil_of_le (by rw [List.length_take]; omega), List.drop_eq_nil_of_le (by rw [List.length_take]; omega)]
theorem ex_ex (s : ByteArray) {i a b : Nat} (hb : b ≤ i) : (s.extract 0 i).extract a b = s.extract a b := by
  rw [ByteArray.extract_extract]
  congr 1 <;> omega
theorem ex_size (s : ByteArray) {i : Nat} (h : i ≤ s.size) : (s.extract 0 i).size = i := by
  rw [ByteArray.size_extract]; omega

theorem take_cl {s : ByteArray} {i p n : Nat} (hi : i ≤ s.size) (hp : p ≤ i) : Cl i (takeR (s.extract 0 i) p n) (takeR s p n) := by
  unfold takeR
  rw [ex_size s hi]
  by_cases h : s.size - p < n
  · rw [if_pos h]
    exact fun h' => by rw [if_pos (by omega)]
  · rw [if_neg h]
    refine ⟨fun h' => ?_, fun h' => ?_⟩
    · rw [if_neg (by omega), ex_ex s h']
    · rw [if_pos (by omega)]
theorem take_ge {s : ByteArray} {p n : Nat} : OkGe (p + n) (takeR s p n) := by
  unfold takeR
  split
  · trivial
  · exact Nat.le_refl _
theorem take_at {s t : ByteArray} {p n q : Nat} (h : takeR s p n = .ok t q) : p + n = q := by
  unfold takeR at h
  split at h
  · cases h
  · simp only [R.ok.injEq] at h; exact h.2
theorem text_cl {s : ByteArray} {i p n : Nat} (hi : i ≤ s.size) (hp : p ≤ i) : Cl i (textR (s.extract 0 i) p n) (textR s p n) := by
  have hw : bl ((s.extract 0 i).extract p (p + min n (i - p))) = (bl (s.extract p (p + min n (s.size - p)))).take (min n (i - p)) := by
    rw [ex_ex s (by omega), bl_extract, bl_extract, List.take_drop, List.take_take]
    congr 2
    omega
  have hl : (bl (s.extract p (p + min n (s.size - p)))).length ≤ min n (s.size - p) := by
    rw [bl_len, ByteArray.size_extract]; omega
  have none_ : (∀ q, scanN (s.size - p) (bl (s.extract p (p + min n (s.size - p)))) n = some q → min n (i - p) ≤ q) → textR (s.extract 0 i) p n = takeR (s.extract 0 i) p n := fun h => by
    unfold textR
    rw [ex_size s hi, hw, scan_none (m := s.size - p) (min n (i - p)) (by omega) (by omega) (by rw [List.length_take]; omega) h]
  cases hs : scanN (s.size - p) (bl (s.extract p (p + min n (s.size - p)))) n with
  | some q =>
    have e : textR s p n = .bad 3 (p + q) := by unfold textR; rw [hs]
    rw [e]
    intro h'
    have hq : q < n := by
      have := (scan_app _ _ n [] q (s.size - p) (by omega) (by rw [List.append_nil]; omega) (by rw [List.append_nil]; omega) hs).2
      omega
    rw [none_ (fun q' hq' => by rw [hs] at hq'; simp only [Option.some.injEq] at hq'; omega)]
    unfold takeR
    rw [ex_size s hi, if_pos (by omega)]
  | none =>
    have e : textR s p n = takeR s p n := by unfold textR; rw [hs]
    rw [e, none_ (fun q' hq' => by rw [hs] at hq'; cases hq')]
    exact take_cl hi hp
theorem text_ge {s : ByteArray} {p n : Nat} : OkGe p (textR s p n) := by
  unfold textR
  split
  · trivial
  · exact take_ge.mono (by omega)

/-- goes on, if it goes -/
def Goes (it : Nat → R V) : Prop := ∀ p, OkGe (p + 1) (it p)
def Alike (i : Nat) (it' it : Nat → R V) : Prop := ∀ p, p ≤ i → Cl i (it' p) (it p)

theorem rounds_ge {it : Nat → R V} (hg : Goes it) : ∀ n p acc, OkGe p (roundsN it n p acc)
  | 0, _, _ => Nat.le_refl _
  | n + 1, p, _ => ((hg p).mono (by omega)).bind fun _ q _ => rounds_ge hg n q _
theorem rounds_cl {i : Nat} {it' it : Nat → R V} (hg : Goes it) (ha : Alike i it' it) : ∀ n p acc, p ≤ i → Cl i (roundsN it' n p acc) (roundsN it n p acc)
  | 0, _, _, hp => Cl.ok _ hp
  | n + 1, p, _, hp => (ha p hp).bind (fun _ q _ hq => rounds_cl hg ha n q _ hq) (fun _ q _ => rounds_ge hg n q _)
theorem pairs_ge {it : Nat → R V} (hg : Goes it) : ∀ n p acc, OkGe p (pairsN D it n p acc)
  | 0, _, _ => Nat.le_refl _
  | n + 1, p, _ => ((hg p).mono (by omega)).bind fun _ q _ => by
    split
    · trivial
    · exact ((hg q).mono (by omega)).bind fun _ z _ => pairs_ge hg n z _
theorem pairs_cl {i : Nat} {it' it : Nat → R V} (hg : Goes it) (ha : Alike i it' it) : ∀ n p acc, p ≤ i → Cl i (pairsN D it' n p acc) (pairsN D it n p acc)
  | 0, _, _, hp => Cl.ok _ hp
  | n + 1, p, _, hp => (ha p hp).bind
      (fun v q hv hq => by
        have hlt : p < q := by
          have := hg p
          rw [hv] at this
          exact this
        split
        · exact Cl.bad _ (by omega)
        · exact (ha q hq).bind (fun _ z _ hz => pairs_cl hg ha n z _ hz) (fun _ z _ => pairs_ge D hg n z _))
      (fun _ q _ => by
        split
        · trivial
        · exact ((hg q).mono (by omega)).bind fun _ z _ => pairs_ge D hg n z _)

/-- what may be read within -/
def InGoes : Option (Nat → R V) → Prop
  | none => True
  | some it => Goes it
def InAlike (i : Nat) : Option (Nat → R V) → Option (Nat → R V) → Prop
  | none, none => True
  | some it', some it => Alike i it' it
  | _, _ => False
theorem fam_ge (s : ByteArray) {inner : Option (Nat → R V)} (hg : InGoes inner) (from_ : Nat) (f : Fam) (n p : Nat) : OkGe p (famR D s inner from_ f n p) := by
  cases f
  case word => exact Nat.le_refl _
  case whole => exact Nat.le_refl _
  case below => exact Nat.le_refl _
  case single => exact Nat.le_refl _
  case double => exact Nat.le_refl _
  case signed => exact (take_ge.mono (by omega)).bind fun _ _ _ => Nat.le_refl _
  case bytes => exact (take_ge.mono (by omega)).bind fun _ _ _ => Nat.le_refl _
  case ext => exact (take_ge.mono (by omega)).bind fun _ q _ => (take_ge.mono (by omega)).bind fun _ _ _ => Nat.le_refl _
  case text => exact text_ge.bind fun _ _ _ => Nat.le_refl _
  case list =>
    cases inner with
    | none => trivial
    | some it => exact (rounds_ge hg n p []).bind fun _ _ _ => Nat.le_refl _
  case pairs =>
    cases inner with
    | none => trivial
    | some it => exact (pairs_ge D hg n p []).bind fun _ _ _ => Nat.le_refl _
theorem fam_cl {s : ByteArray} {i : Nat} (hi : i ≤ s.size) {inner' inner : Option (Nat → R V)} (hg : InGoes inner) (ha : InAlike i inner' inner) {from_ : Nat} (f : Fam) (n : Nat) {p : Nat} (hf : from_ < p) (hp : p ≤ i) :
    Cl i (famR D (s.extract 0 i) inner' from_ f n p) (famR D s inner from_ f n p) := by
  cases f
  case word => exact Cl.ok _ hp
  case whole => exact Cl.ok _ hp
  case below => exact Cl.ok _ hp
  case single => exact Cl.ok _ hp
  case double => exact Cl.ok _ hp
  case signed => exact (take_cl hi hp).bind (fun _ _ _ hq => Cl.ok _ hq) (fun _ _ _ => Nat.le_refl _)
  case bytes => exact (take_cl hi hp).bind (fun _ _ _ hq => Cl.ok _ hq) (fun _ _ _ => Nat.le_refl _)
  case ext =>
    exact (take_cl hi hp).bind (fun _ _ _ hq => (take_cl hi hq).bind (fun _ _ _ hz => Cl.ok _ hz) (fun _ _ _ => Nat.le_refl _))
      (fun _ _ _ => (take_ge.mono (by omega)).bind fun _ _ _ => Nat.le_refl _)
  case text => exact (text_cl hi hp).bind (fun _ _ _ hq => Cl.ok _ hq) (fun _ _ _ => Nat.le_refl _)
  case list =>
    match inner', inner, hg, ha with
    | none, none, _, _ => exact Cl.bad _ (by omega)
    | some it', some it, hg, ha => exact (rounds_cl hg ha n p [] hp).bind (fun _ _ _ hq => Cl.ok _ hq) (fun _ _ _ => Nat.le_refl _)
  case pairs =>
    match inner', inner, hg, ha with
    | none, none, _, _ => exact Cl.bad _ (by omega)
    | some it', some it, hg, ha => exact (pairs_cl D hg ha n p [] hp).bind (fun _ _ _ hq => Cl.ok _ hq) (fun _ _ _ => Nat.le_refl _)
theorem itemF_ge (s : ByteArray) {inner : Option (Nat → R V)} (hg : InGoes inner) (p : Nat) : OkGe (p + 1) (itemF D s inner p) := by
  refine take_ge.bind fun t q hq => ?_
  split
  · trivial
  · split
    · exact fam_ge D s hg _ _ _ _
    · exact (take_ge.mono (by omega)).bind fun _ _ _ => fam_ge D s hg _ _ _ _
theorem itemF_cl {s : ByteArray} {i : Nat} (hi : i ≤ s.size) {inner' inner : Option (Nat → R V)} (hg : InGoes inner) (ha : InAlike i inner' inner) {p : Nat} (hp : p ≤ i) : Cl i (itemF D (s.extract 0 i) inner' p) (itemF D s inner p) := by
  refine (take_cl hi hp).bind (fun t q ht hq => ?_) (fun t q _ => ?_)
  · have hlt : p < q := by
      have := take_ge (s := s) (p := p) (n := 1)
      rw [ht] at this
      exact this
    split
    · exact Cl.bad _ (by omega)
    · split
      · exact fam_cl D hi hg ha _ _ hlt hq
      · refine (take_cl hi hq).bind (fun t2 z ht2 hz => fam_cl D hi hg ha _ _ ?_ hz) (fun _ _ _ => fam_ge D s hg _ _ _ _)
        have := take_at ht2
        omega
  · split
    · trivial
    · split
      · exact fam_ge D s hg _ _ _ _
      · exact (take_ge.mono (by omega)).bind fun _ _ _ => fam_ge D s hg _ _ _ _
theorem itemN_ge (s : ByteArray) : ∀ d, Goes (itemN D s d)
  | 0 => fun p => itemF_ge D s (inner := none) trivial p
  | d + 1 => fun p => itemF_ge D s (inner := some (itemN D s d)) (itemN_ge s d) p
theorem itemN_cl {s : ByteArray} {i : Nat} (hi : i ≤ s.size) : ∀ d, Alike i (itemN D (s.extract 0 i) d) (itemN D s d)
  | 0 => fun _ hp => itemF_cl D hi (inner' := none) (inner := none) trivial trivial hp
  | d + 1 => fun _ hp => itemF_cl D hi (inner' := some _) (inner := some _) (itemN_ge D s d) (itemN_cl hi d) hp
/-- where a reading ended -/
theorem itemN_le (s : ByteArray) (d p : Nat) (hp : p ≤ s.size) : match itemN D s d p with | .ok _ q => q ≤ s.size | .bad _ q => q ≤ s.size := by
  have h := itemN_cl D (s := s) (i := s.size) (Nat.le_refl _) d p hp
  have e : s.extract 0 s.size = s := by simp
  rw [e] at h
  cases hr : itemN D s d p with
  | ok v q =>
    rw [hr] at h
    refine Decidable.byContradiction fun hc => ?_
    have hc' : s.size < q := Nat.lt_of_not_le hc
    have := h.2 hc'
    cases this
  | bad c q =>
    rw [hr] at h
    refine Decidable.byContradiction fun hc => ?_
    have hc' : s.size < q := Nat.lt_of_not_le hc
    have := h (by omega)
    simp only [R.bad.injEq] at this
    omega
/-- of what is read well no beginning is; of what is refused at a place each beginning ahead of it is refused at its end -/
theorem readN_cut {s : ByteArray} {i : Nat} (hi : i ≤ s.size) : match readN D s with
    | .ok _ _ => i < s.size → readN D (s.extract 0 i) = .bad 3 i
    | .bad _ q => q ≤ s.size ∧ (i < q → readN D (s.extract 0 i) = .bad 3 i) ∧ (i = q → readN D (s.extract 0 i) = .bad 3 i ∨ ∃ v p, readN D (s.extract 0 i) = .ok v p) := by
  have h := itemN_cl D hi 128 0 (Nat.zero_le _)
  have hle := itemN_le D s 128 0 (Nat.zero_le _)
  unfold readN
  cases hr : itemN D s 128 0 with
  | ok v q =>
    rw [hr] at h hle
    have hbad : i < q → (itemN D (s.extract 0 i) 128 0).bind (fun v p => if p < (s.extract 0 i).size then R.bad 3 p else R.ok v p) = .bad 3 i := fun hlt => by
      rw [h.2 hlt]; rfl
    by_cases hq : q < s.size
    · simp only [R.bind, if_pos hq] at hbad ⊢
      refine ⟨by omega, hbad, fun e => ?_⟩
      subst e
      rw [h.1 (Nat.le_refl _), ex_size s hi]
      simp
    · simp only [R.bind, if_neg hq] at hbad ⊢
      exact fun hlt => hbad (by omega)
  | bad c q =>
    rw [hr] at h hle
    simp only [R.bind]
    refine ⟨hle, fun hlt => ?_, fun e => .inl ?_⟩
    · rw [show itemN D (s.extract 0 i) 128 0 = .bad 3 i from h (by omega)]
    · rw [show itemN D (s.extract 0 i) 128 0 = .bad 3 i from h (by omega)]
end Go.Proofs.YticnefkdkkjgcaaGreatDoor

/- packread's family of texts: the walk. -/
namespace Go.Proofs.YticnefkdkkjgcaaGreatDoor
open Go.RowKit

theorem withinN_lt {l : List Nat} {k : Nat} : ∀ (n i : Nat) {q : Nat}, withinN l k n i = some q → q < l.length
  | 0, _, _, h => by simp [withinN] at h
  | n + 1, i, q, h => by
    simp only [withinN] at h
    split at h
    · rename_i h1
      split at h
      · exact withinN_lt n (i + 1) h
      · simp only [Option.some.injEq] at h; omega
    · cases h
theorem firstN_le {l : List Nat} {n q : Nat} (h : firstN l n = some q) : q ≤ l.length := by
  unfold firstN at h
  split at h
  · simp only [Option.some.injEq] at h; omega
  · split at h
    · simp only [Option.some.injEq] at h; omega
    · split at h
      · simp only [Option.some.injEq] at h; omega
      · exact Nat.le_of_lt (withinN_lt _ _ h)
/-- an error's end -/
theorem fam_bad {sa : Nat → Addr} {b b4 bb c q op : Nat} {s : ByteArray} {w w0 w8 w9 w10 : World} {X : R V} (hX : Hid (X = R.bad c q)) (HK0 : Hid (Keep nob w w0)) (HKW : Keep (· = b) w0 w8) (HK9 : Keep (· = b) w8 w9) (k : Keep (· = b4) w9 w10) (HL0 : Hid (w.heap.size ≤ b4 ∧ b4 < w0.heap.size))
    (he : FErr sa w9 (fun j => w8.heap.size ≤ j) (.iface 73 (.pointer (some ⟨bb, 0, none⟩))) c q) : FamPost sa b s op w X (.returned (.tuple #[ER.val Raw.zero, .iface 73 (.pointer (some ⟨bb, 0, none⟩))])) w10 := by
  rw [hX.out]
  have h1 := HL0.out
  have h2 := HKW.size
  exact ⟨_, rfl, (((HK0.out.mono (fun _ _ h => h.elim)).then_ HKW).then_ HK9).trans k (fun j h3 h4 => by omega), (he.keep k (fun j hj e => by omega)).mono (fun j _ hj => by have := HK0.out.size; omega)⟩
end Go.Proofs.YticnefkdkkjgcaaGreatDoor

/- packread.pick: the family of a first byte. -/
namespace Go.Proofs.YticnefkdkkjgcaaGreatDoor
open Go.RowKit

theorem then_exit {K : Act → World → Prop} {Q : Exit → Act → World → Prop} {l : Nat} {a : Act} {w : World} (h : Q (.exit l) a w) : Exit.then K Q (.exit l) a w := h
theorem in_eq {Q : Exit → Act → World → Prop} {l : Nat} {a : Act} {w : World} (h : Q .normal a w) : Exit.inBlock l Q (.exit l) a w := by
  simp only [Exit.inBlock, if_true]
  exact h
theorem in_ne {Q : Exit → Act → World → Prop} {l m : Nat} {a : Act} {w : World} (hn : l ≠ m) (h : Q (.exit m) a w) : Exit.inBlock l Q (.exit m) a w := by
  simp only [Exit.inBlock, if_neg hn.symm]
  exact h
theorem then_nl {K : Act → World → Prop} {Q : Exit → Act → World → Prop} {a : Act} {w : World} (h : K a w) : Exit.then K Q .normal a w := h
theorem in_nl {Q : Exit → Act → World → Prop} {l : Nat} {a : Act} {w : World} (h : Q .normal a w) : Exit.inBlock l Q .normal a w := h
theorem then_rt {K : Act → World → Prop} {Q : Exit → Act → World → Prop} {a : Act} {w : World} (h : Q .ret a w) : Exit.then K Q .ret a w := h
theorem in_rt {Q : Exit → Act → World → Prop} {l : Nat} {a : Act} {w : World} (h : Q .ret a w) : Exit.inBlock l Q .ret a w := h

theorem new1 (w : World) (v0 v1 v2 : Value) (T : TypeId) : (w.alloc (.cells #[v0, v1, v2] T)).cell? ⟨w.heap.size, 0, none⟩ = some v0 ∧ (w.alloc (.cells #[v0, v1, v2] T)).cell? ⟨w.heap.size, 1, none⟩ = some v1 ∧ (w.alloc (.cells #[v0, v1, v2] T)).cell? ⟨w.heap.size, 2, none⟩ = some v2 := by simp
theorem new2 (w : World) (v0 v1 v2 : Value) (T : TypeId) (o : Obj) : ((w.alloc (.cells #[v0, v1, v2] T)).alloc o).cell? ⟨w.heap.size, 0, none⟩ = some v0 ∧ ((w.alloc (.cells #[v0, v1, v2] T)).alloc o).cell? ⟨w.heap.size, 1, none⟩ = some v1 ∧ ((w.alloc (.cells #[v0, v1, v2] T)).alloc o).cell? ⟨w.heap.size, 2, none⟩ = some v2 := by simp
end Go.Proofs.YticnefkdkkjgcaaGreatDoor

/- packread.pick: the family of a first byte. -/
namespace Go.Proofs.YticnefkdkkjgcaaGreatDoor
open Go.RowKit
end Go.Proofs.YticnefkdkkjgcaaGreatDoor

/- packread.pick: the family of a first byte. -/
namespace Go.Proofs.YticnefkdkkjgcaaGreatDoor
open Go.RowKit
end Go.Proofs.YticnefkdkkjgcaaGreatDoor

/- packread.pick: the family of a first byte. -/
namespace Go.Proofs.YticnefkdkkjgcaaGreatDoor
open Go.RowKit
end Go.Proofs.YticnefkdkkjgcaaGreatDoor

/- packread.pick: the family of a first byte. -/
namespace Go.Proofs.YticnefkdkkjgcaaGreatDoor
open Go.RowKit

end Go.Proofs.YticnefkdkkjgcaaGreatDoor

/- What a store of an element leaves of a slice of one's own. -/
namespace Go.Proofs.YticnefkdkkjgcaaGreatDoor
open Go.RowKit
section
variable {α : Type} {E : El α} {w : World}
theorem range_put {b o i : Nat} {xs : List α} (hr : w.rangeAt b o (E.flat xs)) (hi : i < xs.length) (ht : w.there b (o + i * E.sz) E.sz) (y : α) :
    (w.setCells b (o + i * E.sz) (E.cells y)).rangeAt b o (E.flat (xs.set i y)) := by
  have hx : xs = xs.take i ++ (xs[i] :: xs.drop (i + 1)) := by simp
  have hs : xs.set i y = xs.take i ++ (y :: xs.drop (i + 1)) := by rw [List.set_eq_take_append_cons_drop, if_pos hi]
  have hl : (xs.take i).length = i := by simp; omega
  rw [hx, E.flat_app, E.flat_cons, range_app, range_app, E.flat_len, hl, E.len] at hr
  rw [hs, E.flat_app, E.flat_cons, range_app, range_app, E.flat_len, hl, E.len]
  refine ⟨World.rangeAt_setCells_apart hr.1 _ _ _ (.inr (.inl ?_)), World.rangeAt_setCells_same _ _ _ _ (by rw [E.len]; exact ht), World.rangeAt_setCells_apart hr.2.2 _ _ _ (.inr (.inr ?_))⟩
  · rw [E.flat_len, hl]; exact Nat.le_refl _
  · rw [E.len]; exact Nat.le_refl _
theorem Ow.put {b o c i : Nat} {xs : List α} (h : Ow E w (some ⟨b, o, none⟩) c xs) (hi : i < xs.length) (y : α) :
    Ow E (w.setCells b (o + i * E.sz) (E.cells y)) (some ⟨b, o, none⟩) c (xs.set i y) := by
  have hle := h.sl.le
  obtain ⟨b', o', e', ht⟩ := h.room (by omega)
  simp only [Option.some.injEq, Addr.mk.injEq, and_true] at e'
  obtain ⟨rfl, rfl⟩ := e'
  have h1 : i * E.sz + E.sz ≤ c * E.sz := by
    rw [← Nat.succ_mul]
    exact Nat.mul_le_mul_right _ (by omega)
  refine ⟨⟨by simpa using h.sl.le, h.sl.cap, fun _ => ⟨b, o, rfl, ?_⟩⟩, fun _ => ⟨b, o, rfl, World.there_setCells ht _ _ _⟩⟩
  obtain ⟨b', o', e', hr⟩ := h.sl.at_ (fun e => by subst e; simp at hi)
  simp only [Option.some.injEq, Addr.mk.injEq, and_true] at e'
  obtain ⟨rfl, rfl⟩ := e'
  exact range_put hr hi (there_sub ht (by omega) (by omega)) y
end
end Go.Proofs.YticnefkdkkjgcaaGreatDoor

/- whole.flip: bytes turned about. -/
namespace Go.Proofs.YticnefkdkkjgcaaGreatDoor
open Go.RowKit

/-- a byte -/
def EB : El Nat where
  sz := 1
  pos := by decide
  cells := fun x => [.int .u8 (x : Int)]
  len := fun _ => rfl
  one := fun x v h => by simp at h; subst h; rfl
  val := fun x => .int .u8 (x : Int)
/-- each byte turned about, from the end on, and what is carried added -/
def flipF (l : List Nat) (c : Nat) : Nat → List Nat
  | 0 => l
  | i + 1 => flipF (l.set i ((255 - l.getD i 0 + c) % 256)) (if (255 - l.getD i 0 + c) % 256 = 0 then c else 0) i
def B8 (l : List Nat) : Prop := ∀ x ∈ l, x < 256
theorem B8.set {l : List Nat} (h : B8 l) (i : Nat) {y : Nat} (hy : y < 256) : B8 (l.set i y) := fun x hx => by
  rcases List.mem_or_eq_of_mem_set hx with hx | rfl
  · exact h x hx
  · exact hy
theorem B8.bl (s : ByteArray) : B8 (bl s) := fun x hx => by
  simp only [Proofs.YticnefkdkkjgcaaGreatDoor.bl, List.mem_map] at hx
  obtain ⟨u, _, rfl⟩ := hx
  exact UInt8.toNat_lt u

theorem not8_all : ∀ x : Fin 256, bits .xor .u8 (if IntKind.u8.signed = true then -1 else IntKind.u8.max) ((x.val : Nat) : Int) = ((255 - x.val : Nat) : Int) := by decide +kernel
theorem not8 {x : Nat} (h : x < 256) : bits .xor .u8 (if IntKind.u8.signed = true then -1 else IntKind.u8.max) (x : Int) = ((255 - x : Nat) : Int) := not8_all ⟨x, h⟩
end Go.Proofs.YticnefkdkkjgcaaGreatDoor

/- Natural numbers as lists of limbs: what a list is worth, the list of a number. Plain Lean. -/
namespace Go.Proofs.YticnefkdkkjgcaaGreatDoor

def B32 : Nat := 4294967296
/-- what a list of limbs is worth -/
def valL : List Nat → Nat
  | [] => 0
  | x :: l => x + 4294967296 * valL l
/-- all limbs have 32 bits -/
def Bd (l : List Nat) : Prop := ∀ x ∈ l, x < 4294967296
/-- so many limbs of a number -/
def limbsF : Nat → Nat → List Nat
  | 0, _ => []
  | f + 1, x => x % 4294967296 :: limbsF f (x / 4294967296)
/-- the limbs of a number, no noughts at their end -/
def numL (x : Nat) : List Nat := if x = 0 then [] else limbsF (x.log2 / 32 + 1) x
/-- no noughts at its end -/
def Nrm : List Nat → Prop
  | [] => True
  | [x] => x ≠ 0
  | _ :: y :: l => Nrm (y :: l)

theorem Bd.nil : Bd [] := fun _ h => by simp at h
theorem Bd.cons {x : Nat} {l : List Nat} (hx : x < 4294967296) (h : Bd l) : Bd (x :: l) := fun y hy => by
  rcases List.mem_cons.1 hy with rfl | hy
  · exact hx
  · exact h y hy
theorem Bd.tail {x : Nat} {l : List Nat} (h : Bd (x :: l)) : Bd l := fun y hy => h y (List.mem_cons_of_mem _ hy)
theorem Bd.head {x : Nat} {l : List Nat} (h : Bd (x :: l)) : x < 4294967296 := h x List.mem_cons_self
theorem Bd.take {l : List Nat} (h : Bd l) (n : Nat) : Bd (l.take n) := fun y hy => h y (List.mem_of_mem_take hy)
theorem Bd.getD {l : List Nat} (h : Bd l) (i : Nat) : l.getD i 0 < 4294967296 := by
  rw [List.getD_eq_getElem?_getD]
  cases hx : l[i]? with
  | none => decide
  | some x => exact h x (List.mem_of_getElem? hx)
theorem limbsF_len : ∀ f x, (limbsF f x).length = f
  | 0, _ => rfl
  | f + 1, x => by simp [limbsF, limbsF_len f]
theorem limbsF_bd : ∀ f x, Bd (limbsF f x)
  | 0, _ => Bd.nil
  | f + 1, x => Bd.cons (by omega) (limbsF_bd f _)
theorem limbsF_val : ∀ f x, valL (limbsF f x) = x % 4294967296 ^ f
  | 0, x => by simp [limbsF, valL, Nat.mod_one]
  | f + 1, x => by
    rw [limbsF, valL, limbsF_val f, Nat.pow_succ, Nat.mul_comm (4294967296 ^ f), Nat.mod_mul]
theorem valL_lt : ∀ {l : List Nat}, Bd l → valL l < 4294967296 ^ l.length
  | [], _ => by simp [valL]
  | x :: l, h => by
    have h1 := valL_lt h.tail
    have h2 := h.head
    rw [valL, List.length_cons, Nat.pow_succ]
    omega
theorem valL_app : ∀ (l l' : List Nat), valL (l ++ l') = valL l + 4294967296 ^ l.length * valL l'
  | [], l' => by simp [valL]
  | x :: l, l' => by
    rw [List.cons_append, valL, valL, valL_app l l', List.length_cons, Nat.pow_succ, Nat.mul_add, Nat.mul_comm (4294967296 ^ l.length) 4294967296, Nat.mul_assoc]
    omega
theorem limbs_of_val : ∀ {l : List Nat}, Bd l → limbsF l.length (valL l) = l
  | [], _ => rfl
  | x :: l, h => by
    have h1 := h.head
    rw [List.length_cons, limbsF, valL, show (x + 4294967296 * valL l) % 4294967296 = x by omega, show (x + 4294967296 * valL l) / 4294967296 = valL l by omega, limbs_of_val h.tail]
theorem Nrm.pos : ∀ {l : List Nat}, Nrm l → l ≠ [] → 4294967296 ^ (l.length - 1) ≤ valL l
  | [], _, h => absurd rfl h
  | [x], h, _ => by simp only [Nrm] at h; simp [valL]; omega
  | x :: y :: l, h, _ => by
    have h1 := Nrm.pos (l := y :: l) h (by simp)
    rw [valL]
    simp only [List.length_cons, Nat.add_sub_cancel] at h1 ⊢
    rw [Nat.pow_succ]
    omega
theorem pow32 (n : Nat) : 4294967296 ^ n = 2 ^ (32 * n) := by rw [Nat.pow_mul]
/-- a list in normal form is the list of its number -/
theorem numL_val {l : List Nat} (hb : Bd l) (hn : Nrm l) : numL (valL l) = l := by
  unfold numL
  by_cases h0 : l = []
  · subst h0; rfl
  · have h1 := hn.pos h0
    have h2 := valL_lt hb
    have hp : 0 < l.length := List.length_pos_iff.2 h0
    have h3 : 0 < 4294967296 ^ (l.length - 1) := Nat.pow_pos (by decide)
    have hz : valL l ≠ 0 := by omega
    rw [if_neg hz]
    rw [pow32] at h1 h2
    have e1 : 32 * (l.length - 1) ≤ (valL l).log2 := (Nat.le_log2 hz).2 h1
    have e2 : (valL l).log2 < 32 * l.length := (Nat.log2_lt hz).2 h2
    rw [show (valL l).log2 / 32 + 1 = l.length by omega]
    exact limbs_of_val hb
theorem numL_bd (x : Nat) : Bd (numL x) := by
  unfold numL
  split
  · exact Bd.nil
  · exact limbsF_bd _ _
theorem valL_numL (x : Nat) : valL (numL x) = x := by
  unfold numL
  split
  · rename_i h; rw [h]; rfl
  · rename_i h
    rw [limbsF_val, pow32]
    have h1 : x < 2 ^ (x.log2 + 1) := Nat.lt_log2_self
    refine Nat.mod_eq_of_lt (Nat.lt_of_lt_of_le h1 (Nat.pow_le_pow_right (by decide) (by omega)))
theorem limbsF_nrm : ∀ (f x : Nat), 4294967296 ^ f ≤ x → x < 4294967296 ^ (f + 1) → Nrm (limbsF (f + 1) x)
  | 0, x, h, h' => by
    simp only [limbsF, Nrm]
    simp at h h'
    omega
  | f + 1, x, h, h' => by
    have := limbsF_nrm f (x / 4294967296) (by rw [Nat.le_div_iff_mul_le (by decide), ← Nat.pow_succ]; exact h) (by rw [Nat.div_lt_iff_lt_mul (by decide), ← Nat.pow_succ]; exact h')
    exact this
theorem numL_nrm (x : Nat) : Nrm (numL x) := by
  unfold numL
  split
  · trivial
  · rename_i h
    refine limbsF_nrm _ _ ?_ ?_
    · rw [pow32]
      exact Nat.le_trans (Nat.pow_le_pow_right (by decide) (by omega)) (Nat.log2_self_le h)
    · rw [pow32]
      exact Nat.lt_of_lt_of_le Nat.lt_log2_self (Nat.pow_le_pow_right (by decide) (by omega))

/-! ### noughts at the end -/
theorem nrm_last : ∀ {l : List Nat}, (∀ h : l ≠ [], l.getLast h ≠ 0) → Nrm l
  | [], _ => trivial
  | [x], h => h (by simp)
  | x :: y :: l, h => nrm_last (l := y :: l) (fun h' => by have := h (by simp); rwa [List.getLast_cons h'] at this)
theorem Nrm.last : ∀ {l : List Nat}, Nrm l → ∀ h : l ≠ [], l.getLast h ≠ 0
  | [], _, h => absurd rfl h
  | [x], h, _ => h
  | x :: y :: l, h, _ => by rw [List.getLast_cons (by simp)]; exact Nrm.last (l := y :: l) h _
theorem cutN_last (l : List Nat) : ∀ n, 0 < cutN l n → l.getD (cutN l n - 1) 0 ≠ 0
  | 0, h => by simp [cutN] at h
  | n + 1, h => by
    unfold cutN at h ⊢
    split
    · rename_i h0; rw [if_pos h0] at h; exact cutN_last l n h
    · rename_i h0; simpa using h0
theorem cutN_zero (l : List Nat) : ∀ n i, cutN l n ≤ i → i < n → l.getD i 0 = 0
  | 0, _, _, h => by omega
  | n + 1, i, h, h' => by
    unfold cutN at h
    split at h
    · rename_i h0
      rcases Nat.lt_or_ge i n with h1 | h1
      · exact cutN_zero l n i h h1
      · rw [show i = n by omega]; exact h0
    · omega
theorem cutL_nrm (l : List Nat) : Nrm (cutL l) := by
  refine nrm_last (fun h => ?_)
  have hl := cutL_len l
  have hp : 0 < (cutL l).length := List.length_pos_iff.2 h
  rw [List.getLast_eq_getElem]
  have h1 := cutN_last l l.length (by omega)
  have hle := cutN_le l l.length
  rw [List.getD_eq_getElem?_getD, List.getElem?_eq_getElem (by omega)] at h1
  simp only [cutL, List.getElem_take, List.length_take]
  simp only [Nat.min_eq_left hle]
  exact h1
theorem valL_zero : ∀ {l : List Nat}, (∀ x ∈ l, x = 0) → valL l = 0
  | [], _ => rfl
  | x :: l, h => by rw [valL, h x List.mem_cons_self, valL_zero (fun y hy => h y (List.mem_cons_of_mem _ hy))]
theorem cutL_val (l : List Nat) : valL (cutL l) = valL l := by
  have e : l = cutL l ++ l.drop (cutN l l.length) := (List.take_append_drop _ _).symm
  conv => rhs; rw [e]
  rw [valL_app, valL_zero (l := l.drop _) (fun x hx => ?_)]
  · omega
  · obtain ⟨i, hi, rfl⟩ := List.getElem_of_mem hx
    rw [List.length_drop] at hi
    have := cutN_zero l l.length (cutN l l.length + i) (by omega) (by omega)
    rw [List.getD_eq_getElem?_getD, List.getElem?_eq_getElem (by omega)] at this
    rw [List.getElem_drop]
    exact this
theorem cutL_num {l : List Nat} (h : Bd l) : cutL l = numL (valL l) := by
  rw [← cutL_val]; exact (numL_val (l := cutL l) (h.take _) (cutL_nrm l)).symm
theorem cutN_num {l : List Nat} (h : Bd l) : cutN l l.length = (numL (valL l)).length := by rw [← cutL_num h, cutL_len]
theorem numL_zero_iff (x : Nat) : numL x = [] ↔ x = 0 := by
  refine ⟨fun h => ?_, fun h => by subst h; rfl⟩
  have := valL_numL x
  rw [h] at this
  exact this.symm
theorem numL_pos_iff (x : Nat) : 0 < (numL x).length ↔ 0 < x := by
  rw [List.length_pos_iff, Ne, numL_zero_iff]
  omega
theorem numL_len_le {x f : Nat} (h : x < 4294967296 ^ f) : (numL x).length ≤ f := by
  by_cases h0 : x = 0
  · subst h0; exact Nat.zero_le _
  · have h1 := (numL_nrm x).pos (fun e => h0 ((numL_zero_iff x).1 e))
    rw [valL_numL] at h1
    refine Decidable.byContradiction fun hc => ?_
    have : 4294967296 ^ f ≤ 4294967296 ^ ((numL x).length - 1) := Nat.pow_le_pow_right (by decide) (by omega)
    omega
end Go.Proofs.YticnefkdkkjgcaaGreatDoor

/- whole.FromTwos. -/
namespace Go.Proofs.YticnefkdkkjgcaaGreatDoor
open Go.RowKit

/-- '[]byte(s)' -/
theorem bytes_conv (w : World) (s : ByteArray) (hs : s.size ≤ 1000000000) : ∃ w1 bb cap, (convert 9 114 (.string s)).run Tryz.prog w = .ok (.slice (some ⟨bb, 0, none⟩) s.size cap) w1 ∧ Hid (Ow EB w1 (some ⟨bb, 0, none⟩) cap (bl s)) ∧ Hid (Keep nob w w1) ∧ Hid (w.heap.size ≤ bb ∧ bb < w1.heap.size) := by
  have hr := run_bytes_of_string (P := Tryz.prog) w 9 114 5 s Tryz.underlying9 Tryz.underlying114 Tryz.underlying5
  refine ⟨_, _, _, hr, Lib.hid ?_, Lib.hid (((Keep.refl nob w).drew).alloc _), Lib.hid ⟨Nat.le_refl _, by show w.heap.size < (w.heap.push _).size; simp⟩⟩
  have hge : s.size ≤ grownCap w s.size 0 5 := grownCap_ge w s.size 0 _
  have hcm : grownCap w s.size 0 5 ≤ 9223372036854775807 := by
    have := grownCap_le_maxLen w s.size 0 5 (by unfold maxLen; omega)
    unfold maxLen at this; omega
  generalize hcap : grownCap w s.size 0 5 = cap at hge hcm
  have hsz : (bytesRow s cap).size = cap := by
    unfold bytesRow
    rw [Array.size_append, Array.size_map, Array.size_replicate]
    have : s.data.size = s.size := rfl
    omega
  generalize hC : bytesRow s cap = C at hsz
  have hh : (w.drew.alloc (.cells C 5 (C.size, C.size + 1))).heap[w.heap.size]? = some (.cells C 5 (C.size, C.size + 1)) := by
    show (w.heap.push _)[w.heap.size]? = _
    simp
  have hfl : EB.flat (bl s) = s.data.toList.map (fun b => Value.int .u8 (b.toNat : Int)) := by
    unfold bl El.flat
    rw [List.flatMap_map]
    simp only [EB]
    induction s.data.toList with
    | nil => rfl
    | cons a l ih => simp only [List.flatMap_cons, List.map_cons, ih, List.singleton_append]
  refine ⟨⟨by rw [bl_len]; exact hge, hcm, fun _ => ⟨_, _, rfl, ?_⟩⟩, fun _ => ⟨_, _, rfl, ?_⟩⟩
  · intro j v hv
    rw [hfl] at hv
    simp only [World.cell?, hh, Option.isSome_none, Bool.false_eq_true, if_false, Nat.zero_add]
    have hj := (List.getElem?_eq_some_iff.1 hv).1
    simp only [List.length_map] at hj
    rw [← hC, bytesRow, Array.getElem?_append_left (by simpa using hj)]
    simpa using hv
  · intro j hj
    have hj' : j < C.size := by rw [hsz]; simpa [EB] using hj
    constructor
    · simp only [World.cell?, hh, Option.isSome_none, Bool.false_eq_true, if_false, Nat.zero_add]
      rw [Array.getElem?_eq_getElem hj']; rfl
    · unfold World.frozen?
      rw [hh]
      simp; omega

/-- bytes, the highest first, as limbs: the places from k - 1 down -/
def limbG (b : List Nat) : Nat → List Nat → List Nat
  | 0, m => m
  | k + 1, m => limbG b k (m.set (k / 4) (m.getD (k / 4) 0 ||| b.getD (b.length - 1 - k) 0 * 2 ^ (k % 4 * 8)))
def twoL (s : ByteArray) : List Nat := limbG (if 128 ≤ (bl s).headD 0 then flipF (bl s) 1 s.size else bl s) s.size (List.replicate ((s.size + 3) / 4) 0)
theorem flipF_len : ∀ (n : Nat) (l : List Nat) (c : Nat), (flipF l c n).length = l.length
  | 0, _, _ => rfl
  | n + 1, l, c => by rw [flipF, flipF_len n, List.length_set]
theorem flipF_B8 : ∀ (n : Nat) (l : List Nat) (c : Nat), B8 l → B8 (flipF l c n)
  | 0, _, _, h => h
  | n + 1, l, c, h => by rw [flipF]; exact flipF_B8 n _ _ (h.set _ (by omega))
theorem limbG_len : ∀ (k : Nat) (b m : List Nat), (limbG b k m).length = m.length
  | 0, _, _ => rfl
  | k + 1, b, m => by rw [limbG, limbG_len k, List.length_set]

end Go.Proofs.YticnefkdkkjgcaaGreatDoor

/- packread's family of numbers with a sign. -/
namespace Go.Proofs.YticnefkdkkjgcaaGreatDoor
open Go.RowKit

def twosV (t : ByteArray) : V := V.int (negN (decide (128 ≤ (bl t).headD 0) && decide (0 < cutN (twoL t) (twoL t).length)) (cutN (cutL (twoL t)) (cutN (twoL t) (twoL t).length))) (cutL (cutL (twoL t)))
end Go.Proofs.YticnefkdkkjgcaaGreatDoor

/- math/bits: Len32, TrailingZeros64. -/
namespace Go.Proofs.YticnefkdkkjgcaaGreatDoor
open Go.RowKit

theorem len8_at (c : Nat) (h : c < 256) (w : World) : (Instr.index 9 (.string Lib.len8tab) (.int .u8 (c : Int))).run Tryz.prog w = .ok (.int .u8 ((Lib.bitLen c : Nat) : Int)) w := by
  have h1 := Lib.run_index_len8tab (P := Tryz.prog) w 9 .u8 (c : Int) Tryz.underlying9 (by omega) (by omega)
  rw [h1, Lib.len8_of (c : Int) (by omega) (by omega), Int.toNat_natCast]
set_option maxRecDepth 100000 in
theorem len32_a (x : Nat) (hlo : 0 ≤ x) (hhi : x < 256) (w : World) : Calls Tryz.prog 146 #[.int .u32 (x : Int)] w fun e w' => e = .returned (.int .i64 ((Lib.bitLen x : Nat) : Int)) ∧ w' = w := by
  obtain ⟨c, HC⟩ : ∃ c, Hid (x = c) := ⟨_, Lib.hid rfl⟩
  have hc : c < 256 := by rw [← HC.out]; omega
  have hb : Lib.bitLen x = 0 + Lib.bitLen c := by rw [← HC.out]; simp
  have hidx := fun wv : World => len8_at c hc wv
  obtain ⟨y, HY⟩ : ∃ y, Hid (Lib.bitLen c = y) := ⟨_, Lib.hid rfl⟩
  have hy : y ≤ 8 := by rw [← HY.out]; exact Lib.bitLen_le8 ⟨c, hc⟩
  rw [HY.out] at hidx hb
  rw [hb]
  have w8 : IntKind.u8.wrap (c : Int) = (c : Int) := by rw [IntKind.wrap_u8]; omega
  have w64 : IntKind.i64.wrap (y : Int) = (y : Int) := by rw [IntWalk.i64_left, IntWalk.wrap64_in _ ⟨by omega, by omega⟩]
  have a64 : IntKind.i64.wrap (0 + (y : Int)) = ((0 + y : Nat) : Int) := by rw [IntWalk.i64_left, IntWalk.wrap64_in _ ⟨by omega, by omega⟩]; omega
  have f1 : ¬ (x : Int) ≥ 65536 := by omega
  have f2 : ¬ (x : Int) ≥ 256 := by omega
  have f3 : IntKind.u8.wrap (x : Int) = (c : Int) := by rw [HC.out]; exact w8
  clear hb
  go_enter Tryz.func146, Tryz.ntmps146
  go_wp2
  go_ret
  refine ⟨?_, rfl⟩
  simp
set_option maxRecDepth 100000 in
theorem len32_b (x : Nat) (hlo : 256 ≤ x) (hhi : x < 65536) (w : World) : Calls Tryz.prog 146 #[.int .u32 (x : Int)] w fun e w' => e = .returned (.int .i64 ((Lib.bitLen x : Nat) : Int)) ∧ w' = w := by
  obtain ⟨c, HC⟩ : ∃ c, Hid (x / 256 = c) := ⟨_, Lib.hid rfl⟩
  have hc : c < 256 := by rw [← HC.out]; omega
  have hb : Lib.bitLen x = 8 + Lib.bitLen c := by rw [← HC.out]; exact Lib.bitLen_shift8 x hlo (by omega)
  have hidx := fun wv : World => len8_at c hc wv
  obtain ⟨y, HY⟩ : ∃ y, Hid (Lib.bitLen c = y) := ⟨_, Lib.hid rfl⟩
  have hy : y ≤ 8 := by rw [← HY.out]; exact Lib.bitLen_le8 ⟨c, hc⟩
  rw [HY.out] at hidx hb
  rw [hb]
  have w8 : IntKind.u8.wrap (c : Int) = (c : Int) := by rw [IntKind.wrap_u8]; omega
  have w64 : IntKind.i64.wrap (y : Int) = (y : Int) := by rw [IntWalk.i64_left, IntWalk.wrap64_in _ ⟨by omega, by omega⟩]
  have a64 : IntKind.i64.wrap (8 + (y : Int)) = ((8 + y : Nat) : Int) := by rw [IntWalk.i64_left, IntWalk.wrap64_in _ ⟨by omega, by omega⟩]; omega
  have f1 : ¬ (x : Int) ≥ 65536 := by omega
  have f2 : (x : Int) ≥ 256 := by omega
  have f3 : (x : Int) / 256 = (c : Int) := by rw [← HC.out]; omega
  have f4 : IntKind.u32.wrap (c : Int) = (c : Int) := by rw [IntKind.wrap_u32]; omega
  clear hb
  go_enter Tryz.func146, Tryz.ntmps146
  go_wp2
  go_ret
  refine ⟨?_, rfl⟩
  simp
set_option maxRecDepth 100000 in
theorem len32_c (x : Nat) (hlo : 65536 ≤ x) (hhi : x < 16777216) (w : World) : Calls Tryz.prog 146 #[.int .u32 (x : Int)] w fun e w' => e = .returned (.int .i64 ((Lib.bitLen x : Nat) : Int)) ∧ w' = w := by
  obtain ⟨c, HC⟩ : ∃ c, Hid (x / 65536 = c) := ⟨_, Lib.hid rfl⟩
  have hc : c < 256 := by rw [← HC.out]; omega
  have hb : Lib.bitLen x = 16 + Lib.bitLen c := by rw [← HC.out]; exact Lib.bitLen_shift16 x hlo (by omega)
  have hidx := fun wv : World => len8_at c hc wv
  obtain ⟨y, HY⟩ : ∃ y, Hid (Lib.bitLen c = y) := ⟨_, Lib.hid rfl⟩
  have hy : y ≤ 8 := by rw [← HY.out]; exact Lib.bitLen_le8 ⟨c, hc⟩
  rw [HY.out] at hidx hb
  rw [hb]
  have w8 : IntKind.u8.wrap (c : Int) = (c : Int) := by rw [IntKind.wrap_u8]; omega
  have w64 : IntKind.i64.wrap (y : Int) = (y : Int) := by rw [IntWalk.i64_left, IntWalk.wrap64_in _ ⟨by omega, by omega⟩]
  have a64 : IntKind.i64.wrap (16 + (y : Int)) = ((16 + y : Nat) : Int) := by rw [IntWalk.i64_left, IntWalk.wrap64_in _ ⟨by omega, by omega⟩]; omega
  have f1 : (x : Int) ≥ 65536 := by omega
  have f3 : (x : Int) / 65536 = (c : Int) := by rw [← HC.out]; omega
  have f2 : ¬ (c : Int) ≥ 256 := by omega
  have f4 : IntKind.u32.wrap (c : Int) = (c : Int) := by rw [IntKind.wrap_u32]; omega
  clear hb
  go_enter Tryz.func146, Tryz.ntmps146
  go_wp2
  go_ret
  refine ⟨?_, rfl⟩
  simp
set_option maxRecDepth 100000 in
theorem len32_d (x : Nat) (hlo : 16777216 ≤ x) (hhi : x < 4294967296) (w : World) : Calls Tryz.prog 146 #[.int .u32 (x : Int)] w fun e w' => e = .returned (.int .i64 ((Lib.bitLen x : Nat) : Int)) ∧ w' = w := by
  obtain ⟨c, HC⟩ : ∃ c, Hid (x / 16777216 = c) := ⟨_, Lib.hid rfl⟩
  have hc : c < 256 := by rw [← HC.out]; omega
  have hb : Lib.bitLen x = 24 + Lib.bitLen c := by rw [← HC.out]; exact Lib.bitLen_shift24 x hlo (by omega)
  have hidx := fun wv : World => len8_at c hc wv
  obtain ⟨y, HY⟩ : ∃ y, Hid (Lib.bitLen c = y) := ⟨_, Lib.hid rfl⟩
  have hy : y ≤ 8 := by rw [← HY.out]; exact Lib.bitLen_le8 ⟨c, hc⟩
  rw [HY.out] at hidx hb
  rw [hb]
  have w8 : IntKind.u8.wrap (c : Int) = (c : Int) := by rw [IntKind.wrap_u8]; omega
  have w64 : IntKind.i64.wrap (y : Int) = (y : Int) := by rw [IntWalk.i64_left, IntWalk.wrap64_in _ ⟨by omega, by omega⟩]
  have a64 : IntKind.i64.wrap (24 + (y : Int)) = ((24 + y : Nat) : Int) := by rw [IntWalk.i64_left, IntWalk.wrap64_in _ ⟨by omega, by omega⟩]; omega
  have f1 : (x : Int) ≥ 65536 := by omega
  obtain ⟨d, HD⟩ : ∃ d, Hid (x / 65536 = d) := ⟨_, Lib.hid rfl⟩
  have f3 : (x : Int) / 65536 = (d : Int) := by rw [← HD.out]; omega
  have f2 : (d : Int) ≥ 256 := by rw [← HD.out]; omega
  have f5 : (d : Int) / 256 = (c : Int) := by rw [← HC.out, ← HD.out]; omega
  have f4 : IntKind.u32.wrap (c : Int) = (c : Int) := by rw [IntKind.wrap_u32]; omega
  clear hb
  go_enter Tryz.func146, Tryz.ntmps146
  go_wp2
  go_ret
  refine ⟨?_, rfl⟩
  simp
theorem len32_ok (x : Nat) (h : x < 4294967296) (w : World) : Calls Tryz.prog 146 #[.int .u32 (x : Int)] w fun e w' => e = .returned (.int .i64 ((Lib.bitLen x : Nat) : Int)) ∧ w' = w := by
  rcases Nat.lt_or_ge x 256 with h1 | h1
  · exact len32_a x (Nat.zero_le _) h1 w
  · rcases Nat.lt_or_ge x 65536 with h2 | h2
    · exact len32_b x h1 h2 w
    · rcases Nat.lt_or_ge x 16777216 with h3 | h3
      · exact len32_c x h2 h3 w
      · exact len32_d x h3 h w
set_option maxRecDepth 100000 in
theorem tz64_core (x idx k : Nat) (hxi : ¬ (x : Int) = 0) (hi : idx < 64) (hk : k < 64) (w : World)
    (key : IntKind.u64.wrap (bits BinOp.and IntKind.u64 (x : Int) (IntKind.u64.wrap (-(x : Int))) * 285870213051353865) / 288230376151711744 = (idx : Int))
    (hcell : w.cell? ⟨16, idx, none⟩ = some (.int .u8 (k : Int))) : Calls Tryz.prog 127 #[.int .u64 (x : Int)] w fun e w' => e = .returned (.int .i64 (k : Int)) ∧ w' = w := by
  have i1 : IntKind.i64.wrap (k : Int) = (k : Int) := by rw [IntWalk.i64_left, IntWalk.wrap64_in _ ⟨by omega, by omega⟩]
  go_enter Tryz.func127, Tryz.ntmps127
  go_wp2_with (simp only [key])
  go_ret
  refine ⟨?_, rfl⟩
  simp
theorem tz64_ok (x B : Nat) (hx : x < 18446744073709551616) (sa : Nat → Addr) (w : World) (g : GL B sa w) :
    Calls Tryz.prog 127 #[.int .u64 (x : Int)] w fun e w' => e = .returned (.int .i64 ((Lib.ctz 64 x : Nat) : Int)) ∧ w' = w := by
  by_cases hx0 : x = 0
  · subst hx0
    go_enter Tryz.func127, Tryz.ntmps127
    go_wp2
    go_ret
    exact ⟨rfl, rfl⟩
  · obtain ⟨hlow, hk⟩ := Lib.lowest_bit 64 x hx0 hx
    obtain ⟨hi, htab⟩ := Lib.deBruijn64_at _ hk
    have hcell := g.tz _ hi
    rw [show tzL = Lib.deBruijn64tab from rfl, htab] at hcell
    exact tz64_core x _ _ (by omega) hi hk w (tz64_key x _ hx hx0 hlow) hcell
end Go.Proofs.YticnefkdkkjgcaaGreatDoor

/- Regions that draw their order and whose operations and calls keep all memory that there was: one walk in the order of the text. -/
namespace Go.Proofs.YticnefkdkkjgcaaGreatDoor
open Go.RowKit

/-- a walk behind a name: Lean's unifier else reckons on through operations that are not wanted -/
structure QV (p : Prop) : Prop where
  out : p
abbrev Kept (w w' : World) : Prop := Keep (fun _ => False) w w'
section
variable {P : Program} {Q : Exit → Act → World → Prop}
theorem wp_region_kept {id : Nat} {a : Act} {w : World} {l : List Oper} (hm : P.follows .mixedOrders = true) (hB : Region.lexB .any l.toArray = true)
    (h : wpQuiet P l.toArray (Kept w) (fun a' => ∀ w', Kept w w' → Q .normal a' w') l a) : (Code.region id l.toArray true).wp P Q a w :=
  wp_region_quiet (C := Kept w) hm hB ((Keep.refl _ w).drew) (by simpa using h)
theorem kq_skip {C : World → Prop} {ops : Array Oper} {Q : Act → Prop} {a : Act} {o : Oper} {rest : List Oper} (hw : Region.wanted o (yielded ops a.tmps) = false)
    (h : ∀ K : Act → Prop, (∀ a, QV (wpQuiet P ops C Q rest a) → K a) → K (a.put o.dst undef)) : QV (wpQuiet P ops C Q (o :: rest) a) :=
  ⟨BigFrame.wpQuiet_skip hw (h _ (fun _ h => h)).out⟩
theorem kq_want {C : World → Prop} {ops : Array Oper} {Q : Act → Prop} {a : Act} {o : Oper} {rest : List Oper} (hw : Region.wanted o (yielded ops a.tmps) = true)
    (h : ∀ K : Act → Prop, (∀ a, QV (wpQuiet P ops C Q rest a) → K a) → o.quiet P a C K) : QV (wpQuiet P ops C Q (o :: rest) a) :=
  ⟨BigFrame.wpQuiet_want hw fun K hK => h K fun a ha => hK a ha.out⟩
theorem kq_still {C : World → Prop} {o : Oper} {a : Act} {K : Act → Prop} (v : Value) (h : ∀ w', C w' → (execOp a.eval o).run P w' = .ok (.value v) w') (hk : K (a.put o.dst v)) : o.quiet P a C K :=
  ⟨v, fun w' hw' => by unfold Oper.quietAt; rw [h w' hw']; exact ⟨rfl, rfl⟩, hk⟩
theorem kq_call {w : World} {o : Oper} {a : Act} {K : Act → Prop} {f : FuncId} {args : Array Value} {v : Value} (hr : ∀ w', (execOp a.eval o).run P w' = .ok (.enter f args) w')
    (hc : ∀ w', Kept w w' → Calls P f args w' fun e w'' => e = .returned v ∧ Kept w' w'') (hk : K (a.put o.dst v)) : o.quiet P a (Kept w) K :=
  ⟨v, fun w' hw' => by unfold Oper.quietAt; rw [hr w']; exact ⟨rfl, (hc w' hw').mono fun e w'' ⟨h1, h2⟩ => ⟨h1, hw'.then_ h2⟩⟩, hk⟩
end
end Go.Proofs.YticnefkdkkjgcaaGreatDoor

/- ieee: shapes, signs, infinity. -/
namespace Go.Proofs.YticnefkdkkjgcaaGreatDoor
open Go.RowKit

/-- a shape's value -/
def shV (F : Nat) (L : Int) (X : Nat) : Value := .agg #[.int .i64 (F : Int), .int .i64 L, .int .i64 (X : Int)]
theorem load_sh {w : World} {b o : Nat} {v0 v1 v2 : Value} (h0 : w.cell? ⟨b, o, none⟩ = some v0) (h1 : w.cell? ⟨b, o + 1, none⟩ = some v1) (h2 : w.cell? ⟨b, o + 2, none⟩ = some v2) : (loadVar 179 ⟨b, o, none⟩).run Tryz.prog w = .ok (.agg #[v0, v1, v2]) w := by
  go_simp
theorem ret_sh {fn : Func} {p : Tmp} {R : Ending → World → Prop} {a : Act} {w : World} {b : Nat} {v0 v1 v2 : Value} (h : fn.results = #[.cell p 179]) (hp : a.tmps.getD p undef = .pointer (some ⟨b, 0, none⟩)) (hd : a.defers = [])
    (h0 : w.cell? ⟨b, 0, none⟩ = some v0) (h1 : w.cell? ⟨b, 1, none⟩ = some v1) (h2 : w.cell? ⟨b, 2, none⟩ = some v2) (hR : R (.returned (.agg #[v0, v1, v2])) w) : bodyPost Tryz.prog fn R .ret a w := by
  refine bodyPost_ret (v := .agg #[v0, v1, v2]) ?_ hd hR
  have hl := load_sh h0 h1 h2
  have hp' : a.tmps[p]?.getD undef = .pointer (some ⟨b, 0, none⟩) := by rw [← hp]; simp
  simp [results, h, hp', asAddr, hl]
theorem sh_new (w : World) (v0 v1 v2 : Value) (T : TypeId) : (w.alloc (.cells #[v0, v1, v2] T)).cell? ⟨w.heap.size, 0, none⟩ = some v0 ∧ (w.alloc (.cells #[v0, v1, v2] T)).cell? ⟨w.heap.size, 1, none⟩ = some v1 ∧ (w.alloc (.cells #[v0, v1, v2] T)).cell? ⟨w.heap.size, 2, none⟩ = some v2 := by simp
set_option maxRecDepth 100000 in
theorem of64_ok (B : Nat) (sa : Nat → Addr) (w : World) (g : GL B sa w) : Calls Tryz.prog 99 #[] w fun e w' => e = .returned (shV 52 (-1074) 11) ∧ Keep nob w w' := by
  have c0 : (w.alloc (.cells #[.int .i64 0, .int .i64 0, .int .i64 0] 179)).cell? ⟨15, 6, none⟩ = some (.int .i64 52) := by
    rw [World.cell?_alloc_lt _ _ _ (by have := g.le; have := g.lt; show 15 < _; omega)]
    exact g.sh 6 (by decide)
  have c1 : (w.alloc (.cells #[.int .i64 0, .int .i64 0, .int .i64 0] 179)).cell? ⟨15, 7, none⟩ = some (.int .i64 (-1074)) := by
    rw [World.cell?_alloc_lt _ _ _ (by have := g.le; have := g.lt; show 15 < _; omega)]
    exact g.sh 7 (by decide)
  have c2 : (w.alloc (.cells #[.int .i64 0, .int .i64 0, .int .i64 0] 179)).cell? ⟨15, 8, none⟩ = some (.int .i64 11) := by
    rw [World.cell?_alloc_lt _ _ _ (by have := g.le; have := g.lt; show 15 < _; omega)]
    exact g.sh 8 (by decide)
  clear g
  go_enter Tryz.func99, Tryz.ntmps99
  go_wp2
  exact ret_sh rfl rfl rfl (sh_new _ _ _ _ _).1 (sh_new _ _ _ _ _).2.1 (sh_new _ _ _ _ _).2.2 ⟨rfl, (Keep.refl _ _).alloc _⟩
set_option maxRecDepth 100000 in
theorem ssign64_ok (w : World) : Calls Tryz.prog 129 #[.agg #[.int .i64 52, .int .i64 (-1074), .int .i64 11]] w fun e w' => e = .returned (.int .u64 9223372036854775808) ∧ Keep nob w w' := by
  go_enter Tryz.func129, Tryz.ntmps129
  go_wp2
  go_ret
  exact ⟨rfl, (Keep.refl _ _).alloc _⟩
set_option maxRecDepth 100000 in
theorem sinf64_ok (w : World) : Calls Tryz.prog 103 #[.agg #[.int .i64 52, .int .i64 (-1074), .int .i64 11]] w fun e w' => e = .returned (.int .u64 9218868437227405312) ∧ Keep nob w w' := by
  obtain ⟨h0, h1, h2⟩ := sh_new w (.int .i64 52) (.int .i64 (-1074)) (.int .i64 11) 179
  obtain ⟨w0, HW0⟩ : ∃ w0, Hid (w.alloc (.cells #[.int .i64 52, .int .i64 (-1074), .int .i64 11] 179) = w0) := ⟨_, Lib.hid rfl⟩
  have HK0 : Hid (Keep nob w w0) := by unfold Hid; rw [← HW0.out]; exact (Keep.refl _ _).alloc _
  rw [HW0.out] at h0 h1 h2
  obtain ⟨b0, HB0⟩ : ∃ b0, Hid (w.heap.size = b0) := ⟨_, Lib.hid rfl⟩
  rw [HB0.out] at h0 h1 h2
  have HX : Hid (∀ w', Kept w0 w' → w'.cell? ⟨b0, 0, none⟩ = some (.int .i64 52) ∧ w'.cell? ⟨b0, 1, none⟩ = some (.int .i64 (-1074)) ∧ w'.cell? ⟨b0, 2, none⟩ = some (.int .i64 11)) := Lib.hid (fun w' hk => ⟨hk.cell h0 (fun h => h), hk.cell h1 (fun h => h), hk.cell h2 (fun h => h)⟩)
  have HSG := Lib.hid ssign64_ok
  clear h0 h1 h2
  go_enter Tryz.func103, Tryz.ntmps103
  go_upto_region 1 with (fail)
  rw [HW0.out, HB0.out]
  refine wp_region_kept (by kernel_rfl) (by kernel_rfl) (QV.out ?_)
  repeat (first
    | (refine kq_skip (by rfl) (fun K hK => ?_); go_simp; refine hK _ ?_; clear hK K)
    | (refine kq_want (by rfl) (fun K hK => ?_); first
        | (refine BigFrame.quiet_move _ rfl ?_; go_simp; refine hK _ ?_; clear hK K)
        | (refine kq_still ?_ (fun w' hw' => ?_) ?_; rotate_left; (obtain ⟨c0, c1, c2⟩ := HX.out w' hw'; go_simp; first | done | exact rfl); go_simp; refine hK _ ?_; clear hK K)
        | (go_simp; apply Exists.intro; refine ⟨fun w' hw' => ?_, hK _ ?_⟩; (first | (go_at_call 129; refine (HSG.out w').mono ?_)); rintro e w'' ⟨rfl, hk''⟩; exact ⟨rfl, hw'.then_ hk''⟩; clear hK K)))
  refine ⟨wpQuiet_nil ?_⟩
  intro w9 hk9
  go_wp2
  go_ret
  exact ⟨rfl, HK0.out.then_ hk9⟩
set_option maxRecDepth 100000 in
theorem ssign32_ok (w : World) : Calls Tryz.prog 129 #[.agg #[.int .i64 23, .int .i64 (-149), .int .i64 8]] w fun e w' => e = .returned (.int .u64 2147483648) ∧ Keep nob w w' := by
  go_enter Tryz.func129, Tryz.ntmps129
  go_wp2
  go_ret
  exact ⟨rfl, (Keep.refl _ _).alloc _⟩
set_option maxRecDepth 100000 in
theorem sinf32_ok (w : World) : Calls Tryz.prog 103 #[.agg #[.int .i64 23, .int .i64 (-149), .int .i64 8]] w fun e w' => e = .returned (.int .u64 2139095040) ∧ Keep nob w w' := by
  obtain ⟨h0, h1, h2⟩ := sh_new w (.int .i64 23) (.int .i64 (-149)) (.int .i64 8) 179
  obtain ⟨w0, HW0⟩ : ∃ w0, Hid (w.alloc (.cells #[.int .i64 23, .int .i64 (-149), .int .i64 8] 179) = w0) := ⟨_, Lib.hid rfl⟩
  have HK0 : Hid (Keep nob w w0) := by unfold Hid; rw [← HW0.out]; exact (Keep.refl _ _).alloc _
  rw [HW0.out] at h0 h1 h2
  obtain ⟨b0, HB0⟩ : ∃ b0, Hid (w.heap.size = b0) := ⟨_, Lib.hid rfl⟩
  rw [HB0.out] at h0 h1 h2
  have HX : Hid (∀ w', Kept w0 w' → w'.cell? ⟨b0, 0, none⟩ = some (.int .i64 23) ∧ w'.cell? ⟨b0, 1, none⟩ = some (.int .i64 (-149)) ∧ w'.cell? ⟨b0, 2, none⟩ = some (.int .i64 8)) := Lib.hid (fun w' hk => ⟨hk.cell h0 (fun h => h), hk.cell h1 (fun h => h), hk.cell h2 (fun h => h)⟩)
  have HSG := Lib.hid ssign32_ok
  clear h0 h1 h2
  go_enter Tryz.func103, Tryz.ntmps103
  go_upto_region 1 with (fail)
  rw [HW0.out, HB0.out]
  refine wp_region_kept (by kernel_rfl) (by kernel_rfl) (QV.out ?_)
  repeat (first
    | (refine kq_skip (by rfl) (fun K hK => ?_); go_simp; refine hK _ ?_; clear hK K)
    | (refine kq_want (by rfl) (fun K hK => ?_); first
        | (refine BigFrame.quiet_move _ rfl ?_; go_simp; refine hK _ ?_; clear hK K)
        | (refine kq_still ?_ (fun w' hw' => ?_) ?_; rotate_left; (obtain ⟨c0, c1, c2⟩ := HX.out w' hw'; go_simp; first | done | exact rfl); go_simp; refine hK _ ?_; clear hK K)
        | (go_simp; apply Exists.intro; refine ⟨fun w' hw' => ?_, hK _ ?_⟩; (first | (go_at_call 129; refine (HSG.out w').mono ?_)); rintro e w'' ⟨rfl, hk''⟩; exact ⟨rfl, hw'.then_ hk''⟩; clear hK K)))
  refine ⟨wpQuiet_nil ?_⟩
  intro w9 hk9
  go_wp2
  go_ret
  exact ⟨rfl, HK0.out.then_ hk9⟩
set_option maxRecDepth 100000 in
theorem snan64_ok (w : World) : Calls Tryz.prog 100 #[.agg #[.int .i64 52, .int .i64 (-1074), .int .i64 11]] w fun e w' => e = .returned (.int .u64 9221120237041090560) ∧ Keep nob w w' := by
  obtain ⟨h0, h1, h2⟩ := sh_new w (.int .i64 52) (.int .i64 (-1074)) (.int .i64 11) 179
  obtain ⟨w0, HW0⟩ : ∃ w0, Hid (w.alloc (.cells #[.int .i64 52, .int .i64 (-1074), .int .i64 11] 179) = w0) := ⟨_, Lib.hid rfl⟩
  have HK0 : Hid (Keep nob w w0) := by unfold Hid; rw [← HW0.out]; exact (Keep.refl _ _).alloc _
  rw [HW0.out] at h0 h1 h2
  obtain ⟨b0, HB0⟩ : ∃ b0, Hid (w.heap.size = b0) := ⟨_, Lib.hid rfl⟩
  rw [HB0.out] at h0 h1 h2
  have HX : Hid (∀ w', Kept w0 w' → w'.cell? ⟨b0, 0, none⟩ = some (.int .i64 52) ∧ w'.cell? ⟨b0, 1, none⟩ = some (.int .i64 (-1074)) ∧ w'.cell? ⟨b0, 2, none⟩ = some (.int .i64 11)) := Lib.hid (fun w' hk => ⟨hk.cell h0 (fun h => h), hk.cell h1 (fun h => h), hk.cell h2 (fun h => h)⟩)
  have HSG := Lib.hid sinf64_ok
  clear h0 h1 h2
  go_enter Tryz.func100, Tryz.ntmps100
  go_upto_region 1 with (fail)
  rw [HW0.out, HB0.out]
  refine wp_region_kept (by kernel_rfl) (by kernel_rfl) (QV.out ?_)
  repeat (first
    | (refine kq_skip (by rfl) (fun K hK => ?_); go_simp; refine hK _ ?_; clear hK K)
    | (refine kq_want (by rfl) (fun K hK => ?_); first
        | (refine BigFrame.quiet_move _ rfl ?_; go_simp; refine hK _ ?_; clear hK K)
        | (refine kq_still ?_ (fun w' hw' => ?_) ?_; rotate_left; (obtain ⟨c0, c1, c2⟩ := HX.out w' hw'; go_simp; first | done | exact rfl); go_simp; refine hK _ ?_; clear hK K)
        | (go_simp; apply Exists.intro; refine ⟨fun w' hw' => ?_, hK _ ?_⟩; (first | (go_at_call 103; refine (HSG.out w').mono ?_)); rintro e w'' ⟨rfl, hk''⟩; exact ⟨rfl, hw'.then_ hk''⟩; clear hK K)))
  refine ⟨wpQuiet_nil ?_⟩
  intro w9 hk9
  go_wp2
  go_ret
  exact ⟨rfl, HK0.out.then_ hk9⟩
end Go.Proofs.YticnefkdkkjgcaaGreatDoor

/- The order of values. Plain Lean. -/
namespace Go.Proofs.YticnefkdkkjgcaaGreatDoor

def cmpI (a b : Int) : Int := if a < b then -1 else if b < a then 1 else 0
/-- the first that is not 0 -/
def orI (a b : Int) : Int := if a = 0 then b else a
/-- lists of one length, the highest limb first -/
def cmpRev : List Nat → List Nat → Int
  | x :: l, y :: l' => if x = y then cmpRev l l' else cmpI x y
  | _, _ => 0
/-- numbers without noughts at their end -/
def cmpL (a b : List Nat) : Int := if a.length = b.length then cmpRev a.reverse b.reverse else cmpI a.length b.length
def cmpW (neg : Bool) (a : List Nat) (neg' : Bool) (b : List Nat) : Int :=
  if sgn neg (cutN a a.length) < sgn neg' (cutN b b.length) then -1 else if sgn neg' (cutN b b.length) < sgn neg (cutN a a.length) then 1 else sgn neg (cutN a a.length) * cmpL (cutL a) (cutL b)
/-- patterns of 64 bits -/
def total64 (x y : Nat) : Int :=
  if 9223372036854775808 ≤ x then (if 9223372036854775808 ≤ y then cmpI y x else -1) else if 9223372036854775808 ≤ y then 1 else cmpI x y
/-- texts, byte by byte -/
def lexN : List Nat → List Nat → Int
  | [], [] => 0
  | [], _ :: _ => -1
  | _ :: _, [] => 1
  | x :: l, y :: l' => if x = y then lexN l l' else cmpI x y
mutual
def cmpV : V → V → Int
  | .mk k n neg mag bits ext text kids, .mk k' n' neg' mag' bits' ext' text' kids' =>
    orI (orI (cmpI k k') (orI (cmpI n n') (orI (cmpI ext ext') (orI (cmpW neg mag neg' mag') (orI (total64 bits bits') (lexN (bl text) (bl text'))))))) (cmpVL kids kids')
def cmpVL : List V → List V → Int
  | [], [] => 0
  | [], _ :: _ => -1
  | _ :: _, [] => 1
  | a :: l, b :: l' => orI (cmpV a b) (cmpVL l l')
end
mutual
/-- lists of a size that memory has -/
def Sm : V → Prop
  | .mk _ _ _ mag bits _ _ kids => mag.length ≤ 1000000000 ∧ kids.length ≤ 1000000000 ∧ bits < 18446744073709551616 ∧ SmL kids
def SmL : List V → Prop
  | [] => True
  | v :: l => Sm v ∧ SmL l
end
theorem SmL.get : ∀ {l : List V} (_ : SmL l) (i : Nat) (h : i < l.length), Sm l[i]
  | _ :: _, h, 0, _ => h.1
  | _ :: _, h, i + 1, h1 => SmL.get h.2 i (by simpa using h1)
  | [], _, _, h1 => absurd h1 (by simp)
theorem orI_zero (b : Int) : orI 0 b = b := rfl
theorem orI_ne {a : Int} (b : Int) (h : a ≠ 0) : orI a b = a := if_neg h
/-- the lists from a place on -/
theorem cmpVL_step {l l' : List V} {i : Nat} (h : i < l.length) (h' : i < l'.length) : cmpVL (l.drop i) (l'.drop i) = orI (cmpV l[i] l'[i]) (cmpVL (l.drop (i + 1)) (l'.drop (i + 1))) := by
  rw [List.drop_eq_getElem_cons h, List.drop_eq_getElem_cons h', cmpVL]
theorem cmpVL_more {l l' : List V} {i : Nat} (h : i < l.length) (h' : l'.length ≤ i) : cmpVL (l.drop i) (l'.drop i) = 1 := by
  rw [List.drop_eq_getElem_cons h, List.drop_eq_nil_of_le h', cmpVL]
theorem cmpVL_less {l l' : List V} {i : Nat} (h : l.length ≤ i) (h' : i < l'.length) : cmpVL (l.drop i) (l'.drop i) = -1 := by
  rw [List.drop_eq_getElem_cons h', List.drop_eq_nil_of_le h, cmpVL]
theorem cmpVL_end {l l' : List V} {i : Nat} (h : l.length ≤ i) (h' : l'.length ≤ i) : cmpVL (l.drop i) (l'.drop i) = 0 := by
  rw [List.drop_eq_nil_of_le h, List.drop_eq_nil_of_le h', cmpVL]
theorem cmpI_cases (a b : Int) : cmpI a b = -1 ∨ cmpI a b = 0 ∨ cmpI a b = 1 := by
  unfold cmpI
  split
  · exact .inl rfl
  · split
    · exact .inr (.inr rfl)
    · exact .inr (.inl rfl)
theorem sgn_cases (g : Bool) (n : Nat) : sgn g n = -1 ∨ sgn g n = 0 ∨ sgn g n = 1 := by
  unfold sgn
  split
  · exact .inr (.inl rfl)
  · cases g
    · exact .inr (.inr rfl)
    · exact .inl rfl
theorem cmpRev_cases : ∀ (a b : List Nat), cmpRev a b = -1 ∨ cmpRev a b = 0 ∨ cmpRev a b = 1
  | x :: l, y :: l' => by
    unfold cmpRev
    split
    · exact cmpRev_cases l l'
    · exact cmpI_cases _ _
  | [], [] => .inr (.inl rfl)
  | [], _ :: _ => .inr (.inl rfl)
  | _ :: _, [] => .inr (.inl rfl)
theorem cmpL_cases (a b : List Nat) : cmpL a b = -1 ∨ cmpL a b = 0 ∨ cmpL a b = 1 := by
  unfold cmpL
  split
  · exact cmpRev_cases _ _
  · exact cmpI_cases _ _
theorem cmpW_cases (g : Bool) (a : List Nat) (g' : Bool) (b : List Nat) : cmpW g a g' b = -1 ∨ cmpW g a g' b = 0 ∨ cmpW g a g' b = 1 := by
  unfold cmpW
  split
  · exact .inl rfl
  · split
    · exact .inr (.inr rfl)
    · rcases sgn_cases g (cutN a a.length) with h | h | h <;> rcases cmpL_cases (cutL a) (cutL b) with h2 | h2 | h2 <;> rw [h, h2] <;> simp
end Go.Proofs.YticnefkdkkjgcaaGreatDoor

/- ieee: patterns of bits, in plain Lean. -/
namespace Go.Proofs.YticnefkdkkjgcaaGreatDoor

theorem and_top (k x : Nat) (h : x < 2 ^ (k + 1)) : x &&& 2 ^ k = if 2 ^ k ≤ x then 2 ^ k else 0 := by
  have hp : 0 < 2 ^ k := Nat.two_pow_pos k
  rw [Nat.pow_succ] at h
  have hb : x.testBit k = decide (2 ^ k ≤ x) := by
    rw [Nat.testBit_eq_decide_div_mod_eq]
    by_cases hx : 2 ^ k ≤ x
    · have h1 : x / 2 ^ k = 1 := by
        apply Nat.div_eq_of_lt_le
        · omega
        · omega
      rw [h1]
      simp [hx]
    · rw [Nat.div_eq_of_lt (by omega)]
      simp [hx]
  apply Nat.eq_of_testBit_eq
  intro i
  rw [Nat.testBit_and, Nat.testBit_two_pow]
  by_cases he : k = i
  · subst he
    rw [hb]
    by_cases hx : 2 ^ k ≤ x
    · simp [hx]
    · simp [hx]
  · by_cases hx : 2 ^ k ≤ x
    · simp [hx, he]
    · simp [hx, he]
theorem andNot_top (k x : Nat) (h : x < 2 ^ (k + 1)) (hk : k < 64) : x &&& (2 ^ 64 - (2 ^ k + 1)) = x % 2 ^ k := by
  apply Nat.eq_of_testBit_eq
  intro i
  rw [Nat.testBit_and, Nat.testBit_two_pow_sub_succ (Nat.pow_lt_pow_right (by decide) hk), Nat.testBit_mod_two_pow, Nat.testBit_two_pow]
  by_cases hi : i < k
  · have h1 : ¬ k = i := by omega
    have h2 : i < 64 := by omega
    simp [hi, h1, h2]
  · by_cases he : k = i
    · subst he; simp
    · have h3 : x.testBit i = false := Nat.testBit_lt_two_pow (Nat.lt_of_lt_of_le h (Nat.pow_le_pow_right (by decide) (by omega)))
      simp [h3]
theorem or_top (k x : Nat) (h : x < 2 ^ k) : x ||| 2 ^ k = x + 2 ^ k := by
  have := Nat.two_pow_add_eq_or_of_lt h 1
  rw [Nat.mul_one] at this
  rw [Nat.or_comm, ← this, Nat.add_comm]

/-- the parts of a finite pattern: is it below 0, the odd m and the e of m times 2 to the e -/
def partsN (F : Nat) (L : Int) (X : Nat) (x : Nat) : Option (Bool × Nat × Int) :=
  let size := x % 2 ^ (F + X)
  if 2 ^ (F + X) - 2 ^ F ≤ size then none
  else if size = 0 then some (decide (2 ^ (F + X) ≤ x), 0, 0)
  else
    let m := if 0 < size / 2 ^ F then size % 2 ^ F + 2 ^ F else size
    let e := if 0 < size / 2 ^ F then L + (((size / 2 ^ F : Nat) : Int) - 1) else L
    some (decide (2 ^ (F + X) ≤ x), m / 2 ^ Lib.ctz 64 m, e + (Lib.ctz 64 m : Nat))
/-- a size with a sign, 64 bits -/
def signed64N (neg : Bool) (size : Nat) : Nat := if neg then size + 9223372036854775808 else size
/-- the pattern of 64 bits of m times 2 to the e, m below 2 to the 53, e not below the least: exact -/
def exact64 (neg : Bool) (m : Nat) (e : Int) : Nat :=
  if m = 0 then signed64N neg 0
  else
    let last : Int := max ((Lib.bitLen m : Int) - 53 + e) (-1074)
    if 2046 ≤ last + 1074 then signed64N neg 9218868437227405312
    else
      let kept := m * 2 ^ (e - last).toNat
      if kept / 4503599627370496 = 0 then signed64N neg kept else signed64N neg ((last + 1074).toNat * 4503599627370496 + kept)
/-- the whole number that a pattern is -/
def intN (F : Nat) (L : Int) (X : Nat) (x : Nat) : Option (Bool × Nat) :=
  match partsN F L X x with
  | none => none
  | some (neg, m, e) => if e < 0 then none else some (neg && decide (0 < m), m * 2 ^ e.toNat)
/-- as a pattern of 64 bits -/
def to64N (F : Nat) (L : Int) (X : Nat) (x : Nat) : Nat :=
  match partsN F L X x with
  | none => if x % 2 ^ (F + X) = 2 ^ (F + X) - 2 ^ F then signed64N (decide (2 ^ (F + X) ≤ x)) 9218868437227405312 else 9221120237041090560
  | some (neg, m, e) => exact64 neg m e
/-- as a value -/
def ofV (F : Nat) (L : Int) (X : Nat) (x : Nat) : V :=
  match intN F L X x with
  | some (neg, n) => V.int neg (numL n)
  | none => V.flo (to64N F L X x)
end Go.Proofs.YticnefkdkkjgcaaGreatDoor

/- ieee: a pattern's sign and size. -/
namespace Go.Proofs.YticnefkdkkjgcaaGreatDoor
open Go.RowKit

theorem and_s64 (x : Nat) (h : x < 18446744073709551616) : bits .and .u64 (x : Int) 9223372036854775808 = if 9223372036854775808 ≤ x then 9223372036854775808 else 0 := by
  have h1 := u64_and_nat x 9223372036854775808 (by omega) (by decide)
  have h2 : x &&& 9223372036854775808 = if 9223372036854775808 ≤ x then 9223372036854775808 else 0 := and_top 63 x h
  rw [show ((9223372036854775808 : Nat) : Int) = 9223372036854775808 from rfl, h2] at h1
  rw [h1]
  split <;> rfl
theorem andNot_s64 (x : Nat) (h : x < 18446744073709551616) : bits .andNot .u64 (x : Int) 9223372036854775808 = ((x % 9223372036854775808 : Nat) : Int) := by
  have h1 := u64_andNot_nat x 9223372036854775808 (by omega) (by decide)
  have h2 : x &&& (18446744073709551615 - 9223372036854775808) = x % 9223372036854775808 := andNot_top 63 x h (by decide)
  rw [show ((9223372036854775808 : Nat) : Int) = 9223372036854775808 from rfl, h2] at h1
  exact h1
set_option maxRecDepth 100000 in
theorem split64_ok (x B : Nat) (hx : x < 18446744073709551616) (sa : Nat → Addr) (w : World) (g : GL B sa w) : Calls Tryz.prog 101 #[.int .u64 (x : Int)] w fun e w' => e = .returned (.tuple #[.bool (decide (9223372036854775808 ≤ x)), .int .u64 ((x % 9223372036854775808 : Nat) : Int)]) ∧ Keep nob w w' := by
  have hof := of64_ok B sa w g
  have HSG := Lib.hid ssign64_ok
  have ha := and_s64 x hx
  have hn := andNot_s64 x hx
  have i1 : IntKind.u64.wrap (x : Int) = (x : Int) := by rw [IntKind.wrap_u64]; omega
  unfold shV at hof
  clear g hx
  by_cases h : 9223372036854775808 ≤ x
  · rw [if_pos h] at ha
    go_enter Tryz.func101, Tryz.ntmps101
    go_wp2_with (first | (go_at_call 99; go_must (refine hof.mono ?_); rintro e w1 ⟨rfl, hk1⟩) | (go_at_call 129; go_must (refine (HSG.out _).mono ?_); rintro e w2 ⟨rfl, hk2⟩))
    go_ret2
    exact ⟨by simp [h], hk1.then_ hk2⟩
  · rw [if_neg h] at ha
    go_enter Tryz.func101, Tryz.ntmps101
    go_wp2_with (first | (go_at_call 99; go_must (refine hof.mono ?_); rintro e w1 ⟨rfl, hk1⟩) | (go_at_call 129; go_must (refine (HSG.out _).mono ?_); rintro e w2 ⟨rfl, hk2⟩))
    go_ret2
    exact ⟨by simp [h], hk1.then_ hk2⟩
theorem and_s32 (x : Nat) (h : x < 4294967296) : bits .and .u64 (x : Int) 2147483648 = if 2147483648 ≤ x then 2147483648 else 0 := by
  have h1 := u64_and_nat x 2147483648 (by omega) (by decide)
  have h2 : x &&& 2147483648 = if 2147483648 ≤ x then 2147483648 else 0 := and_top 31 x h
  rw [show ((2147483648 : Nat) : Int) = 2147483648 from rfl, h2] at h1
  rw [h1]
  split <;> rfl
theorem andNot_s32 (x : Nat) (h : x < 4294967296) : bits .andNot .u64 (x : Int) 2147483648 = ((x % 2147483648 : Nat) : Int) := by
  have h1 := u64_andNot_nat x 2147483648 (by omega) (by decide)
  have h2 : x &&& (18446744073709551615 - 2147483648) = x % 2147483648 := andNot_top 31 x h (by decide)
  rw [show ((2147483648 : Nat) : Int) = 2147483648 from rfl, h2] at h1
  exact h1
set_option maxRecDepth 100000 in
theorem isigned64_ok (neg : Bool) (x B : Nat) (hx : x < 9223372036854775808) (sa : Nat → Addr) (w : World) (g : GL B sa w) : Calls Tryz.prog 102 #[.bool neg, .int .u64 (x : Int)] w fun e w' => e = .returned (.int .u64 ((signed64N neg x : Nat) : Int)) ∧ Keep nob w w' := by
  cases neg
  · go_enter Tryz.func102, Tryz.ntmps102
    go_wp2
    go_ret
    exact ⟨rfl, Keep.refl _ _⟩
  · have hof := of64_ok B sa w g
    have HSG := Lib.hid ssign64_ok
    have ho : bits .or .u64 (x : Int) 9223372036854775808 = ((signed64N true x : Nat) : Int) := by
      have h1 := u64_or_nat x 9223372036854775808 (by omega) (by decide)
      have h2 : x ||| 9223372036854775808 = x + 9223372036854775808 := or_top 63 x hx
      rw [show ((9223372036854775808 : Nat) : Int) = 9223372036854775808 from rfl, h2] at h1
      exact h1
    unfold shV at hof
    clear g hx
    go_enter Tryz.func102, Tryz.ntmps102
    go_wp2_with (first | (go_at_call 99; go_must (refine hof.mono ?_); rintro e w1 ⟨rfl, hk1⟩) | (go_at_call 129; go_must (refine (HSG.out _).mono ?_); rintro e w2 ⟨rfl, hk2⟩))
    go_ret
    exact ⟨rfl, hk1.then_ hk2⟩
end Go.Proofs.YticnefkdkkjgcaaGreatDoor

/- ieee.Parts. -/
namespace Go.Proofs.YticnefkdkkjgcaaGreatDoor
open Go.RowKit

def PartsE (x : Option (Bool × Nat × Int)) : Ending := match x with
  | some (neg, m, e) => .returned (.tuple #[.bool neg, .int .u64 (m : Int), .int .i64 e, .bool true])
  | none => .returned (.tuple #[.bool false, .int .u64 0, .int .i64 0, .bool false])
theorem results_tmp4 {fn : Func} {t u v x : Tmp} (h : fn.results = #[.tmp t, .tmp u, .tmp v, .tmp x]) (tmps : Array Value) (P : Program) (w : World) :
    (results fn tmps).run P w = .ok (.tuple #[tmps.getD t undef, tmps.getD u undef, tmps.getD v undef, tmps.getD x undef]) w := by
  simp [results, h]
set_option maxRecDepth 100000 in
theorem parts64_ok (x B : Nat) (hx : x < 18446744073709551616) (sa : Nat → Addr) (w : World) (g : GL B sa w) : Calls Tryz.prog 96 #[.int .u64 (x : Int)] w fun e w' => e = PartsE (partsN 52 (-1074) 11 x) ∧ Keep nob w w' := by
  have hof := of64_ok B sa w g
  have HSPL := Lib.hid (fun (wv : World) (hk : Keep nob w wv) => split64_ok x B hx sa wv (g.keep hk (fun _ h => h.elim)))
  have HTZ := Lib.hid (fun (m : Nat) (hm : m < 18446744073709551616) (wv : World) (hk : Keep nob w wv) => tz64_ok m B hm sa wv (g.keep hk (fun _ h => h.elim)))
  have HINF := Lib.hid sinf64_ok
  unfold shV at hof
  obtain ⟨X, HX⟩ : ∃ X, Hid (partsN 52 (-1074) 11 x = X) := ⟨_, Lib.hid rfl⟩
  rw [HX.out]
  obtain ⟨size, HSZ⟩ : ∃ size, Hid (x % 9223372036854775808 = size) := ⟨_, Lib.hid rfl⟩
  obtain ⟨neg, HNG⟩ : ∃ neg, Hid (decide (9223372036854775808 ≤ x) = neg) := ⟨_, Lib.hid rfl⟩
  have hsz : size < 9223372036854775808 := by rw [← HSZ.out]; exact Nat.mod_lt _ (by decide)
  have HPN : Hid (partsN 52 (-1074) 11 x = if 9218868437227405312 ≤ size then none else if size = 0 then some (neg, 0, 0) else some (neg, (if 0 < size / 4503599627370496 then size % 4503599627370496 + 4503599627370496 else size) / 2 ^ Lib.ctz 64 (if 0 < size / 4503599627370496 then size % 4503599627370496 + 4503599627370496 else size), (if 0 < size / 4503599627370496 then (-1074) + (((size / 4503599627370496 : Nat) : Int) - 1) else (-1074)) + (Lib.ctz 64 (if 0 < size / 4503599627370496 then size % 4503599627370496 + 4503599627370496 else size) : Nat))) := by
    unfold Hid
    rw [← HNG.out, ← HSZ.out]
    rfl
  rw [HX.out] at HPN
  rw [HSZ.out, HNG.out] at HSPL
  clear g hx HX HSZ HNG
  by_cases hA : 9218868437227405312 ≤ size
  · rw [if_pos hA] at HPN
    have hAi : (size : Int) ≥ 9218868437227405312 := by omega
    go_enter Tryz.func96, Tryz.ntmps96
    go_wp2_with (first | (go_at_call 99; go_must (refine hof.mono ?_); rintro e w1 ⟨rfl, hk1⟩; have HK1 := Lib.hid (hk1.alloc (.cells #[.int .i64 52, .int .i64 (-1074), .int .i64 11] 179)); clear hk1) | (go_at_call 101; go_must (refine (HSPL.out _ HK1.out).mono ?_); rintro e w2 ⟨rfl, hk2⟩; have c0 := hk2.cell (sh_new w1 (.int .i64 52) (.int .i64 (-1074)) (.int .i64 11) 179).1 (fun h => h); have c1 := hk2.cell (sh_new w1 (.int .i64 52) (.int .i64 (-1074)) (.int .i64 11) 179).2.1 (fun h => h); have c2 := hk2.cell (sh_new w1 (.int .i64 52) (.int .i64 (-1074)) (.int .i64 11) 179).2.2 (fun h => h); have HK2 := Lib.hid (HK1.out.then_ hk2); clear hk2) | (go_at_call 103; go_must (refine (HINF.out _).mono ?_); rintro e w3 ⟨rfl, hk3⟩; have c0 := hk3.cell c0 (fun h => h); have c1 := hk3.cell c1 (fun h => h); have c2 := hk3.cell c2 (fun h => h); have HK3 := Lib.hid (HK2.out.then_ hk3); clear hk3) | (go_at_call 127; go_must (refine (HTZM.out _ DREW).mono ?_); rintro e w5 ⟨rfl, rfl⟩))
    refine bodyPost_ret (results_tmp4 rfl _ _ _) rfl ?_
    rw [HPN.out]
    exact ⟨rfl, HK3.out⟩
  rw [if_neg hA] at HPN
  have hAi : decide ((size : Int) ≥ 9218868437227405312) = false := by rw [decide_eq_false_iff_not]; omega
  by_cases hB : size = 0
  · subst hB
    rw [if_pos rfl] at HPN
    simp only [Int.natCast_zero] at hAi HSPL
    clear hAi
    go_enter Tryz.func96, Tryz.ntmps96
    go_wp2_with (first | (go_at_call 99; go_must (refine hof.mono ?_); rintro e w1 ⟨rfl, hk1⟩; have HK1 := Lib.hid (hk1.alloc (.cells #[.int .i64 52, .int .i64 (-1074), .int .i64 11] 179)); clear hk1) | (go_at_call 101; go_must (refine (HSPL.out _ HK1.out).mono ?_); rintro e w2 ⟨rfl, hk2⟩; have c0 := hk2.cell (sh_new w1 (.int .i64 52) (.int .i64 (-1074)) (.int .i64 11) 179).1 (fun h => h); have c1 := hk2.cell (sh_new w1 (.int .i64 52) (.int .i64 (-1074)) (.int .i64 11) 179).2.1 (fun h => h); have c2 := hk2.cell (sh_new w1 (.int .i64 52) (.int .i64 (-1074)) (.int .i64 11) 179).2.2 (fun h => h); have HK2 := Lib.hid (HK1.out.then_ hk2); clear hk2) | (go_at_call 103; go_must (refine (HINF.out _).mono ?_); rintro e w3 ⟨rfl, hk3⟩; have c0 := hk3.cell c0 (fun h => h); have c1 := hk3.cell c1 (fun h => h); have c2 := hk3.cell c2 (fun h => h); have HK3 := Lib.hid (HK2.out.then_ hk3); clear hk3) | (go_at_call 127; go_must (refine (HTZM.out _ DREW).mono ?_); rintro e w5 ⟨rfl, rfl⟩))
    refine bodyPost_ret (results_tmp4 rfl _ _ _) rfl ?_
    rw [HPN.out]
    exact ⟨rfl, HK3.out⟩
  rw [if_neg hB] at HPN
  have hBi : ((size : Int) == 0) = false := by rw [beq_eq_false_iff_ne]; omega
  obtain ⟨kk, HKK⟩ : ∃ kk, Hid (size / 4503599627370496 = kk) := ⟨_, Lib.hid rfl⟩
  have i1 : (size : Int) / 4503599627370496 = (kk : Int) := by rw [← HKK.out]; omega
  rw [HKK.out] at HPN
  obtain ⟨m, HM⟩ : ∃ m, Hid ((if 0 < kk then size % 4503599627370496 + 4503599627370496 else size) = m) := ⟨_, Lib.hid rfl⟩
  obtain ⟨e0, HE0⟩ : ∃ e0 : Int, Hid ((if 0 < kk then (-1074) + ((kk : Int) - 1) else (-1074)) = e0) := ⟨_, Lib.hid rfl⟩
  rw [HM.out, HE0.out] at HPN
  have hmlt : m < 9007199254740992 := by
    have := HKK.out
    rw [← HM.out]
    split <;> omega
  have hm0 : 0 < m := by
    rw [← HM.out]
    split <;> omega
  have he0 : -2000 ≤ e0 ∧ e0 ≤ 3000 := by
    have := HKK.out
    rw [← HE0.out]
    split <;> omega
  have HM64 : Hid (m < 18446744073709551616) := Lib.hid (by omega)
  obtain ⟨tz, HTT⟩ : ∃ tz, Hid (Lib.ctz 64 m = tz) := ⟨_, Lib.hid rfl⟩
  have htz : tz < 64 := by
    obtain ⟨_, hk⟩ := Lib.lowest_bit 64 m (by omega) (by omega)
    rw [← HTT.out]; exact hk
  rw [HTT.out] at HPN
  have HTZM := Lib.hid (HTZ.out m HM64.out)
  rw [HTT.out] at HTZM
  obtain ⟨mo, HMO⟩ : ∃ mo, Hid (m / 2 ^ tz = mo) := ⟨_, Lib.hid rfl⟩
  rw [HMO.out] at HPN
  have i10 : (m : Int) / 2 ^ tz = (mo : Int) := by rw [← HMO.out, Int.natCast_ediv, Int.natCast_pow]; rfl
  have i9 : IntKind.i64.wrap (e0 + (tz : Int)) = e0 + (tz : Int) := by rw [IntWalk.i64_left, IntWalk.wrap64_in _ ⟨by omega, by omega⟩]
  clear hm0 hB HTZ
  by_cases hC : 0 < kk
  · rw [if_pos hC] at HM HE0
    have hCi : decide ((kk : Int) > 0) = true := by rw [decide_eq_true_iff]; omega
    have hkk : kk < 4096 := by rw [← HKK.out]; omega
    obtain ⟨r, HR⟩ : ∃ r, Hid (size % 4503599627370496 = r) := ⟨_, Lib.hid rfl⟩
    have i2 : bits .and .u64 (size : Int) 4503599627370495 = (r : Int) := by
      have h1 := u64_and_nat size 4503599627370495 (by omega) (by decide)
      have h2 : size &&& 4503599627370495 = size % 4503599627370496 := Nat.and_two_pow_sub_one_eq_mod size 52
      rw [show ((4503599627370495 : Nat) : Int) = 4503599627370495 from rfl, h2, HR.out] at h1
      exact h1
    rw [HR.out] at HM
    have hr : r < 4503599627370496 := by rw [← HR.out]; exact Nat.mod_lt _ (by decide)
    have i3 : bits .or .u64 (r : Int) 4503599627370496 = (m : Int) := by
      have h1 := u64_or_nat r 4503599627370496 (by omega) (by decide)
      have h2 : r ||| 4503599627370496 = r + 4503599627370496 := or_top 52 r hr
      rw [show ((4503599627370496 : Nat) : Int) = 4503599627370496 from rfl, h2, HM.out] at h1
      exact h1
    have i4 : IntKind.i64.wrap (kk : Int) = (kk : Int) := by rw [IntWalk.i64_left, IntWalk.wrap64_in _ ⟨by omega, by omega⟩]
    have i5 : IntKind.i64.wrap ((kk : Int) - 1) = (kk : Int) - 1 := by rw [IntWalk.i64_left, IntWalk.wrap64_in _ ⟨by omega, by omega⟩]
    have i6 : IntKind.i64.wrap ((-1074) + ((kk : Int) - 1)) = e0 := by rw [HE0.out, IntWalk.i64_left, IntWalk.wrap64_in _ ⟨by omega, by omega⟩]
    go_enter Tryz.func96, Tryz.ntmps96
    go_upto_region 7 with (first | (go_at_call 99; go_must (refine hof.mono ?_); rintro e w1 ⟨rfl, hk1⟩; have HK1 := Lib.hid (hk1.alloc (.cells #[.int .i64 52, .int .i64 (-1074), .int .i64 11] 179)); clear hk1) | (go_at_call 101; go_must (refine (HSPL.out _ HK1.out).mono ?_); rintro e w2 ⟨rfl, hk2⟩; have c0 := hk2.cell (sh_new w1 (.int .i64 52) (.int .i64 (-1074)) (.int .i64 11) 179).1 (fun h => h); have c1 := hk2.cell (sh_new w1 (.int .i64 52) (.int .i64 (-1074)) (.int .i64 11) 179).2.1 (fun h => h); have c2 := hk2.cell (sh_new w1 (.int .i64 52) (.int .i64 (-1074)) (.int .i64 11) 179).2.2 (fun h => h); have HK2 := Lib.hid (HK1.out.then_ hk2); clear hk2) | (go_at_call 103; go_must (refine (HINF.out _).mono ?_); rintro e w3 ⟨rfl, hk3⟩; have c0 := hk3.cell c0 (fun h => h); have c1 := hk3.cell c1 (fun h => h); have c2 := hk3.cell c2 (fun h => h); have HK3 := Lib.hid (HK2.out.then_ hk3); clear hk3) | (go_at_call 127; go_must (refine (HTZM.out _ DREW).mono ?_); rintro e w5 ⟨rfl, rfl⟩))
    go_quiet (fail)
    go_upto_region 10 with (fail)
    go_quiet (fail)
    go_upto_region 13 with (first | (go_at_call 99; go_must (refine hof.mono ?_); rintro e w1 ⟨rfl, hk1⟩; have HK1 := Lib.hid (hk1.alloc (.cells #[.int .i64 52, .int .i64 (-1074), .int .i64 11] 179)); clear hk1) | (go_at_call 101; go_must (refine (HSPL.out _ HK1.out).mono ?_); rintro e w2 ⟨rfl, hk2⟩; have c0 := hk2.cell (sh_new w1 (.int .i64 52) (.int .i64 (-1074)) (.int .i64 11) 179).1 (fun h => h); have c1 := hk2.cell (sh_new w1 (.int .i64 52) (.int .i64 (-1074)) (.int .i64 11) 179).2.1 (fun h => h); have c2 := hk2.cell (sh_new w1 (.int .i64 52) (.int .i64 (-1074)) (.int .i64 11) 179).2.2 (fun h => h); have HK2 := Lib.hid (HK1.out.then_ hk2); clear hk2) | (go_at_call 103; go_must (refine (HINF.out _).mono ?_); rintro e w3 ⟨rfl, hk3⟩; have c0 := hk3.cell c0 (fun h => h); have c1 := hk3.cell c1 (fun h => h); have c2 := hk3.cell c2 (fun h => h); have HK3 := Lib.hid (HK2.out.then_ hk3); clear hk3) | (go_at_call 127; go_must (refine (HTZM.out _ (HK3.out.drewN _)).mono ?_); rintro e w5 ⟨rfl, rfl⟩))
    go_quiet (fail)
    go_wp2
    refine bodyPost_ret (results_tmp4 rfl _ _ _) rfl ?_
    rw [HPN.out]
    exact ⟨rfl, (HK3.out.drewN _).drewN _⟩
  · rw [if_neg hC] at HM HE0
    obtain rfl : kk = 0 := by omega
    have hCi : decide ((0 : Int) > 0) = false := by decide
    simp only [Int.natCast_zero] at i1
    have hsm : size = m := HM.out
    subst hsm
    have i6 : (-1074 : Int) = e0 := HE0.out
    subst i6
    go_enter Tryz.func96, Tryz.ntmps96
    go_upto_region 7 with (first | (go_at_call 99; go_must (refine hof.mono ?_); rintro e w1 ⟨rfl, hk1⟩; have HK1 := Lib.hid (hk1.alloc (.cells #[.int .i64 52, .int .i64 (-1074), .int .i64 11] 179)); clear hk1) | (go_at_call 101; go_must (refine (HSPL.out _ HK1.out).mono ?_); rintro e w2 ⟨rfl, hk2⟩; have c0 := hk2.cell (sh_new w1 (.int .i64 52) (.int .i64 (-1074)) (.int .i64 11) 179).1 (fun h => h); have c1 := hk2.cell (sh_new w1 (.int .i64 52) (.int .i64 (-1074)) (.int .i64 11) 179).2.1 (fun h => h); have c2 := hk2.cell (sh_new w1 (.int .i64 52) (.int .i64 (-1074)) (.int .i64 11) 179).2.2 (fun h => h); have HK2 := Lib.hid (HK1.out.then_ hk2); clear hk2) | (go_at_call 103; go_must (refine (HINF.out _).mono ?_); rintro e w3 ⟨rfl, hk3⟩; have c0 := hk3.cell c0 (fun h => h); have c1 := hk3.cell c1 (fun h => h); have c2 := hk3.cell c2 (fun h => h); have HK3 := Lib.hid (HK2.out.then_ hk3); clear hk3) | (go_at_call 127; go_must (refine (HTZM.out _ DREW).mono ?_); rintro e w5 ⟨rfl, rfl⟩))
    go_quiet (fail)
    go_upto_region 13 with (first | (go_at_call 99; go_must (refine hof.mono ?_); rintro e w1 ⟨rfl, hk1⟩; have HK1 := Lib.hid (hk1.alloc (.cells #[.int .i64 52, .int .i64 (-1074), .int .i64 11] 179)); clear hk1) | (go_at_call 101; go_must (refine (HSPL.out _ HK1.out).mono ?_); rintro e w2 ⟨rfl, hk2⟩; have c0 := hk2.cell (sh_new w1 (.int .i64 52) (.int .i64 (-1074)) (.int .i64 11) 179).1 (fun h => h); have c1 := hk2.cell (sh_new w1 (.int .i64 52) (.int .i64 (-1074)) (.int .i64 11) 179).2.1 (fun h => h); have c2 := hk2.cell (sh_new w1 (.int .i64 52) (.int .i64 (-1074)) (.int .i64 11) 179).2.2 (fun h => h); have HK2 := Lib.hid (HK1.out.then_ hk2); clear hk2) | (go_at_call 103; go_must (refine (HINF.out _).mono ?_); rintro e w3 ⟨rfl, hk3⟩; have c0 := hk3.cell c0 (fun h => h); have c1 := hk3.cell c1 (fun h => h); have c2 := hk3.cell c2 (fun h => h); have HK3 := Lib.hid (HK2.out.then_ hk3); clear hk3) | (go_at_call 127; go_must (refine (HTZM.out _ (HK3.out.drewN _)).mono ?_); rintro e w5 ⟨rfl, rfl⟩))
    go_quiet (fail)
    go_wp2
    refine bodyPost_ret (results_tmp4 rfl _ _ _) rfl ?_
    rw [HPN.out]
    exact ⟨rfl, (HK3.out.drewN _).drewN _⟩
end Go.Proofs.YticnefkdkkjgcaaGreatDoor

/- Natural numbers as lists of limbs: how many bits; shifted up. Plain Lean. -/
namespace Go.Proofs.YticnefkdkkjgcaaGreatDoor

/-- how many bits a number has -/
def bitsN (x : Nat) : Nat := if x = 0 then 0 else x.log2 + 1
theorem bitsN_lt (x : Nat) : x < 2 ^ bitsN x := by
  unfold bitsN
  split
  · omega
  · exact Nat.lt_log2_self
theorem bitsN_ge {x : Nat} (h : x ≠ 0) : 2 ^ (bitsN x - 1) ≤ x := by
  unfold bitsN
  rw [if_neg h, Nat.add_sub_cancel]
  exact Nat.log2_self_le h
theorem bitsN_eq {x k : Nat} (h1 : 2 ^ k ≤ x) (h2 : x < 2 ^ (k + 1)) : bitsN x = k + 1 := by
  have h0 : x ≠ 0 := by have := Nat.two_pow_pos k; omega
  unfold bitsN
  rw [if_neg h0]
  have e1 := (Nat.le_log2 h0).2 h1
  have e2 := (Nat.log2_lt h0).2 h2
  omega
theorem bitsN_le {x k : Nat} (h : x < 2 ^ k) : bitsN x ≤ k := by
  unfold bitsN
  split
  · exact Nat.zero_le _
  · rename_i h0
    have := (Nat.log2_lt h0).2 h
    omega
theorem bitLen_bits : ∀ (k x : Nat), x < 2 ^ k → x < 2 ^ 64 → Lib.bitLen x = bitsN x
  | 0, x, h, _ => by
    obtain rfl : x = 0 := by simpa using h
    rfl
  | k + 1, x, h, h64 => by
    by_cases h0 : x = 0
    · subst h0; rfl
    · rw [Lib.bitLen_half x h0 h64, bitLen_bits k (x / 2) (by rw [Nat.pow_succ] at h; omega) (by omega)]
      unfold bitsN
      rw [if_neg h0, Nat.log2_def x]
      by_cases h2 : 2 ≤ x
      · rw [if_neg (by omega), if_pos h2]; omega
      · rw [if_pos (by omega), if_neg h2]
/-- of a list: by its highest limb -/
theorem bitsN_val : ∀ {l : List Nat}, Bd l → Nrm l → ∀ h : l ≠ [], bitsN (valL l) = 32 * (l.length - 1) + bitsN (l.getLast h)
  | [], _, _, h => absurd rfl h
  | [x], _, _, _ => by simp [valL]
  | x :: y :: l, hb, hn, _ => by
    have ih := bitsN_val (l := y :: l) hb.tail hn (by simp)
    have hp := Nrm.pos (l := y :: l) hn (by simp)
    have hx := hb.head
    have hp0 : 0 < 4294967296 ^ ((y :: l).length - 1) := Nat.pow_pos (by decide)
    rw [List.getLast_cons (by simp), show valL (x :: y :: l) = x + 4294967296 * valL (y :: l) from rfl]
    obtain ⟨v, hv⟩ : ∃ v, valL (y :: l) = v := ⟨_, rfl⟩
    obtain ⟨z, hz⟩ : ∃ z, bitsN ((y :: l).getLast (by simp)) = z := ⟨_, rfl⟩
    rw [hv] at hp ih ⊢
    rw [hz] at ih ⊢
    have hv0 : v ≠ 0 := by omega
    have g1 := bitsN_lt v
    have g2 := bitsN_ge hv0
    have hpos : 1 ≤ bitsN v := by
      unfold bitsN
      rw [if_neg hv0]; omega
    have e4 : (2 : Nat) ^ 32 = 4294967296 := by decide
    have e : bitsN (x + 4294967296 * v) = (32 + (bitsN v - 1)) + 1 := by
      apply bitsN_eq
      · rw [Nat.pow_add, e4]
        have := Nat.mul_le_mul_left 4294967296 g2
        omega
      · rw [show 32 + (bitsN v - 1) + 1 = 32 + bitsN v by omega, Nat.pow_add, e4]
        have : 4294967296 * (v + 1) ≤ 4294967296 * 2 ^ bitsN v := Nat.mul_le_mul_left _ g1
        omega
    rw [e]
    simp only [List.length_cons, Nat.add_sub_cancel] at ih ⊢
    omega

/-! ### shifted up -/
/-- limbs shifted by r bits, c carried in -/
def shlC (r : Nat) : Nat → List Nat → List Nat
  | _, [] => []
  | c, x :: l => (x * 2 ^ r % 4294967296 + c) :: shlC r (x / 2 ^ (32 - r)) l
def shlOut (r : Nat) : Nat → List Nat → Nat
  | c, [] => c
  | _, x :: l => shlOut r (x / 2 ^ (32 - r)) l
/-- in place, from the limb j - 1 down -/
def shlG (r : Nat) : Nat → List Nat → List Nat
  | 0, o => o
  | j + 1, o => shlG r j (o.set j (o.getD j 0 * 2 ^ r % 4294967296 ||| (if 0 < j then o.getD (j - 1) 0 / 2 ^ (32 - r) else 0)))
theorem shlC_len (r : Nat) : ∀ (c : Nat) (l : List Nat), (shlC r c l).length = l.length
  | _, [] => rfl
  | _, x :: l => by rw [shlC, List.length_cons, List.length_cons, shlC_len]
theorem shlG_len (r : Nat) : ∀ (j : Nat) (o : List Nat), (shlG r j o).length = o.length
  | 0, _ => rfl
  | j + 1, o => by rw [shlG, shlG_len, List.length_set]
theorem shl_split {r x : Nat} (hr : r ≤ 32) : x * 2 ^ r = x * 2 ^ r % 4294967296 + 4294967296 * (x / 2 ^ (32 - r)) := by
  have e : (4294967296 : Nat) = 2 ^ (32 - r) * 2 ^ r := by rw [← Nat.pow_add, show 32 - r + r = 32 by omega]
  have h1 : x * 2 ^ r / 4294967296 = x / 2 ^ (32 - r) := by rw [e, Nat.mul_div_mul_right _ _ (Nat.two_pow_pos r)]
  rw [← h1]
  omega
theorem shlC_val {r : Nat} (hr : r ≤ 32) : ∀ (c : Nat) (l : List Nat), valL (shlC r c l) + 4294967296 ^ l.length * shlOut r c l = valL l * 2 ^ r + c
  | c, [] => by simp [shlC, shlOut, valL]
  | c, x :: l => by
    have ih := shlC_val hr (x / 2 ^ (32 - r)) l
    have hs := shl_split (x := x) hr
    rw [shlC, shlOut, valL, valL, List.length_cons, Nat.pow_succ, Nat.add_mul, Nat.mul_assoc 4294967296 (valL l), Nat.mul_comm (4294967296 ^ l.length), Nat.mul_assoc 4294967296]
    have : 4294967296 * (valL (shlC r (x / 2 ^ (32 - r)) l) + 4294967296 ^ l.length * shlOut r (x / 2 ^ (32 - r)) l) = 4294967296 * (valL l * 2 ^ r + x / 2 ^ (32 - r)) := by rw [ih]
    rw [Nat.mul_add, Nat.mul_add] at this
    omega
theorem shlC_bd {r : Nat} (hr : r ≤ 32) : ∀ (c : Nat) (l : List Nat), c < 2 ^ r → Bd l → Bd (shlC r c l)
  | _, [], _, _ => Bd.nil
  | c, x :: l, hc, hb => by
    have hx := hb.head
    refine Bd.cons ?_ (shlC_bd hr _ l ?_ hb.tail)
    · have e : (4294967296 : Nat) = 2 ^ r * 2 ^ (32 - r) := by rw [← Nat.pow_add, show r + (32 - r) = 32 by omega]
      rw [show x * 2 ^ r % 4294967296 = 2 ^ r * (x % 2 ^ (32 - r)) by rw [Nat.mul_comm x, e, Nat.mul_mod_mul_left]]
      have h1 : x % 2 ^ (32 - r) < 2 ^ (32 - r) := Nat.mod_lt _ (Nat.two_pow_pos _)
      have h2 : 2 ^ r * (x % 2 ^ (32 - r) + 1) ≤ 2 ^ r * 2 ^ (32 - r) := Nat.mul_le_mul_left _ h1
      rw [← e, Nat.mul_add] at h2
      omega
    · rw [Nat.div_lt_iff_lt_mul (Nat.two_pow_pos _), ← Nat.pow_add, show r + (32 - r) = 32 by omega]
      exact hx
theorem or_shl {r x c : Nat} (hr : r ≤ 32) (hc : c < 2 ^ r) : x * 2 ^ r % 4294967296 ||| c = x * 2 ^ r % 4294967296 + c := by
  have e : (4294967296 : Nat) = 2 ^ r * 2 ^ (32 - r) := by rw [← Nat.pow_add, show r + (32 - r) = 32 by omega]
  rw [show x * 2 ^ r % 4294967296 = 2 ^ r * (x % 2 ^ (32 - r)) by rw [Nat.mul_comm x, e, Nat.mul_mod_mul_left]]
  exact (Nat.two_pow_add_eq_or_of_lt hc _).symm
theorem getD_set (l : List Nat) (i j v : Nat) : (l.set i v).getD j 0 = if i = j ∧ i < l.length then v else l.getD j 0 := by
  rw [List.getD_eq_getElem?_getD, List.getD_eq_getElem?_getD, List.getElem?_set]
  by_cases h : i = j
  · subst h
    by_cases h2 : i < l.length
    · simp [h2]
    · simp [h2]
  · simp [h]
theorem shlG_get (r : Nat) : ∀ (j : Nat) (o : List Nat) (i : Nat), j ≤ o.length → (shlG r j o).getD i 0 = if i < j then (o.getD i 0 * 2 ^ r % 4294967296 ||| (if 0 < i then o.getD (i - 1) 0 / 2 ^ (32 - r) else 0)) else o.getD i 0
  | 0, o, i, _ => by simp [shlG]
  | j + 1, o, i, h => by
    rw [shlG, shlG_get r j _ i (by rw [List.length_set]; omega)]
    by_cases h1 : i < j
    · have n1 : ¬ (j = i ∧ j < o.length) := by omega
      have n2 : ¬ (j = i - 1 ∧ j < o.length) := by omega
      have n3 : i < j + 1 := by omega
      simp only [getD_set, if_pos h1, if_neg n1, if_neg n2, if_pos n3]
    · by_cases h2 : j = i
      · subst h2
        have n1 : j < o.length := by omega
        have n3 : j < j + 1 := by omega
        simp only [getD_set, if_neg h1, n1, and_self, if_true, if_pos n3]
      · have n1 : ¬ (j = i ∧ j < o.length) := by omega
        have n3 : ¬ i < j + 1 := by omega
        simp only [getD_set, if_neg h1, if_neg n1, if_neg n3]
theorem shlC_get {r : Nat} : ∀ (c : Nat) (l : List Nat) (i : Nat), i < l.length → (shlC r c l).getD i 0 = l.getD i 0 * 2 ^ r % 4294967296 + (if 0 < i then l.getD (i - 1) 0 / 2 ^ (32 - r) else c)
  | _, [], _, h => by simp at h
  | c, x :: l, 0, _ => by simp [shlC]
  | c, x :: l, i + 1, h => by
    have := shlC_get (r := r) (x / 2 ^ (32 - r)) l i (by simpa using h)
    rw [shlC, List.getD_cons_succ, this, List.getD_cons_succ, if_pos (Nat.succ_pos i), Nat.add_sub_cancel]
    cases i with
    | zero => simp
    | succ i => rw [if_pos (Nat.succ_pos i), List.getD_cons_succ, Nat.add_sub_cancel]
theorem shlG_eq {r : Nat} (hr : r ≤ 32) {o : List Nat} (hb : Bd o) : shlG r o.length o = shlC r 0 o := by
  apply List.ext_getElem
  · rw [shlG_len, shlC_len]
  · intro i h1 h2
    rw [shlG_len] at h1
    have g := shlG_get r o.length o i (Nat.le_refl _)
    have c := shlC_get (r := r) 0 o i h1
    rw [if_pos h1] at g
    have hc : (if 0 < i then o.getD (i - 1) 0 / 2 ^ (32 - r) else 0) < 2 ^ r := by
      split
      · rw [Nat.div_lt_iff_lt_mul (Nat.two_pow_pos _), ← Nat.pow_add, show r + (32 - r) = 32 by omega]
        exact hb.getD _
      · exact Nat.two_pow_pos r
    rw [or_shl hr hc] at g
    have e : (shlG r o.length o).getD i 0 = (shlC r 0 o).getD i 0 := by rw [g, c]
    rw [List.getD_eq_getElem?_getD, List.getD_eq_getElem?_getD, List.getElem?_eq_getElem (by rw [shlG_len]; exact h1), List.getElem?_eq_getElem (by rw [shlC_len]; exact h1)] at e
    exact e
theorem valL_rep (n : Nat) : valL (List.replicate n 0) = 0 := valL_zero (fun _ hx => (List.mem_replicate.1 hx).2)
/-- limbs moved up by q places, one limb more, and shifted by r bits -/
theorem shl_num {q r : Nat} {l : List Nat} (hr : r < 32) (hb : Bd l) :
    cutL (shlC r 0 (List.replicate q 0 ++ l ++ [0])) = numL (valL l * 2 ^ (32 * q + r)) := by
  have hbo : Bd (List.replicate q 0 ++ l ++ [0]) := fun x hx => by
    simp only [List.mem_append, List.mem_replicate, List.mem_singleton] at hx
    rcases hx with (⟨_, rfl⟩ | h) | rfl
    · decide
    · exact hb x h
    · decide
  have hv : valL (List.replicate q 0 ++ l ++ [0]) = valL l * 2 ^ (32 * q) := by
    rw [valL_app, valL_app, valL_rep, List.length_replicate, pow32 q]
    simp [valL, Nat.mul_comm]
  have h1 := shlC_val (Nat.le_of_lt hr) 0 (List.replicate q 0 ++ l ++ [0])
  have h2 := valL_lt hb
  have h3 := valL_lt (shlC_bd (Nat.le_of_lt hr) 0 (List.replicate q 0 ++ l ++ [0]) (Nat.two_pow_pos r) hbo)
  rw [shlC_len] at h3
  rw [hv, Nat.add_zero, Nat.mul_assoc, ← Nat.pow_add] at h1
  have hlen : (List.replicate q 0 ++ l ++ [0]).length = q + l.length + 1 := by simp; omega
  rw [hlen] at h1 h3
  have hlt : valL l * 2 ^ (32 * q + r) < 4294967296 ^ (q + l.length + 1) := by
    rw [pow32, show 32 * (q + l.length + 1) = 32 * l.length + (32 * q + 32) by omega, Nat.pow_add 2 (32 * l.length)]
    rw [pow32] at h2
    have h4 : 2 ^ (32 * q + r) ≤ 2 ^ (32 * q + 32) := Nat.pow_le_pow_right (by decide) (by omega)
    calc valL l * 2 ^ (32 * q + r) ≤ valL l * 2 ^ (32 * q + 32) := Nat.mul_le_mul_left _ h4
      _ < 2 ^ (32 * l.length) * 2 ^ (32 * q + 32) := Nat.mul_lt_mul_of_pos_right h2 (Nat.two_pow_pos _)
  have ho : shlOut r 0 (List.replicate q 0 ++ l ++ [0]) = 0 := by
    rcases Nat.eq_zero_or_pos (shlOut r 0 (List.replicate q 0 ++ l ++ [0])) with h | h
    · exact h
    · have := Nat.mul_le_mul_left (4294967296 ^ (q + l.length + 1)) h
      omega
  rw [ho, Nat.mul_zero, Nat.add_zero] at h1
  rw [← h1, cutL_num (shlC_bd (Nat.le_of_lt hr) 0 _ (Nat.two_pow_pos r) hbo)]
theorem shlC_zero : ∀ {l : List Nat}, Bd l → shlC 0 0 l = l
  | [], _ => rfl
  | x :: l, h => by
    have hx := h.head
    rw [shlC, Nat.pow_zero, Nat.mul_one, Nat.mod_eq_of_lt hx, Nat.add_zero, show x / 2 ^ (32 - 0) = 0 from Nat.div_eq_of_lt hx, shlC_zero h.tail]
end Go.Proofs.YticnefkdkkjgcaaGreatDoor

/- nat.Len, nat.Uint. -/
namespace Go.Proofs.YticnefkdkkjgcaaGreatDoor
open Go.RowKit

theorem cut_top {l : List Nat} (hb : Bd l) (h : 0 < cutN l l.length) : bitsN (valL l) = 32 * (cutN l l.length - 1) + Lib.bitLen (l.getD (cutN l l.length - 1) 0) := by
  have hn : cutL l ≠ [] := fun e => by have := cutL_len l; rw [e] at this; simp at this; omega
  have h1 : bitsN (valL (cutL l)) = 32 * ((cutL l).length - 1) + bitsN ((cutL l).getLast hn) := bitsN_val (hb.take (cutN l l.length)) (cutL_nrm l) hn
  have e : (cutL l).getLast hn = l.getD (cutN l l.length - 1) 0 := by
    have hle := cutN_le l l.length
    rw [List.getLast_eq_getElem, List.getD_eq_getElem?_getD, List.getElem?_eq_getElem (by omega)]
    simp only [cutL, List.getElem_take, List.length_take, Nat.min_eq_left hle]
    rfl
  rw [e, cutL_len, cutL_val] at h1
  rw [h1, bitLen_bits 32 _ (hb.getD _) (Nat.lt_of_lt_of_le (hb.getD _) (by decide))]
set_option maxRecDepth 100000 in
theorem nLen_ok (A : Option Addr) (c L : Nat) (l : List Nat) (w : World) (hL : l.length = L) (h : Sl EU w A c l) (hb : Bd l) (hl : L ≤ 1000000000) :
    Calls Tryz.prog 128 #[.slice A L c] w fun e w' => e = .returned (.int .i64 ((bitsN (valL l) : Nat) : Int)) ∧ w' = w := by
  have hC := cut_ok A c L l w hL h
  have hle := cutN_le l L
  obtain ⟨k, HK⟩ : ∃ k, Hid (cutN l L = k) := ⟨_, Lib.hid rfl⟩
  have HB := cut_top hb
  rw [hL, HK.out] at HB
  rw [HK.out] at hC hle
  rcases Nat.eq_zero_or_pos k with h0 | h0
  · subst h0
    have hv : bitsN (valL l) = 0 := by
      have h1 := cutL_num hb
      have h2 : cutL l = [] := List.eq_nil_of_length_eq_zero (by rw [cutL_len, hL, HK.out])
      rw [h2] at h1
      rw [(numL_zero_iff _).1 h1.symm]
      rfl
    rw [hv]
    clear hb HB
    go_enter Tryz.func128, Tryz.ntmps128
    go_wp2_with (go_at_call 106; go_must (refine hC.mono ?_); rintro e w1 ⟨rfl, rfl⟩)
    go_ret
    exact ⟨rfl, rfl⟩
  · rw [HB h0]
    obtain ⟨q, HQ⟩ : ∃ q, Hid (k - 1 = q) := ⟨_, Lib.hid rfl⟩
    rw [HQ.out]
    have hkq := HQ.out
    have hqk : q < k := by omega
    obtain ⟨t, HT⟩ : ∃ t, Hid (l.getD q 0 = t) := ⟨_, Lib.hid rfl⟩
    obtain ⟨b1, o1, rfl, hx⟩ := h.elem (i := q) (by omega)
    have hx1 := hx 0 _ rfl
    have hlt : l[q]'(by omega) = t := by rw [← HT.out, List.getD_eq_getElem?_getD, List.getElem?_eq_getElem (by omega)]; rfl
    simp only [EU, Nat.add_zero, Nat.mul_one] at hx1
    rw [hlt] at hx1
    have ht32 : t < 4294967296 := by rw [← HT.out]; exact hb.getD _
    rw [HT.out]
    have hN := fun wv : World => len32_ok t ht32 wv
    obtain ⟨y, HY⟩ : ∃ y, Hid (Lib.bitLen t = y) := ⟨_, Lib.hid rfl⟩
    have hy : y ≤ 64 := by rw [← HY.out]; exact Lib.bitLen_le t 64 (by omega) (by omega)
    rw [HY.out] at hN ⊢
    have hkne : ((k : Int) == 0) = false := by rw [beq_eq_false_iff_ne]; omega
    have i1 : IntKind.i64.wrap ((k : Int) - 1) = (q : Int) := by rw [IntWalk.i64_left, IntWalk.wrap64_in _ ⟨by omega, by omega⟩]; omega
    have i1' : (k : Int) - 1 = (q : Int) := by omega
    have i2 : IntKind.i64.wrap (32 * (q : Int)) = 32 * (q : Int) := by rw [IntWalk.i64_left, IntWalk.wrap64_in _ ⟨by omega, by omega⟩]
    have i3 : IntKind.i64.wrap (32 * (q : Int) + (y : Int)) = 32 * (q : Int) + (y : Int) := by rw [IntWalk.i64_left, IntWalk.wrap64_in _ ⟨by omega, by omega⟩]
    have hq0 : (0 : Int) ≤ (q : Int) := by omega
    have hq1 : (q : Int) < (k : Int) := by omega
    have HN := Lib.hid hN
    clear hN hx hlt h hb HB hkq
    go_enter Tryz.func128, Tryz.ntmps128
    go_wp2_with (first | (go_at_call 106; go_must (refine hC.mono ?_); rintro e w1 ⟨rfl, rfl⟩) | (go_at_call 146; go_must (refine (HN.out _).mono ?_); rintro e w1 ⟨rfl, rfl⟩))
    go_ret
    refine ⟨?_, rfl⟩
    simp
end Go.Proofs.YticnefkdkkjgcaaGreatDoor

/- nat.Uint. -/
namespace Go.Proofs.YticnefkdkkjgcaaGreatDoor
open Go.RowKit

theorem getD_cut {l : List Nat} {i : Nat} (h : i < cutN l l.length) : (cutL l)[i]? = some (l.getD i 0) := by
  have hle := cutN_le l l.length
  unfold cutL
  rw [List.getElem?_take, if_pos h, List.getD_eq_getElem?_getD, List.getElem?_eq_getElem (by omega)]
  rfl
def UintE (x k : Nat) : Ending := if k ≤ 2 then .returned (.tuple #[.int .u64 (x : Int), .bool true]) else .returned (.tuple #[.int .u64 0, .bool false])
set_option maxRecDepth 100000 in
theorem nUint_ok (A : Option Addr) (c L : Nat) (l : List Nat) (w : World) (hL : l.length = L) (h : Sl EU w A c l) (hb : Bd l) (hl : L ≤ 1000000000) :
    Calls Tryz.prog 75 #[.slice A L c] w fun e w' => e = UintE (valL l) (cutN l L) ∧ w' = w := by
  have hC := cut_ok A c L l w hL h
  have hcl := cutL_len l
  have hv := cutL_val l
  have hg := fun i => getD_cut (l := l) (i := i)
  have hle := cutN_le l L
  obtain ⟨k, HK⟩ : ∃ k, Hid (cutN l L = k) := ⟨_, Lib.hid rfl⟩
  rw [hL, HK.out] at hcl hg
  rw [HK.out] at hC hle ⊢
  by_cases hk : k ≤ 2
  · obtain ⟨x, HX⟩ : ∃ x, Hid (valL l = x) := ⟨_, Lib.hid rfl⟩
    rw [HX.out] at hv ⊢
    have HE : Hid (UintE x k = .returned (.tuple #[.int .u64 (x : Int), .bool true])) := Lib.hid (if_pos hk)
    rw [HE.out]
    have hgt : decide ((k : Int) > 2) = false := by rw [decide_eq_false_iff_not]; omega
    rcases (show k = 0 ∨ k = 1 ∨ k = 2 by omega) with rfl | rfl | rfl
    · have hx0 : x = 0 := by
        rw [← hv, List.eq_nil_of_length_eq_zero hcl]; rfl
      subst hx0
      clear hv hg hcl hb
      go_enter Tryz.func75, Tryz.ntmps75
      go_wp2_with (go_at_call 106; go_must (refine hC.mono ?_); rintro e w1 ⟨rfl, rfl⟩)
      refine wp_loop_rounds 1 ?_
      rw [rounds_succ]
      go_wp2
      go_ret2
      exact ⟨rfl, rfl⟩
    · obtain ⟨b1, o1, rfl, hx⟩ := h.elem (i := 0) (by omega)
      have hx1 := hx 0 _ rfl
      have g0 := hg 0 (by decide)
      obtain ⟨x0, HX0⟩ : ∃ x0, Hid (l.getD 0 0 = x0) := ⟨_, Lib.hid rfl⟩
      have hl0 : l[0]'(by omega) = x0 := by rw [← HX0.out, List.getD_eq_getElem?_getD, List.getElem?_eq_getElem (by omega)]; rfl
      have hx32 : x0 < 4294967296 := by rw [← HX0.out]; exact hb.getD _
      simp only [EU, Nat.add_zero, Nat.mul_one] at hx1
      rw [hl0] at hx1
      rw [HX0.out] at g0
      have hcut : cutL l = [x0] := by
        apply List.ext_getElem?
        intro i
        cases i with
        | zero => rw [g0]; rfl
        | succ i => rw [List.getElem?_eq_none (by omega)]; simp
      have hxx : x = x0 := by rw [← hv, hcut]; simp [valL]
      subst hxx
      have i1 : IntKind.u64.wrap (x : Int) = (x : Int) := by rw [IntKind.wrap_u64]; omega
      have i2 : bits .or .u64 0 (x : Int) = (x : Int) := by
        have := u64_or_nat 0 x (by decide) (by omega)
        rw [Nat.zero_or] at this
        exact this
      clear hv hg hcl hb hx hl0 h
      go_enter Tryz.func75, Tryz.ntmps75
      go_wp2_with (go_at_call 106; go_must (refine hC.mono ?_); rintro e w1 ⟨rfl, rfl⟩)
      refine wp_loop_rounds 2 ?_
      rw [rounds_succ]
      go_wp2
      rw [rounds_succ]
      go_wp2
      go_ret2
      exact ⟨rfl, rfl⟩
    · obtain ⟨b1, o1, rfl, hx⟩ := h.elem (i := 0) (by omega)
      have hx1 := hx 0 _ rfl
      obtain ⟨b2, o2, e2, hy⟩ := h.elem (i := 1) (by omega)
      simp only [Option.some.injEq, Addr.mk.injEq, and_true] at e2
      obtain ⟨rfl, rfl⟩ := e2
      have hy1 := hy 0 _ rfl
      have g0 := hg 0 (by decide)
      have g1 := hg 1 (by decide)
      obtain ⟨x0, HX0⟩ : ∃ x0, Hid (l.getD 0 0 = x0) := ⟨_, Lib.hid rfl⟩
      obtain ⟨y0, HY0⟩ : ∃ y0, Hid (l.getD 1 0 = y0) := ⟨_, Lib.hid rfl⟩
      have hl0 : l[0]'(by omega) = x0 := by rw [← HX0.out, List.getD_eq_getElem?_getD, List.getElem?_eq_getElem (by omega)]; rfl
      have hl1 : l[1]'(by omega) = y0 := by rw [← HY0.out, List.getD_eq_getElem?_getD, List.getElem?_eq_getElem (by omega)]; rfl
      have hx32 : x0 < 4294967296 := by rw [← HX0.out]; exact hb.getD _
      have hy32 : y0 < 4294967296 := by rw [← HY0.out]; exact hb.getD _
      simp only [EU, Nat.add_zero, Nat.mul_one] at hx1 hy1
      rw [hl0] at hx1
      rw [hl1] at hy1
      rw [HX0.out] at g0
      rw [HY0.out] at g1
      have hcut : cutL l = [x0, y0] := by
        apply List.ext_getElem?
        intro i
        match i with
        | 0 => rw [g0]; rfl
        | 1 => rw [g1]; rfl
        | i + 2 => rw [List.getElem?_eq_none (by omega)]; simp
      have hxx : x = x0 + 4294967296 * y0 := by rw [← hv, hcut]; simp [valL]
      have i1 : IntKind.u64.wrap (x0 : Int) = (x0 : Int) := by rw [IntKind.wrap_u64]; omega
      have i1y : IntKind.u64.wrap (y0 : Int) = (y0 : Int) := by rw [IntKind.wrap_u64]; omega
      have i2 : bits .or .u64 0 (x0 : Int) = (x0 : Int) := by
        have := u64_or_nat 0 x0 (by decide) (by omega)
        rw [Nat.zero_or] at this
        exact this
      have i3 : IntKind.u64.wrap ((y0 : Int) * 4294967296) = (y0 : Int) * 4294967296 := by rw [IntKind.wrap_u64]; omega
      have i4 : bits .or .u64 (x0 : Int) ((y0 : Int) * 4294967296) = (x : Int) := by
        have h1 := u64_or_nat x0 (y0 * 4294967296) (by omega) (by omega)
        have h2 : x0 ||| y0 * 4294967296 = y0 * 4294967296 + x0 := by
          have := Nat.two_pow_add_eq_or_of_lt (i := 32) hx32 y0
          rw [Nat.or_comm, show (4294967296 : Nat) = 2 ^ 32 by decide, Nat.mul_comm y0, ← this]
        rw [h2, show ((y0 * 4294967296 : Nat) : Int) = (y0 : Int) * 4294967296 by omega] at h1
        rw [h1, hxx]
        omega
      clear hv hg hcl hb hx hy hl0 hl1 h hxx
      go_enter Tryz.func75, Tryz.ntmps75
      go_wp2_with (go_at_call 106; go_must (refine hC.mono ?_); rintro e w1 ⟨rfl, rfl⟩)
      refine wp_loop_rounds 3 ?_
      rw [rounds_succ]
      go_wp2
      rw [rounds_succ]
      go_wp2
      rw [rounds_succ]
      go_wp2
      go_ret2
      exact ⟨rfl, rfl⟩
  · rw [UintE, if_neg hk]
    have hgt : decide ((k : Int) > 2) = true := by rw [decide_eq_true_iff]; omega
    clear hv hg hcl hb
    go_enter Tryz.func75, Tryz.ntmps75
    go_wp2_with (go_at_call 106; go_must (refine hC.mono ?_); rintro e w1 ⟨rfl, rfl⟩)
    go_ret2
    exact ⟨rfl, rfl⟩
end Go.Proofs.YticnefkdkkjgcaaGreatDoor
