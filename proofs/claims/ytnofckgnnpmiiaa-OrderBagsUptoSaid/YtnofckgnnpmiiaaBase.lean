/- Words of our own on memory: what a call keeps, slices of elements of several cells, an append in place; over any program. -/
import Derived.Test.YtnofckgnnpmiiaaRows
import Derived.WalkKit
import Derived.WalkSpells
import Derived.WalkLawsBesides
import Derived.Deep.QuietTactic
import Derived.BigQuiet
import Derived.Lib.Hide
import Derived.Laws.EntriesVeiled
import Derived.Laws.StructEq
import Derived.Deep.MidRow
import Derived.Deep.RegionHeld3
import Derived.StillTailTactics
import Derived.Deep.DrawnRows
import Derived.Deep.LoopGhost
import Derived.Deep.DeepMust
import Derived.Deep.DeepFit
namespace Go.Proofs.Ytnofckgnnpmiiaa
open Go.RowKit

/-- What w' keeps of w: all blocks that were there, but those of S. -/
structure Keep (S : Nat → Prop) (w w' : World) : Prop where
  os : w'.os = w.os
  tape : w'.tape = w.tape
  output : w'.output = w.output
  size : w.heap.size ≤ w'.heap.size
  block : ∀ k, k < w.heap.size → ¬ S k → w'.heap[k]? = w.heap[k]?

namespace Keep
variable {S S' : Nat → Prop} {w w1 w2 : World}
theorem refl (S : Nat → Prop) (w : World) : Keep S w w := ⟨rfl, rfl, rfl, Nat.le_refl _, fun _ _ _ => rfl⟩
theorem trans (h : Keep S w w1) (k : Keep S' w1 w2) (hs : ∀ k, k < w.heap.size → S' k → S k) : Keep S w w2 :=
  ⟨k.os.trans h.os, k.tape.trans h.tape, k.output.trans h.output, Nat.le_trans h.size k.size,
    fun i hi hS => (k.block i (Nat.lt_of_lt_of_le hi h.size) (fun h' => hS (hs i hi h'))).trans (h.block i hi hS)⟩
theorem then_ (h : Keep S w w1) (k : Keep S w1 w2) : Keep S w w2 := h.trans k (fun _ _ h => h)
theorem mono (h : Keep S w w1) (hs : ∀ k, k < w.heap.size → S k → S' k) : Keep S' w w1 :=
  ⟨h.os, h.tape, h.output, h.size, fun i hi hS => h.block i hi (fun h' => hS (hs i hi h'))⟩
theorem of_below (h : Below w.heap.size w w1) (S : Nat → Prop) : Keep S w w1 := ⟨h.os, h.tape, h.output, h.size, fun k hk _ => h.block k hk⟩
theorem below (h : Keep S w w1) {B : Nat} (hB : B ≤ w.heap.size) (hs : ∀ k, k < B → ¬ S k) : Below B w w1 :=
  ⟨h.os, h.tape, h.output, h.size, fun k hk => h.block k (by omega) (hs k hk)⟩
theorem alloc (h : Keep S w w1) (o : Obj) : Keep S w (w1.alloc o) :=
  h.trans (S' := S) (of_below ((Below.refl _ _).alloc (Nat.le_refl _) o) S) (fun _ _ h => h)
theorem drew (h : Keep S w w1) : Keep S w w1.drew := ⟨h.os, h.tape, h.output, h.size, h.block⟩
theorem drewN (h : Keep S w w1) (n : Nat) : Keep S w (w1.drewN n) := ⟨h.os, h.tape, h.output, h.size, h.block⟩
theorem setCell (h : Keep S w w1) {p : Addr} (hp : p.block < w.heap.size → S p.block) (u : Value) : Keep S w (w1.setCell p u) :=
  ⟨h.os, h.tape, h.output, by have := h.size; simpa [World.setCell] using this, fun k hk hS => (Below.heap_setCell w1 p u k (fun e => hS (by subst e; exact hp hk))).trans (h.block k hk hS)⟩
theorem setCells {b : Nat} : ∀ (vs : List Value) (o : Nat) {w1 : World}, Keep S w w1 → (b < w.heap.size → S b) → Keep S w (w1.setCells b o vs)
  | [], _, _, h, _ => h
  | v :: r, o, _, h, hb => setCells r (o + 1) (h.setCell (p := ⟨b, o, none⟩) hb v) hb
theorem cell (h : Keep S w w1) {a : Addr} {v : Value} (hc : w.cell? a = some v) (hs : ¬ S a.block) : w1.cell? a = some v :=
  (World.cell?_of_block (w := w) (h.block a.block (World.block_lt_of_cell? w a hc) hs)).trans hc
theorem range (h : Keep S w w1) {b o : Nat} {cs : List Value} (hc : w.rangeAt b o cs) (hs : ¬ S b) : w1.rangeAt b o cs :=
  fun j v hv => h.cell (hc j v hv) hs
theorem there (h : Keep S w w1) {b o n : Nat} (hc : w.there b o n) (hs : ¬ S b) : w1.there b o n := fun j hj => by
  obtain ⟨h1, h2⟩ := hc j hj
  obtain ⟨u, hu⟩ := Option.isSome_iff_exists.1 h1
  refine ⟨by rw [h.cell hu hs]; rfl, ?_⟩
  rw [← h2]
  exact World.frozen?_of_block (h.block b (World.block_lt_of_cell? w _ hu) hs)
end Keep

/-! ### ranges -/
theorem range_nil (w : World) (b o : Nat) : w.rangeAt b o [] := fun j v h => by simp at h
theorem range_app {w : World} {b o : Nat} {xs ys : List Value} : w.rangeAt b o (xs ++ ys) ↔ w.rangeAt b o xs ∧ w.rangeAt b (o + xs.length) ys := by
  constructor
  · intro h
    refine ⟨fun j v hv => h j v ?_, fun j v hv => ?_⟩
    · have hj : j < xs.length := (List.getElem?_eq_some_iff.1 hv).1
      rw [List.getElem?_append_left hj]; exact hv
    · have := h (xs.length + j) v (by rw [List.getElem?_append_right (by omega), show xs.length + j - xs.length = j by omega]; exact hv)
      rwa [show o + (xs.length + j) = o + xs.length + j by omega] at this
  · rintro ⟨h1, h2⟩ j v hv
    by_cases hj : j < xs.length
    · rw [List.getElem?_append_left hj] at hv; exact h1 j v hv
    · rw [List.getElem?_append_right (by omega)] at hv
      have := h2 (j - xs.length) v hv
      rwa [show o + xs.length + (j - xs.length) = o + j by omega] at this
theorem there_sub {w : World} {b o n o' n' : Nat} (h : w.there b o n) (h1 : o ≤ o') (h2 : o' + n' ≤ o + n) : w.there b o' n' := fun j hj => by
  have := h (o' - o + j) (by omega)
  rwa [show o + (o' - o + j) = o' + j by omega] at this
theorem there_of_range {w : World} {b o : Nat} {cs : List Value} (h : w.rangeAt b o cs) (hf : ∀ j, j < cs.length → w.frozen? ⟨b, o + j, none⟩ = false) : w.there b o cs.length :=
  fun j hj => ⟨by rw [h j cs[j] (by simp [hj])]; rfl, hf j hj⟩
theorem there_alloc_new (w : World) (cs : Array Value) (T : Nat) (n : Nat) (hn : n ≤ cs.size) : (w.alloc (.cells cs T)).there w.heap.size 0 n := fun j hj => by
  have hh : (w.alloc (.cells cs T)).heap[w.heap.size]? = some (.cells cs T (0, 0)) := heap_alloc_new w _
  constructor
  · simp only [World.cell?, hh]
    simp only [Option.isSome_none, Bool.false_eq_true, if_false]
    rw [Array.getElem?_eq_getElem (by omega)]; rfl
  · simp only [World.frozen?]; rw [hh]; simp
theorem range_alloc_new (w : World) (cs : Array Value) (T : Nat) (l : List Value) (hl : ∀ (j : Nat) (v : Value), l[j]? = some v → cs[j]? = some v) : (w.alloc (.cells cs T)).rangeAt w.heap.size 0 l := fun j v hv => by
  have hh : (w.alloc (.cells cs T)).heap[w.heap.size]? = some (.cells cs T (0, 0)) := heap_alloc_new w _
  simp only [World.cell?, hh]
  simp only [Option.isSome_none, Bool.false_eq_true, if_false]
  rw [Nat.zero_add]
  exact hl j v hv

/-! ### elements of several cells -/
structure El (α : Type) where
  sz : Nat
  pos : 0 < sz
  cells : α → List Value
  len : ∀ x, (cells x).length = sz
  one : ∀ x, ∀ v ∈ cells x, v.oneCell' = true
  val : α → Value

namespace El
variable {α : Type} (E : El α)
def flat (xs : List α) : List Value := xs.flatMap E.cells
theorem flat_nil : E.flat [] = [] := rfl
theorem flat_cons (x : α) (xs : List α) : E.flat (x :: xs) = E.cells x ++ E.flat xs := rfl
theorem flat_app (xs ys : List α) : E.flat (xs ++ ys) = E.flat xs ++ E.flat ys := by simp [flat]
theorem flat_len (xs : List α) : (E.flat xs).length = xs.length * E.sz := by
  induction xs with
  | nil => simp [flat_nil]
  | cons x xs ih => simp [flat_cons, ih, E.len, Nat.add_mul]; omega
theorem flat_one (xs : List α) : ∀ v ∈ E.flat xs, v.oneCell' = true := by
  intro v hv
  obtain ⟨x, _, hx⟩ := List.mem_flatMap.1 hv
  exact E.one x v hx
end El

/-- A slice value of address A and capacity c reads as xs. -/
structure Sl {α : Type} (E : El α) (w : World) (A : Option Addr) (c : Nat) (xs : List α) : Prop where
  le : xs.length ≤ c
  cap : c ≤ 9223372036854775807
  at_ : xs ≠ [] → ∃ b o, A = some ⟨b, o, none⟩ ∧ w.rangeAt b o (E.flat xs)

/-- Is the address in a block of which S speaks? -/
def InB (S : Nat → Prop) (A : Option Addr) : Prop := ∃ a, A = some a ∧ S a.block

namespace Sl
variable {α : Type} {E : El α} {w w1 : World} {A : Option Addr} {c : Nat} {xs : List α}
theorem keep {S : Nat → Prop} (h : Sl E w A c xs) (k : Keep S w w1) (hs : ¬ InB S A) : Sl E w1 A c xs :=
  ⟨h.le, h.cap, fun hx => let ⟨b, o, hA, hr⟩ := h.at_ hx; ⟨b, o, hA, k.range hr (fun hb => hs ⟨_, hA, hb⟩)⟩⟩
theorem below (h : Sl E w A c xs) (k : Below w.heap.size w w1) : Sl E w1 A c xs :=
  h.keep (Keep.of_below k (fun _ => False)) (fun ⟨_, _, hf⟩ => hf)
theorem nil_ (E : El α) (w : World) (A : Option Addr) {c : Nat} (hc : c ≤ 9223372036854775807) : Sl E w A c ([] : List α) := ⟨Nat.zero_le _, hc, fun h => absurd rfl h⟩
theorem elem (h : Sl E w A c xs) {i : Nat} (hi : i < xs.length) : ∃ b o, A = some ⟨b, o, none⟩ ∧ w.rangeAt b (o + i * E.sz) (E.cells xs[i]) := by
  obtain ⟨b, o, hA, hr⟩ := h.at_ (by intro e; simp [e] at hi)
  refine ⟨b, o, hA, ?_⟩
  have hs : xs = xs.take i ++ xs[i] :: xs.drop (i + 1) := by rw [List.getElem_cons_drop, List.take_append_drop]
  rw [hs, E.flat_app, E.flat_cons, range_app, range_app, E.flat_len, List.length_take, Nat.min_eq_left (by omega)] at hr
  exact hr.2.1
end Sl

/-- where a slice's rest begins: behind k elements of sz cells (at the end of the capacity the address stays). -/
def cutA (A : Option Addr) (c k sz : Nat) : Option Addr := if c - k = 0 then A else A.map (·.add (k * sz))
theorem Sl.drop {α : Type} {E : El α} {w : World} {A : Option Addr} {c : Nat} {xs : List α} (h : Sl E w A c xs) {k : Nat} (hk : k ≤ xs.length) : Sl E w (cutA A c k E.sz) (c - k) (xs.drop k) := by
  have hle := h.le
  have hcap := h.cap
  refine ⟨by rw [List.length_drop]; omega, by omega, fun hx => ?_⟩
  have hlt : k < xs.length := by
    by_cases hh : k < xs.length
    · exact hh
    · exact absurd (List.drop_eq_nil_of_le (by omega)) hx
  obtain ⟨b, o, hA, hr⟩ := h.at_ (by intro e; simp [e] at hlt)
  refine ⟨b, o + k * E.sz, ?_, ?_⟩
  · unfold cutA
    rw [if_neg (by omega), hA, Option.map_some, Addr.add_mid]
  · have hs : xs = xs.take k ++ xs.drop k := (List.take_append_drop _ _).symm
    rw [hs, E.flat_app, range_app, E.flat_len, List.length_take, Nat.min_eq_left (by omega)] at hr
    exact hr.2
theorem Sl.take {α : Type} {E : El α} {w : World} {A : Option Addr} {c : Nat} {xs : List α} (h : Sl E w A c xs) (k : Nat) : Sl E w A c (xs.take k) := by
  refine ⟨by have := h.le; rw [List.length_take]; omega, h.cap, fun hx => ?_⟩
  obtain ⟨b, o, hA, hr⟩ := h.at_ (by intro e; simp [e] at hx)
  refine ⟨b, o, hA, ?_⟩
  have hs : xs = xs.take k ++ xs.drop k := (List.take_append_drop _ _).symm
  rw [hs, E.flat_app, range_app] at hr
  exact hr.1
theorem inB_cutA {S : Nat → Prop} {A : Option Addr} {c k sz : Nat} (h : ¬ InB S A) : ¬ InB S (cutA A c k sz) := by
  unfold cutA
  split
  · exact h
  · rintro ⟨a, ha, hs⟩
    cases A with
    | none => simp at ha
    | some x =>
      simp at ha
      subst ha
      refine h ⟨x, rfl, ?_⟩
      have : (x.add (k * sz)).block = x.block := by unfold Addr.add; split <;> rfl
      rwa [this] at hs

/-! ### slice expressions -/
theorem run_slice_lh {P : Program} (w : World) (t e : TypeId) (sz : Nat) (ht : P.underlying t = some (.slice e)) (hsz : (P.info? e).map (·.size) = some sz) (A : Option Addr) (n c lo hi : Nat) (L H : Int) (hL : L = (lo : Int)) (hH : H = (hi : Int)) (h1 : lo ≤ hi) (h2 : hi ≤ c) :
    (Instr.slice t (.slice A n c) (some (.int .i64 L)) (some (.int .i64 H)) none).run P w = .ok (.slice (cutA A c lo sz) (hi - lo) (c - lo)) w := by
  subst hL; subst hH
  obtain ⟨i, hi', his⟩ := Option.map_eq_some_iff.1 hsz
  simp [Instr.slice, run_underlying ht, Instr.sliceBounds, Instr.sliceBound, sizeOf, typeInfo, hi', his, cutA, asIntOf, h1, h2]
  rcases Nat.eq_or_lt_of_le (show lo ≤ c by omega) with h | h
  · subst h; simp
  · rw [if_neg (by omega), if_neg (by omega)]
theorem run_slice_l {P : Program} (w : World) (t e : TypeId) (sz : Nat) (ht : P.underlying t = some (.slice e)) (hsz : (P.info? e).map (·.size) = some sz) (A : Option Addr) (n c lo : Nat) (L : Int) (hL : L = (lo : Int)) (h1 : lo ≤ n) (h2 : n ≤ c) :
    (Instr.slice t (.slice A n c) (some (.int .i64 L)) none none).run P w = .ok (.slice (cutA A c lo sz) (n - lo) (c - lo)) w := by
  subst hL
  obtain ⟨i, hi', his⟩ := Option.map_eq_some_iff.1 hsz
  simp [Instr.slice, run_underlying ht, Instr.sliceBounds, Instr.sliceBound, sizeOf, typeInfo, hi', his, cutA, asIntOf, h1]
  rcases Nat.eq_or_lt_of_le (show lo ≤ c by omega) with h | h
  · subst h; simp
  · rw [if_neg (by omega), if_neg (by omega)]
theorem run_slice_h {P : Program} (w : World) (t e : TypeId) (sz : Nat) (ht : P.underlying t = some (.slice e)) (hsz : (P.info? e).map (·.size) = some sz) (A : Option Addr) (n c hi : Nat) (H : Int) (hH : H = (hi : Int)) (h2 : hi ≤ c) :
    (Instr.slice t (.slice A n c) none (some (.int .i64 H)) none).run P w = .ok (.slice A hi c) w := by
  subst hH
  obtain ⟨i, hi', his⟩ := Option.map_eq_some_iff.1 hsz
  simp [Instr.slice, run_underlying ht, Instr.sliceBounds, Instr.sliceBound, sizeOf, typeInfo, hi', asIntOf, h2]
  cases A <;> simp [Addr.add]

/-! ### append in place, at any offset -/
section
variable {P : Program}
theorem run_append_in (w : World) (t ty e : TypeId) (i : TypeInfo) (ht : P.underlying t = some (.slice e)) (hi : P.info? e = some i)
    (b o sLen sCap : Nat) (A : Option Addr) (m c : Nat) (news : List Value) (hl : news.length = m * i.size) (hnews : news ≠ [] → ∃ a, A = some a ∧ ∀ j u, news[j]? = some u → w.cell? (a.add j) = some u) (h1 : ∀ u ∈ news, u.oneCell' = true)
    (hroom : sLen + m ≤ sCap) (hth : w.there b (o + sLen * i.size) news.length) :
    (Builtin.append_ #[t, t] ty #[.slice (some ⟨b, o, none⟩) sLen sCap, .slice A m c]).run P w =
      .ok (.slice (some ⟨b, o, none⟩) (sLen + m) sCap) (w.setCells b (o + sLen * i.size) news) := by
  have hst := run_storeCells_cells (P := P) b (o + sLen * i.size) news 0 w (fun j hj => by simpa using (hth j hj).1) (fun j hj => by simpa using (hth j hj).2) h1
  simp only [Nat.add_zero] at hst
  have hf : (Builtin.firstCells i.size m (.slice A m c)).run P w = .ok news.toArray w := by
    by_cases hn : news = []
    · subst hn
      have hm0 : m * i.size = 0 := by simpa using hl.symm
      cases A with
      | none => exact run_firstCells_none w i.size m m c
      | some a => exact run_firstCells_some w i.size m a m c [] (by simp [hm0]) (by simp)
    · obtain ⟨a, rfl, hc⟩ := hnews hn
      exact run_firstCells_some w i.size m a m c news hl hc
  simp [Builtin.append_, run_underlying ht, sizeOf, typeInfo, hi, Builtin.lenOf, hroom, hf, Addr.add_mid, hst]
theorem wp_append_E {α : Type} (E : El α) {w : World} {op : Oper} {a : Act} {K : Act → World → Prop} {Q : Exit → Act → World → Prop} (s x : Operand) (t : TypeId)
    (ho : op.op = .call { callee := .builtin .append, args := #[s, x], argTypes := #[t, t] }) (e : TypeId) (ht : P.underlying t = some (.slice e)) (hsz : (P.info? e).map (·.size) = some E.sz)
    (b o sLen sCap : Nat) (hs : a.eval s = .slice (some ⟨b, o, none⟩) sLen sCap) (A : Option Addr) (m c : Nat) (hx : a.eval x = .slice A m c) (ys : List α) (hm : ys.length = m) (hy : Sl E w A c ys)
    (hroom : sLen + m ≤ sCap) (hth : w.there b (o + sLen * E.sz) (m * E.sz))
    (h : ∀ w', w' = w.setCells b (o + sLen * E.sz) (E.flat ys) → K (a.put op.dst (.slice (some ⟨b, o, none⟩) (sLen + m) sCap)) w') : op.wp P a w K Q := by
  subst hm
  obtain ⟨i, hi, his⟩ := Option.map_eq_some_iff.1 hsz
  have hr := run_append_in (P := P) w t op.type e i ht hi b o sLen sCap A ys.length c (E.flat ys) (by rw [E.flat_len, his])
    (fun hn => by
      obtain ⟨b', o', hA, hr⟩ := hy.at_ (by intro e; subst e; exact hn rfl)
      exact ⟨_, hA, fun j u hj => by rw [Addr.add_mid]; exact hr j u hj⟩) (E.flat_one ys) hroom (by rw [his, E.flat_len]; exact hth)
  rw [his] at hr
  unfold Oper.wp execOp
  simp only [ho, resolve, invoke, builtin, Sem.run_bind, Sem.run_pure, Result.andThen_ok, List.map_toArray, List.map_cons, List.map_nil, hs, hx, hr]
  exact h _ rfl
theorem wpList_append_E {α : Type} (E : El α) {w : World} {op : Oper} {ops : Array Oper} {rest : List Oper} {a : Act} {Q : Exit → Act → World → Prop} (hgd : op.guard = none) (s x : Operand) (t : TypeId)
    (ho : op.op = .call { callee := .builtin .append, args := #[s, x], argTypes := #[t, t] }) (e : TypeId) (ht : P.underlying t = some (.slice e)) (hsz : (P.info? e).map (·.size) = some E.sz)
    (b o sLen sCap : Nat) (hs : a.eval s = .slice (some ⟨b, o, none⟩) sLen sCap) (A : Option Addr) (m c : Nat) (hx : a.eval x = .slice A m c) (ys : List α) (hm : ys.length = m) (hy : Sl E w A c ys)
    (hroom : sLen + m ≤ sCap) (hth : w.there b (o + sLen * E.sz) (m * E.sz))
    (h : ∀ w', w' = w.setCells b (o + sLen * E.sz) (E.flat ys) → wpList P ops Q rest (a.put op.dst (.slice (some ⟨b, o, none⟩) (sLen + m) sCap)) w') : wpList P ops Q (op :: rest) a w :=
  wpList_plain hgd fun _ hK => wp_append_E E s x t ho e ht hsz b o sLen sCap hs A m c hx ys hm hy hroom hth (fun w' hw' => hK _ _ (h w' hw'))
end
/-- one element in a block of its own -/
theorem Sl.one {α : Type} (E : El α) (w : World) (x : α) (cs : Array Value) (T : Nat) (hc : cs.toList = E.cells x) : Sl E (w.alloc (.cells cs T)) (some ⟨w.heap.size, 0, none⟩) 1 [x] :=
  ⟨Nat.le_refl _, by decide, fun _ => ⟨_, _, rfl, range_alloc_new w cs T _ (fun j v hv => by
    rw [E.flat_cons, E.flat_nil, List.append_nil, ← hc] at hv
    simpa using hv)⟩⟩
end Go.Proofs.Ytnofckgnnpmiiaa
