/- PackreadAhead: a world that meets what the row lays. -/
import Derived.Test.YteekndchkgdccaaGreatDoorRows
import Derived.Test.YteekndchkgdccaaGreatDoorCards
import Derived.ChangeSame
import Derived.ChangeVars
import Derived.JoinedOf
import Derived.RowKit
import Derived.RowKitTokens
import Derived.LaidLaws
import Derived.LaidHandle
import Derived.Stop.Joined
import Derived.LaidMore
import Derived.WalkKit
import Derived.WalkSpells
import Derived.WalkLawsBesides
import Derived.Deep.QuietTactic
import Derived.BigQuiet
import Derived.Lib.Hide
import Derived.Laws.EntriesVeiled
import Derived.Laws.StructEq
import Derived.Deep.MidRow
import Derived.Deep.RegionHeld3
import Derived.StillTailTactics
import Derived.Deep.DrawnRows
import Derived.Deep.LoopGhost
import Derived.Deep.DeepMust
import Derived.Deep.DeepFit
import Derived.Laws.Bits64
import Derived.Laws.BitsLemmas
import Derived.Laws.Strings
import Derived.Lib.LaidTab
import Derived.Lib.ItoaNum
import Derived.KernelRfl
import Derived.Deep.Cut
import Derived.Deep.CutBlock
import Derived.Laws.Bits
namespace Go.Proofs.YteekndchkgdccaaGreatDoor
open Go.ChangeShapes Go.WideShapes Go.RowKit

theorem door_met (os : Os) (args : Array Value) : laidMetH Tryz.prog Rows.typedBackUptoRow.laid ((World.doorLaid Tryz.prog 400 os).forCall (fun _ _ => 0) ⟨#[], args, []⟩).memory :=
  laidMetH_of_parts (laidMet_of_run' 8 (by kernel_rfl) (by kernel_rfl)) (by kernel_rfl)
end Go.Proofs.YteekndchkgdccaaGreatDoor

/- Words of our own on memory: what a call keeps, slices of elements of several cells, an append in place; over any program. -/
namespace Go.Proofs.YteekndchkgdccaaGreatDoor
open Go.RowKit

/-- What w' keeps of w: all blocks that were there, but those of S. -/
structure Keep (S : Nat → Prop) (w w' : World) : Prop where
  os : w'.os = w.os
  tape : w'.tape = w.tape
  output : w'.output = w.output
  size : w.heap.size ≤ w'.heap.size
  block : ∀ k, k < w.heap.size → ¬ S k → w'.heap[k]? = w.heap[k]?

namespace Keep
variable {S S' : Nat → Prop} {w w1 w2 : World}
theorem refl (S : Nat → Prop) (w : World) : Keep S w w := ⟨rfl, rfl, rfl, Nat.le_refl _, fun _ _ _ => rfl⟩
theorem trans (h : Keep S w w1) (k : Keep S' w1 w2) (hs : ∀ k, k < w.heap.size → S' k → S k) : Keep S w w2 :=
  ⟨k.os.trans h.os, k.tape.trans h.tape, k.output.trans h.output, Nat.le_trans h.size k.size,
    fun i hi hS => (k.block i (Nat.lt_of_lt_of_le hi h.size) (fun h' => hS (hs i hi h'))).trans (h.block i hi hS)⟩
theorem then_ (h : Keep S w w1) (k : Keep S w1 w2) : Keep S w w2 := h.trans k (fun _ _ h => h)
theorem mono (h : Keep S w w1) (hs : ∀ k, k < w.heap.size → S k → S' k) : Keep S' w w1 :=
  ⟨h.os, h.tape, h.output, h.size, fun i hi hS => h.block i hi (fun h' => hS (hs i hi h'))⟩
theorem of_below (h : Below w.heap.size w w1) (S : Nat → Prop) : Keep S w w1 := ⟨h.os, h.tape, h.output, h.size, fun k hk _ => h.block k hk⟩
theorem below (h : Keep S w w1) {B : Nat} (hB : B ≤ w.heap.size) (hs : ∀ k, k < B → ¬ S k) : Below B w w1 :=
  ⟨h.os, h.tape, h.output, h.size, fun k hk => h.block k (by omega) (hs k hk)⟩
theorem alloc (h : Keep S w w1) (o : Obj) : Keep S w (w1.alloc o) :=
  h.trans (S' := S) (of_below ((Below.refl _ _).alloc (Nat.le_refl _) o) S) (fun _ _ h => h)
theorem drew (h : Keep S w w1) : Keep S w w1.drew := ⟨h.os, h.tape, h.output, h.size, h.block⟩
theorem drewN (h : Keep S w w1) (n : Nat) : Keep S w (w1.drewN n) := ⟨h.os, h.tape, h.output, h.size, h.block⟩
theorem setCell (h : Keep S w w1) {p : Addr} (hp : p.block < w.heap.size → S p.block) (u : Value) : Keep S w (w1.setCell p u) :=
  ⟨h.os, h.tape, h.output, by have := h.size; simpa [World.setCell] using this, fun k hk hS => (Below.heap_setCell w1 p u k (fun e => hS (by subst e; exact hp hk))).trans (h.block k hk hS)⟩
theorem setCells {b : Nat} : ∀ (vs : List Value) (o : Nat) {w1 : World}, Keep S w w1 → (b < w.heap.size → S b) → Keep S w (w1.setCells b o vs)
  | [], _, _, h, _ => h
  | v :: r, o, _, h, hb => setCells r (o + 1) (h.setCell (p := ⟨b, o, none⟩) hb v) hb
theorem cell (h : Keep S w w1) {a : Addr} {v : Value} (hc : w.cell? a = some v) (hs : ¬ S a.block) : w1.cell? a = some v :=
  (World.cell?_of_block (w := w) (h.block a.block (World.block_lt_of_cell? w a hc) hs)).trans hc
theorem range (h : Keep S w w1) {b o : Nat} {cs : List Value} (hc : w.rangeAt b o cs) (hs : ¬ S b) : w1.rangeAt b o cs :=
  fun j v hv => h.cell (hc j v hv) hs
theorem there (h : Keep S w w1) {b o n : Nat} (hc : w.there b o n) (hs : ¬ S b) : w1.there b o n := fun j hj => by
  obtain ⟨h1, h2⟩ := hc j hj
  obtain ⟨u, hu⟩ := Option.isSome_iff_exists.1 h1
  refine ⟨by rw [h.cell hu hs]; rfl, ?_⟩
  rw [← h2]
  exact World.frozen?_of_block (h.block b (World.block_lt_of_cell? w _ hu) hs)
end Keep

/-! ### ranges -/
theorem range_nil (w : World) (b o : Nat) : w.rangeAt b o [] := fun j v h => by simp at h
theorem range_app {w : World} {b o : Nat} {xs ys : List Value} : w.rangeAt b o (xs ++ ys) ↔ w.rangeAt b o xs ∧ w.rangeAt b (o + xs.length) ys := by
  constructor
  · intro h
    refine ⟨fun j v hv => h j v ?_, fun j v hv => ?_⟩
    · have hj : j < xs.length := (List.getElem?_eq_some_iff.1 hv).1
      rw [List.getElem?_append_left hj]; exact hv
    · have := h (xs.length + j) v (by rw [List.getElem?_append_right (by omega), show xs.length + j - xs.length = j by omega]; exact hv)
      rwa [show o + (xs.length + j) = o + xs.length + j by omega] at this
  · rintro ⟨h1, h2⟩ j v hv
    by_cases hj : j < xs.length
    · rw [List.getElem?_append_left hj] at hv; exact h1 j v hv
    · rw [List.getElem?_append_right (by omega)] at hv
      have := h2 (j - xs.length) v hv
      rwa [show o + xs.length + (j - xs.length) = o + j by omega] at this
theorem there_sub {w : World} {b o n o' n' : Nat} (h : w.there b o n) (h1 : o ≤ o') (h2 : o' + n' ≤ o + n) : w.there b o' n' := fun j hj => by
  have := h (o' - o + j) (by omega)
  rwa [show o + (o' - o + j) = o' + j by omega] at this
theorem there_of_range {w : World} {b o : Nat} {cs : List Value} (h : w.rangeAt b o cs) (hf : ∀ j, j < cs.length → w.frozen? ⟨b, o + j, none⟩ = false) : w.there b o cs.length :=
  fun j hj => ⟨by rw [h j cs[j] (by simp [hj])]; rfl, hf j hj⟩
theorem there_alloc_new (w : World) (cs : Array Value) (T : Nat) (n : Nat) (hn : n ≤ cs.size) : (w.alloc (.cells cs T)).there w.heap.size 0 n := fun j hj => by
  have hh : (w.alloc (.cells cs T)).heap[w.heap.size]? = some (.cells cs T (0, 0)) := heap_alloc_new w _
  constructor
  · simp only [World.cell?, hh]
    simp only [Option.isSome_none, Bool.false_eq_true, if_false]
    rw [Array.getElem?_eq_getElem (by omega)]; rfl
  · simp only [World.frozen?]; rw [hh]; simp
theorem range_alloc_new (w : World) (cs : Array Value) (T : Nat) (l : List Value) (hl : ∀ (j : Nat) (v : Value), l[j]? = some v → cs[j]? = some v) : (w.alloc (.cells cs T)).rangeAt w.heap.size 0 l := fun j v hv => by
  have hh : (w.alloc (.cells cs T)).heap[w.heap.size]? = some (.cells cs T (0, 0)) := heap_alloc_new w _
  simp only [World.cell?, hh]
  simp only [Option.isSome_none, Bool.false_eq_true, if_false]
  rw [Nat.zero_add]
  exact hl j v hv

/-! ### elements of several cells -/
structure El (α : Type) where
  sz : Nat
  pos : 0 < sz
  cells : α → List Value
  len : ∀ x, (cells x).length = sz
  one : ∀ x, ∀ v ∈ cells x, v.oneCell' = true
  val : α → Value

namespace El
variable {α : Type} (E : El α)
def flat (xs : List α) : List Value := xs.flatMap E.cells
theorem flat_nil : E.flat [] = [] := rfl
theorem flat_cons (x : α) (xs : List α) : E.flat (x :: xs) = E.cells x ++ E.flat xs := rfl
theorem flat_app (xs ys : List α) : E.flat (xs ++ ys) = E.flat xs ++ E.flat ys := by simp [flat]
theorem flat_len (xs : List α) : (E.flat xs).length = xs.length * E.sz := by
  induction xs with
  | nil => simp [flat_nil]
  | cons x xs ih => simp [flat_cons, ih, E.len, Nat.add_mul]; omega
theorem flat_one (xs : List α) : ∀ v ∈ E.flat xs, v.oneCell' = true := by
  intro v hv
  obtain ⟨x, _, hx⟩ := List.mem_flatMap.1 hv
  exact E.one x v hx
end El

/-- A slice value of address A and capacity c reads as xs. -/
structure Sl {α : Type} (E : El α) (w : World) (A : Option Addr) (c : Nat) (xs : List α) : Prop where
  le : xs.length ≤ c
  cap : c ≤ 9223372036854775807
  at_ : xs ≠ [] → ∃ b o, A = some ⟨b, o, none⟩ ∧ w.rangeAt b o (E.flat xs)

/-- Is the address in a block of which S speaks? -/
def InB (S : Nat → Prop) (A : Option Addr) : Prop := ∃ a, A = some a ∧ S a.block

namespace Sl
variable {α : Type} {E : El α} {w w1 : World} {A : Option Addr} {c : Nat} {xs : List α}
theorem keep {S : Nat → Prop} (h : Sl E w A c xs) (k : Keep S w w1) (hs : ¬ InB S A) : Sl E w1 A c xs :=
  ⟨h.le, h.cap, fun hx => let ⟨b, o, hA, hr⟩ := h.at_ hx; ⟨b, o, hA, k.range hr (fun hb => hs ⟨_, hA, hb⟩)⟩⟩
theorem below (h : Sl E w A c xs) (k : Below w.heap.size w w1) : Sl E w1 A c xs :=
  h.keep (Keep.of_below k (fun _ => False)) (fun ⟨_, _, hf⟩ => hf)
theorem nil_ (E : El α) (w : World) (A : Option Addr) {c : Nat} (hc : c ≤ 9223372036854775807) : Sl E w A c ([] : List α) := ⟨Nat.zero_le _, hc, fun h => absurd rfl h⟩
theorem elem (h : Sl E w A c xs) {i : Nat} (hi : i < xs.length) : ∃ b o, A = some ⟨b, o, none⟩ ∧ w.rangeAt b (o + i * E.sz) (E.cells xs[i]) := by
  obtain ⟨b, o, hA, hr⟩ := h.at_ (by intro e; simp [e] at hi)
  refine ⟨b, o, hA, ?_⟩
  have hs : xs = xs.take i ++ xs[i] :: xs.drop (i + 1) := by rw [List.getElem_cons_drop, List.take_append_drop]
  rw [hs, E.flat_app, E.flat_cons, range_app, range_app, E.flat_len, List.length_take, Nat.min_eq_left (by omega)] at hr
  exact hr.2.1
end Sl

/-- where a slice's rest begins: behind k elements of sz cells (at the end of the capacity the address stays). -/
def cutA (A : Option Addr) (c k sz : Nat) : Option Addr := if c - k = 0 then A else A.map (·.add (k * sz))
theorem Sl.drop {α : Type} {E : El α} {w : World} {A : Option Addr} {c : Nat} {xs : List α} (h : Sl E w A c xs) {k : Nat} (hk : k ≤ xs.length) : Sl E w (cutA A c k E.sz) (c - k) (xs.drop k) := by
  have hle := h.le
  have hcap := h.cap
  refine ⟨by rw [List.length_drop]; omega, by omega, fun hx => ?_⟩
  have hlt : k < xs.length := by
    by_cases hh : k < xs.length
    · exact hh
    · exact absurd (List.drop_eq_nil_of_le (by omega)) hx
  obtain ⟨b, o, hA, hr⟩ := h.at_ (by intro e; simp [e] at hlt)
  refine ⟨b, o + k * E.sz, ?_, ?_⟩
  · unfold cutA
    rw [if_neg (by omega), hA, Option.map_some, Addr.add_mid]
  · have hs : xs = xs.take k ++ xs.drop k := (List.take_append_drop _ _).symm
    rw [hs, E.flat_app, range_app, E.flat_len, List.length_take, Nat.min_eq_left (by omega)] at hr
    exact hr.2
theorem Sl.take {α : Type} {E : El α} {w : World} {A : Option Addr} {c : Nat} {xs : List α} (h : Sl E w A c xs) (k : Nat) : Sl E w A c (xs.take k) := by
  refine ⟨by have := h.le; rw [List.length_take]; omega, h.cap, fun hx => ?_⟩
  obtain ⟨b, o, hA, hr⟩ := h.at_ (by intro e; simp [e] at hx)
  refine ⟨b, o, hA, ?_⟩
  have hs : xs = xs.take k ++ xs.drop k := (List.take_append_drop _ _).symm
  rw [hs, E.flat_app, range_app] at hr
  exact hr.1
theorem inB_cutA {S : Nat → Prop} {A : Option Addr} {c k sz : Nat} (h : ¬ InB S A) : ¬ InB S (cutA A c k sz) := by
  unfold cutA
  split
  · exact h
  · rintro ⟨a, ha, hs⟩
    cases A with
    | none => simp at ha
    | some x =>
      simp at ha
      subst ha
      refine h ⟨x, rfl, ?_⟩
      have : (x.add (k * sz)).block = x.block := by unfold Addr.add; split <;> rfl
      rwa [this] at hs

/-! ### slice expressions -/
theorem run_slice_lh {P : Program} (w : World) (t e : TypeId) (sz : Nat) (ht : P.underlying t = some (.slice e)) (hsz : (P.info? e).map (·.size) = some sz) (A : Option Addr) (n c lo hi : Nat) (L H : Int) (hL : L = (lo : Int)) (hH : H = (hi : Int)) (h1 : lo ≤ hi) (h2 : hi ≤ c) :
    (Instr.slice t (.slice A n c) (some (.int .i64 L)) (some (.int .i64 H)) none).run P w = .ok (.slice (cutA A c lo sz) (hi - lo) (c - lo)) w := by
  subst hL; subst hH
  obtain ⟨i, hi', his⟩ := Option.map_eq_some_iff.1 hsz
  simp [Instr.slice, run_underlying ht, Instr.sliceBounds, Instr.sliceBound, sizeOf, typeInfo, hi', his, cutA, asIntOf, h1, h2]
  rcases Nat.eq_or_lt_of_le (show lo ≤ c by omega) with h | h
  · subst h; simp
  · rw [if_neg (by omega), if_neg (by omega)]
theorem run_slice_l {P : Program} (w : World) (t e : TypeId) (sz : Nat) (ht : P.underlying t = some (.slice e)) (hsz : (P.info? e).map (·.size) = some sz) (A : Option Addr) (n c lo : Nat) (L : Int) (hL : L = (lo : Int)) (h1 : lo ≤ n) (h2 : n ≤ c) :
    (Instr.slice t (.slice A n c) (some (.int .i64 L)) none none).run P w = .ok (.slice (cutA A c lo sz) (n - lo) (c - lo)) w := by
  subst hL
  obtain ⟨i, hi', his⟩ := Option.map_eq_some_iff.1 hsz
  simp [Instr.slice, run_underlying ht, Instr.sliceBounds, Instr.sliceBound, sizeOf, typeInfo, hi', his, cutA, asIntOf, h1]
  rcases Nat.eq_or_lt_of_le (show lo ≤ c by omega) with h | h
  · subst h; simp
  · rw [if_neg (by omega), if_neg (by omega)]
theorem run_slice_h {P : Program} (w : World) (t e : TypeId) (sz : Nat) (ht : P.underlying t = some (.slice e)) (hsz : (P.info? e).map (·.size) = some sz) (A : Option Addr) (n c hi : Nat) (H : Int) (hH : H = (hi : Int)) (h2 : hi ≤ c) :
    (Instr.slice t (.slice A n c) none (some (.int .i64 H)) none).run P w = .ok (.slice A hi c) w := by
  subst hH
  obtain ⟨i, hi', his⟩ := Option.map_eq_some_iff.1 hsz
  simp [Instr.slice, run_underlying ht, Instr.sliceBounds, Instr.sliceBound, sizeOf, typeInfo, hi', asIntOf, h2]
  cases A <;> simp [Addr.add]

/-! ### append in place, at any offset -/
section
variable {P : Program}
theorem run_append_in (w : World) (t ty e : TypeId) (i : TypeInfo) (ht : P.underlying t = some (.slice e)) (hi : P.info? e = some i)
    (b o sLen sCap : Nat) (A : Option Addr) (m c : Nat) (news : List Value) (hl : news.length = m * i.size) (hnews : news ≠ [] → ∃ a, A = some a ∧ ∀ j u, news[j]? = some u → w.cell? (a.add j) = some u) (h1 : ∀ u ∈ news, u.oneCell' = true)
    (hroom : sLen + m ≤ sCap) (hth : w.there b (o + sLen * i.size) news.length) :
    (Builtin.append_ #[t, t] ty #[.slice (some ⟨b, o, none⟩) sLen sCap, .slice A m c]).run P w =
      .ok (.slice (some ⟨b, o, none⟩) (sLen + m) sCap) (w.setCells b (o + sLen * i.size) news) := by
  have hst := run_storeCells_cells (P := P) b (o + sLen * i.size) news 0 w (fun j hj => by simpa using (hth j hj).1) (fun j hj => by simpa using (hth j hj).2) h1
  simp only [Nat.add_zero] at hst
  have hf : (Builtin.firstCells i.size m (.slice A m c)).run P w = .ok news.toArray w := by
    by_cases hn : news = []
    · subst hn
      have hm0 : m * i.size = 0 := by simpa using hl.symm
      cases A with
      | none => exact run_firstCells_none w i.size m m c
      | some a => exact run_firstCells_some w i.size m a m c [] (by simp [hm0]) (by simp)
    · obtain ⟨a, rfl, hc⟩ := hnews hn
      exact run_firstCells_some w i.size m a m c news hl hc
  simp [Builtin.append_, run_underlying ht, sizeOf, typeInfo, hi, Builtin.lenOf, hroom, hf, Addr.add_mid, hst]
theorem wp_append_E {α : Type} (E : El α) {w : World} {op : Oper} {a : Act} {K : Act → World → Prop} {Q : Exit → Act → World → Prop} (s x : Operand) (t : TypeId)
    (ho : op.op = .call { callee := .builtin .append, args := #[s, x], argTypes := #[t, t] }) (e : TypeId) (ht : P.underlying t = some (.slice e)) (hsz : (P.info? e).map (·.size) = some E.sz)
    (b o sLen sCap : Nat) (hs : a.eval s = .slice (some ⟨b, o, none⟩) sLen sCap) (A : Option Addr) (m c : Nat) (hx : a.eval x = .slice A m c) (ys : List α) (hm : ys.length = m) (hy : Sl E w A c ys)
    (hroom : sLen + m ≤ sCap) (hth : w.there b (o + sLen * E.sz) (m * E.sz))
    (h : ∀ w', w' = w.setCells b (o + sLen * E.sz) (E.flat ys) → K (a.put op.dst (.slice (some ⟨b, o, none⟩) (sLen + m) sCap)) w') : op.wp P a w K Q := by
  subst hm
  obtain ⟨i, hi, his⟩ := Option.map_eq_some_iff.1 hsz
  have hr := run_append_in (P := P) w t op.type e i ht hi b o sLen sCap A ys.length c (E.flat ys) (by rw [E.flat_len, his])
    (fun hn => by
      obtain ⟨b', o', hA, hr⟩ := hy.at_ (by intro e; subst e; exact hn rfl)
      exact ⟨_, hA, fun j u hj => by rw [Addr.add_mid]; exact hr j u hj⟩) (E.flat_one ys) hroom (by rw [his, E.flat_len]; exact hth)
  rw [his] at hr
  unfold Oper.wp execOp
  simp only [ho, resolve, invoke, builtin, Sem.run_bind, Sem.run_pure, Result.andThen_ok, List.map_toArray, List.map_cons, List.map_nil, hs, hx, hr]
  exact h _ rfl
theorem wpList_append_E {α : Type} (E : El α) {w : World} {op : Oper} {ops : Array Oper} {rest : List Oper} {a : Act} {Q : Exit → Act → World → Prop} (hgd : op.guard = none) (s x : Operand) (t : TypeId)
    (ho : op.op = .call { callee := .builtin .append, args := #[s, x], argTypes := #[t, t] }) (e : TypeId) (ht : P.underlying t = some (.slice e)) (hsz : (P.info? e).map (·.size) = some E.sz)
    (b o sLen sCap : Nat) (hs : a.eval s = .slice (some ⟨b, o, none⟩) sLen sCap) (A : Option Addr) (m c : Nat) (hx : a.eval x = .slice A m c) (ys : List α) (hm : ys.length = m) (hy : Sl E w A c ys)
    (hroom : sLen + m ≤ sCap) (hth : w.there b (o + sLen * E.sz) (m * E.sz))
    (h : ∀ w', w' = w.setCells b (o + sLen * E.sz) (E.flat ys) → wpList P ops Q rest (a.put op.dst (.slice (some ⟨b, o, none⟩) (sLen + m) sCap)) w') : wpList P ops Q (op :: rest) a w :=
  wpList_plain hgd fun _ hK => wp_append_E E s x t ho e ht hsz b o sLen sCap hs A m c hx ys hm hy hroom hth (fun w' hw' => hK _ _ (h w' hw'))
end
/-- one element in a block of its own -/
theorem Sl.one {α : Type} (E : El α) (w : World) (x : α) (cs : Array Value) (T : Nat) (hc : cs.toList = E.cells x) : Sl E (w.alloc (.cells cs T)) (some ⟨w.heap.size, 0, none⟩) 1 [x] :=
  ⟨Nat.le_refl _, by decide, fun _ => ⟨_, _, rfl, range_alloc_new w cs T _ (fun j v hv => by
    rw [E.flat_cons, E.flat_nil, List.append_nil, ← hc] at hv
    simpa using hv)⟩⟩
end Go.Proofs.YteekndchkgdccaaGreatDoor

/- Slices that may be written and grown: what an append makes of them, in place or in new memory. -/
namespace Go.Proofs.YteekndchkgdccaaGreatDoor
open Go.RowKit

/-- The slice of address A and capacity c reads as xs and may be written up to its capacity. -/
structure Ow {α : Type} (E : El α) (w : World) (A : Option Addr) (c : Nat) (xs : List α) : Prop where
  sl : Sl E w A c xs
  room : 0 < c → ∃ b o, A = some ⟨b, o, none⟩ ∧ w.there b o (c * E.sz)

/-- room for c elements -/
structure Rm {α : Type} (E : El α) (w : World) (A : Option Addr) (c : Nat) : Prop where
  cap : c ≤ 9223372036854775807
  room : 0 < c → ∃ b o, A = some ⟨b, o, none⟩ ∧ w.there b o (c * E.sz)
theorem Ow.rm {α : Type} {E : El α} {w : World} {A : Option Addr} {c : Nat} {xs : List α} (h : Ow E w A c xs) : Rm E w A c := ⟨h.sl.cap, h.room⟩
theorem Rm.keep {α : Type} {E : El α} {w w1 : World} {A : Option Addr} {c : Nat} {S : Nat → Prop} (h : Rm E w A c) (k : Keep S w w1) (hs : ¬ InB S A) : Rm E w1 A c :=
  ⟨h.cap, fun hc => let ⟨b, o, hA, ht⟩ := h.room hc; ⟨b, o, hA, k.there ht (fun hb => hs ⟨_, hA, hb⟩)⟩⟩

/-- A's block is one of S's. -/
def AtB (A : Option Addr) : Nat → Prop := fun k => ∃ a, A = some a ∧ a.block = k

namespace Ow
variable {α : Type} {E : El α} {w w1 : World} {A : Option Addr} {c : Nat} {xs : List α}
theorem keep {S : Nat → Prop} (h : Ow E w A c xs) (k : Keep S w w1) (hs : ¬ InB S A) : Ow E w1 A c xs :=
  ⟨h.sl.keep k hs, fun hc => let ⟨b, o, hA, ht⟩ := h.room hc; ⟨b, o, hA, k.there ht (fun hb => hs ⟨_, hA, hb⟩)⟩⟩
theorem below (h : Ow E w A c xs) (k : Below w.heap.size w w1) : Ow E w1 A c xs := h.keep (Keep.of_below k (fun _ => False)) (fun ⟨_, _, hf⟩ => hf)
theorem nil_ (E : El α) (w : World) (A : Option Addr) : Ow E w A 0 ([] : List α) := ⟨Sl.nil_ E w A (by decide), fun h => absurd h (by decide)⟩
/-- new memory -/
theorem new_ (E : El α) (w : World) (cs : Array Value) (T c : Nat) (xs : List α) (hl : xs.length ≤ c) (hc : c ≤ 9223372036854775807) (hs : cs.size = c * E.sz) (ht : ∀ (j : Nat) (v : Value), (E.flat xs)[j]? = some v → cs[j]? = some v) :
    Ow E (w.alloc (.cells cs T)) (some ⟨w.heap.size, 0, none⟩) c xs :=
  ⟨⟨hl, hc, fun _ => ⟨_, _, rfl, range_alloc_new w cs T _ ht⟩⟩, fun _ => ⟨_, _, rfl, there_alloc_new w cs T _ (by omega)⟩⟩
/-- whose block is the address's? -/
theorem lt (h : Ow E w A c xs) (hc : 0 < c) : ∃ b o, A = some ⟨b, o, none⟩ ∧ b < w.heap.size := by
  obtain ⟨b, o, hA, ht⟩ := h.room hc
  obtain ⟨h1, _⟩ := ht 0 (Nat.mul_pos hc E.pos)
  obtain ⟨u, hu⟩ := Option.isSome_iff_exists.1 h1
  exact ⟨b, o, hA, World.block_lt_of_cell? w _ hu⟩
end Ow

section
variable {P : Program}
theorem firstCells_Sl {α : Type} (E : El α) {w : World} {A : Option Addr} {c : Nat} {ys : List α} (hy : Sl E w A c ys) : (Builtin.firstCells E.sz ys.length (.slice A ys.length c)).run P w = .ok (E.flat ys).toArray w := by
  by_cases hn : ys = []
  · subst hn
    cases A with
    | none => exact run_firstCells_none w E.sz _ _ c
    | some a => exact run_firstCells_some w E.sz _ a _ c [] (by simp) (by simp)
  · obtain ⟨b, o, rfl, hr⟩ := hy.at_ hn
    exact run_firstCells_some w E.sz _ _ _ c _ (E.flat_len ys) (fun j v hv => by rw [Addr.add_mid]; exact hr j v hv)

/-- What an append answers: the value's address and capacity, the world behind it. -/
structure Appended {α : Type} (E : El α) (w : World) (A : Option Addr) (zs : List α) (A' : Option Addr) (c' : Nat) (w' : World) : Prop where
  ow : Ow E w' A' c' zs
  keep : Keep (AtB A) w w'
  lies : ∀ a, A' = some a → (∃ a0, A = some a0 ∧ a0.block = a.block) ∨ (a.block = w.heap.size ∧ w.heap.size < w'.heap.size)

theorem run_append_ow {α : Type} (E : El α) (w : World) (t ty e : TypeId) (z : Value) (bytes : Nat) (ht : P.underlying t = some (.slice e)) (hinfo : (P.info? e).map (fun i => (i.zero, i.size, i.bytes)) = some (some z, E.sz, bytes)) (hz : z.cells.size = E.sz)
    {A A2 : Option Addr} {c c2 : Nat} {xs ys : List α} (hx : Ow E w A c xs) (hy : Sl E w A2 c2 ys) (hb : (xs.length + ys.length) * bytes ≤ 140737488355328) (h63 : xs.length + ys.length ≤ 9223372036854775807) :
    ∃ A' c' w', (Builtin.append_ #[t, t] ty #[.slice A xs.length c, .slice A2 ys.length c2]).run P w = .ok (.slice A' (xs.length + ys.length) c') w' ∧ Appended E w A (xs ++ ys) A' c' w' := by
  obtain ⟨i, hi, hz0, hsz, hby⟩ := info_parts hinfo
  by_cases hroom : xs.length + ys.length ≤ c
  · by_cases hc : 0 < c
    · obtain ⟨b, o, rfl, hth⟩ := hx.room hc
      have hthn : w.there b (o + xs.length * E.sz) (ys.length * E.sz) := there_sub hth (by omega) (by rw [Nat.add_assoc, ← Nat.add_mul]; exact Nat.add_le_add_left (Nat.mul_le_mul_right _ hroom) _)
      refine ⟨some ⟨b, o, none⟩, c, w.setCells b (o + xs.length * E.sz) (E.flat ys), ?_, ⟨⟨⟨by rw [List.length_append]; exact hroom, hx.sl.cap, fun _ => ⟨b, o, rfl, ?_⟩⟩, fun _ => ⟨b, o, rfl, World.there_setCells hth _ _ _⟩⟩, ?_, fun a ha => .inl ⟨a, ha, rfl⟩⟩⟩
      · have hr := run_append_in (P := P) w t ty e i ht hi b o xs.length c A2 ys.length c2 (E.flat ys) (by rw [E.flat_len, hsz])
          (fun hn => by
            obtain ⟨b', o', hA, hr⟩ := hy.at_ (by intro e; subst e; exact hn rfl)
            exact ⟨_, hA, fun j u hj => by rw [Addr.add_mid]; exact hr j u hj⟩) (E.flat_one ys) hroom (by rw [hsz, E.flat_len]; exact hthn)
        rw [hsz] at hr
        exact hr
      · rw [E.flat_app, range_app, E.flat_len]
        refine ⟨?_, World.rangeAt_setCells_same _ _ _ _ (by rw [E.flat_len]; exact hthn)⟩
        by_cases hn : xs = []
        · subst hn; exact range_nil _ _ _
        · obtain ⟨b', o', hA, hr⟩ := hx.sl.at_ hn
          simp only [Option.some.injEq, Addr.mk.injEq, and_true] at hA
          obtain ⟨rfl, rfl⟩ := hA
          exact World.rangeAt_setCells_apart hr _ _ _ (.inr (.inl (by rw [E.flat_len]; omega)))
      · exact (Keep.refl _ w).setCells _ _ (fun _ => ⟨_, rfl, rfl⟩)
    · have hx0 : xs = [] := List.eq_nil_of_length_eq_zero (by omega)
      have hy0 : ys = [] := List.eq_nil_of_length_eq_zero (by omega)
      have hc0 : c = 0 := by omega
      subst hx0; subst hy0; subst hc0
      refine ⟨A, 0, w, ?_, ⟨⟨⟨by simp, by omega, fun h => absurd rfl h⟩, fun h => absurd h (by omega)⟩, Keep.refl _ _, fun a ha => .inl ⟨a, ha, rfl⟩⟩⟩
      have hf := firstCells_Sl (P := P) E hy
      cases A <;> simp [Builtin.append_, run_underlying ht, sizeOf, typeInfo, hi, Builtin.lenOf, hsz, El.flat_nil] at hf ⊢ <;> simp [hf, storeCells]
  · have hge := grownCap_ge w (xs.length + ys.length) c e
    have hcm : grownCap w (xs.length + ys.length) c e ≤ 9223372036854775807 := by
      have := grownCap_le_maxLen w (xs.length + ys.length) c e (by unfold maxLen; omega)
      unfold maxLen at this; omega
    have hn : ¬ (xs.length + ys.length ≤ c) := hroom
    have h63' : ¬ (9223372036854775807 < ((xs.length : Int) + (ys.length : Int))) := by omega
    have hfit := growslice_fits (bytes := bytes) (show c < xs.length + ys.length by omega) hb
    have h48' : ¬ (281474976710656 < Builtin.nextslicecap (xs.length + ys.length) c * i.bytes) := by rw [hby]; omega
    have hk : Keep (fun _ => False) w w.drew := (Keep.refl _ w).drew
    have hf := firstCells_Sl (P := P) E (hy.keep hk (fun ⟨_, _, h⟩ => h))
    have hfo := firstCells_Sl (P := P) E (hx.sl.keep hk (fun ⟨_, _, h⟩ => h))
    refine ⟨some ⟨w.heap.size, 0, none⟩, grownCap w (xs.length + ys.length) c e, w.drew.alloc (.cells ((E.flat (xs ++ ys)).toArray ++ Builtin.zeroCells z.cells (grownCap w (xs.length + ys.length) c e - (xs.length + ys.length))) e), ?_, ⟨?_, ?_, ?_⟩⟩
    · simp [Builtin.append_, run_underlying ht, sizeOf, typeInfo, zeroValue, hi, hz0, hsz, Builtin.lenOf, hn, h63', h48', Question.forced, hf, hfo, newRow, grownCap, El.flat_app]
      congr 2
      apply Array.ext'
      simp [List.append_assoc]
    · refine Ow.new_ E w.drew _ e _ _ (by rw [List.length_append]; exact hge) hcm ?_ ?_
      · rw [Array.size_append, List.size_toArray, E.flat_len, size_zeroCells, hz, List.length_append, ← Nat.add_mul]
        congr 1; omega
      · intro j v hj
        have hjl := (List.getElem?_eq_some_iff.1 hj).1
        rw [Array.getElem?_append_left (by simpa using hjl)]
        simpa using hj
    · exact ((Keep.refl _ w).drew).alloc _
    · intro a ha
      simp only [Option.some.injEq] at ha
      subst ha
      exact .inr ⟨rfl, by simp⟩

theorem wp_append_ow {α : Type} (E : El α) {w : World} {op : Oper} {a : Act} {K : Act → World → Prop} {Q : Exit → Act → World → Prop} (s x : Operand) (t : TypeId)
    (ho : op.op = .call { callee := .builtin .append, args := #[s, x], argTypes := #[t, t] }) (e : TypeId) (z : Value) (bytes : Nat) (ht : P.underlying t = some (.slice e)) (hinfo : (P.info? e).map (fun i => (i.zero, i.size, i.bytes)) = some (some z, E.sz, bytes)) (hz : z.cells.size = E.sz)
    (A : Option Addr) (n c : Nat) (hs : a.eval s = .slice A n c) (xs : List α) (hn : xs.length = n) (hxs : Ow E w A c xs) (A2 : Option Addr) (m c2 : Nat) (hx : a.eval x = .slice A2 m c2) (ys : List α) (hm : ys.length = m) (hys : Sl E w A2 c2 ys)
    (hb : (n + m) * bytes ≤ 140737488355328) (h63 : n + m ≤ 9223372036854775807)
    (h : ∀ A' c' w', Appended E w A (xs ++ ys) A' c' w' → K (a.put op.dst (.slice A' (n + m) c')) w') : op.wp P a w K Q := by
  subst hn; subst hm
  obtain ⟨A', c', w', hr, hap⟩ := run_append_ow (P := P) E w t op.type e z bytes ht hinfo hz hxs hys hb h63
  unfold Oper.wp execOp
  simp only [ho, resolve, invoke, builtin, Sem.run_bind, Sem.run_pure, Result.andThen_ok, List.map_toArray, List.map_cons, List.map_nil, hs, hx, hr]
  exact h _ _ _ hap
theorem wpList_append_ow {α : Type} (E : El α) {w : World} {op : Oper} {ops : Array Oper} {rest : List Oper} {a : Act} {Q : Exit → Act → World → Prop} (hgd : op.guard = none) (s x : Operand) (t : TypeId)
    (ho : op.op = .call { callee := .builtin .append, args := #[s, x], argTypes := #[t, t] }) (e : TypeId) (z : Value) (bytes : Nat) (ht : P.underlying t = some (.slice e)) (hinfo : (P.info? e).map (fun i => (i.zero, i.size, i.bytes)) = some (some z, E.sz, bytes)) (hz : z.cells.size = E.sz)
    (A : Option Addr) (n c : Nat) (hs : a.eval s = .slice A n c) (xs : List α) (hn : xs.length = n) (hxs : Ow E w A c xs) (A2 : Option Addr) (m c2 : Nat) (hx : a.eval x = .slice A2 m c2) (ys : List α) (hm : ys.length = m) (hys : Sl E w A2 c2 ys)
    (hb : (n + m) * bytes ≤ 140737488355328) (h63 : n + m ≤ 9223372036854775807)
    (h : ∀ A' c' w', Appended E w A (xs ++ ys) A' c' w' → wpList P ops Q rest (a.put op.dst (.slice A' (n + m) c')) w') : wpList P ops Q (op :: rest) a w :=
  wpList_plain hgd fun _ hK => wp_append_ow E s x t ho e z bytes ht hinfo hz A n c hs xs hn hxs A2 m c2 hx ys hm hys hb h63 (fun A' c' w' h' => hK _ _ (h A' c' w' h'))

/-! ### make -/
theorem flat_rep_get {α : Type} (E : El α) (x : α) : ∀ (l j : Nat), j < l * E.sz → (E.flat (List.replicate l x))[j]? = (E.cells x)[j % E.sz]?
  | 0, j, h => by simp at h
  | l + 1, j, h => by
    rw [List.replicate_succ, El.flat_cons]
    have hp := E.pos
    by_cases hj : j < E.sz
    · rw [List.getElem?_append_left (by rw [E.len]; exact hj), Nat.mod_eq_of_lt hj]
    · rw [List.getElem?_append_right (by rw [E.len]; omega), E.len, flat_rep_get E x l (j - E.sz) (by rw [Nat.add_mul] at h; omega), Nat.mod_eq_sub_mod (by omega : j ≥ E.sz)]
theorem ow_made {α : Type} (E : El α) (w : World) (e : TypeId) (z : Value) (x : α) (hz : z.cells.toList = E.cells x) (l c : Nat) (hl : l ≤ c) (hc : c ≤ 9223372036854775807) :
    Ow E (w.alloc (.cells (madeCells z.cells (c * E.sz)) e)) (some ⟨w.heap.size, 0, none⟩) c (List.replicate l x) := by
  refine Ow.new_ E w _ e c _ (by simpa using hl) hc (size_madeCells _ _) (fun j v hj => ?_)
  have hjl := (List.getElem?_eq_some_iff.1 hj).1
  rw [E.flat_len, List.length_replicate] at hjl
  rw [flat_rep_get E x l j hjl, ← hz] at hj
  have hsz : z.cells.size = E.sz := by rw [← Array.length_toList, hz, E.len]
  have hlt : j < c * E.sz := Nat.lt_of_lt_of_le hjl (Nat.mul_le_mul_right _ hl)
  have hm : j % E.sz < z.cells.size := by rw [hsz]; exact Nat.mod_lt _ E.pos
  simp only [madeCells, Array.getElem?_map, Array.getElem?_range, hlt, if_true, Option.map_some]
  rw [hsz, ← hj, Array.getElem?_toList, getElem!_pos z.cells _ hm, Array.getElem?_eq_getElem hm]
theorem rm_made {α : Type} (E : El α) (w : World) (e : TypeId) (z : Value) (c : Nat) (hc : c ≤ 9223372036854775807) :
    Rm E (w.alloc (.cells (madeCells z.cells (c * E.sz)) e)) (some ⟨w.heap.size, 0, none⟩) c :=
  ⟨hc, fun _ => ⟨_, _, rfl, there_alloc_new w _ e _ (by rw [size_madeCells]; exact Nat.le_refl _)⟩⟩
theorem wpList_make_E {α : Type} (E : El α) {w : World} {op : Oper} {ops : Array Oper} {rest : List Oper} {a : Act} {Q : Exit → Act → World → Prop} (hgd : op.guard = none) (lo co : Operand) (t : TypeId)
    (ho : op.op = .makeSlice t lo co) (e : TypeId) (z : Value) (bytes : Nat) (ht : P.underlying t = some (.slice e)) (hinfo : (P.info? e).map (fun i => (i.zero, i.size, i.bytes)) = some (some z, E.sz, bytes)) 
    (l c : Nat) (L C : Int) (hlo : a.eval lo = .int .i64 L) (hL : L = (l : Int)) (hco : a.eval co = .int .i64 C) (hC : C = (c : Int)) (hlc : l ≤ c) (hb : bytes * c ≤ 281474976710656) (h63 : c ≤ 9223372036854775807)
    (h : ∀ w', Hid (w' = w.alloc (.cells (madeCells z.cells (c * E.sz)) e)) → wpList P ops Q rest (a.put op.dst (.slice (some ⟨w.heap.size, 0, none⟩) l c)) w') : wpList P ops Q (op :: rest) a w := by
  refine wpList_plain hgd fun K hK' => ?_
  obtain ⟨i, hi, hz0, hsz, hby⟩ := info_parts hinfo
  subst hL; subst hC
  have hb' : (i.bytes : Int) * (c : Int) ≤ 281474976710656 := by
    have h : ((i.bytes * c : Nat) : Int) ≤ 281474976710656 := by rw [hby]; omega
    rwa [Int.natCast_mul] at h
  have hr := run_make (P := P) w t e i z ht hi hz0 .i64 .i64 l c (by omega) (by omega) hb' (by omega)
  simp only [Int.toNat_natCast, hsz] at hr
  unfold Oper.wp
  simp only [execOp, ho, hlo, hco, Sem.run_bind, hr, Result.andThen_ok, Sem.run_pure]
  exact hK' _ _ (h _ rfl)
end
end Go.Proofs.YteekndchkgdccaaGreatDoor

/- What packread.Read answers, in plain Lean: values, texts' encodings, items. -/
namespace Go.Proofs.YteekndchkgdccaaGreatDoor

/-- a value, its kind by number -/
inductive V where
  | mk (kind n : Nat) (neg : Bool) (mag : List Nat) (bits : Nat) (ext : Int) (text : ByteArray) (kids : List V)

def V.nul : V := .mk 1 0 false [] 0 0 ⟨#[]⟩ []
def V.boo (n : Nat) : V := .mk 2 n false [] 0 0 ⟨#[]⟩ []
def V.int (neg : Bool) (mag : List Nat) : V := .mk 3 0 neg mag 0 0 ⟨#[]⟩ []
def V.flo (bits : Nat) : V := .mk 4 0 false [] bits 0 ⟨#[]⟩ []
def V.tex (t : ByteArray) : V := .mk 5 0 false [] 0 0 t []
def V.byt (t : ByteArray) : V := .mk 6 0 false [] 0 0 t []
def V.lis (l : List V) : V := .mk 7 0 false [] 0 0 ⟨#[]⟩ l
def V.map (l : List V) : V := .mk 8 0 false [] 0 0 ⟨#[]⟩ l
def V.xt (e : Int) (t : ByteArray) : V := .mk 11 0 false [] 0 e t []

/-- a text's bytes as numbers -/
def bl (s : ByteArray) : List Nat := s.data.toList.map (·.toNat)

/-! ### code points -/
def pointN (r : Nat) : Bool := decide (r ≤ 0x10ffff) && (decide (r < 0xd800) || decide (0xdfff < r))
/-- so many bytes more that go on -/
def contN : List Nat → Nat → Nat → Option Nat
  | _, 0, r => some r
  | [], _ + 1, _ => none
  | b :: l, n + 1, r => if b / 64 = 2 then contN l n (r * 64 + b % 64) else none
/-- the code point at the list's head, and how many bytes it has -/
def utfN (l : List Nat) : Option (Nat × Nat) :=
  match l with
  | [] => none
  | c :: l =>
    if c < 0x80 then some (c, 1)
    else if c / 32 = 6 then (contN l 1 (c % 32)).bind fun r => if 0x80 ≤ r ∧ pointN r = true then some (r, 2) else none
    else if c / 16 = 14 then (contN l 2 (c % 16)).bind fun r => if 0x800 ≤ r ∧ pointN r = true then some (r, 3) else none
    else if c / 8 = 30 then (contN l 3 (c % 8)).bind fun r => if 0x10000 ≤ r ∧ pointN r = true then some (r, 4) else none
    else none
/-- how many bytes it has -/
def utfK (l : List Nat) : Option Nat := (utfN l).map (·.2)

/-- of how many bytes an encoding is that a byte begins -/
def leadK (b : Nat) : Option Nat :=
  if b < 0x80 then some 1 else if 0xc2 ≤ b ∧ b < 0xe0 then some 2 else if 0xe0 ≤ b ∧ b < 0xf0 then some 3 else if 0xf0 ≤ b ∧ b < 0xf5 then some 4 else none
/-- does some encoding of k bytes begin with these, by packread's tries? -/
def goodN (l : List Nat) (k : Nat) : Bool := utfK l == some k || utfK (l ++ [0x80]) == some k || utfK (l ++ [0x80, 0x80]) == some k
/-- the first i, from one on, up to k and the length, with which none goes on -/
def withinN (l : List Nat) (k : Nat) : Nat → Nat → Option Nat
  | 0, _ => none
  | n + 1, i => if i < k ∧ i < l.length then if goodN (l.take (i + 1)) k then withinN l k n (i + 1) else some i else none
/-- where no encoding stands: the first wrong byte within n -/
def firstN (l : List Nat) (n : Nat) : Option Nat :=
  match l with
  | [] => some 0
  | b :: _ => match leadK b with
    | none => some 0
    | some k => if n < k then some 0 else withinN l k 4 1
/-- a text's first wrong byte; n: how much it has room; the first number: fuel -/
def scanN : Nat → List Nat → Nat → Option Nat
  | 0, _, _ => none
  | m + 1, l, n => match l with
    | [] => none
    | _ => match utfK l with
      | some k => (scanN m (l.drop k) (n - k)).map (· + k)
      | none => firstN l n

/-! ### items -/
inductive R (α : Type) where
  | ok (v : α) (at_ : Nat)
  | bad (code at_ : Nat)

namespace R
def bind {α β : Type} (r : R α) (f : α → Nat → R β) : R β := match r with
  | .ok v p => f v p
  | .bad c p => .bad c p
end R

def takeR (s : ByteArray) (at_ n : Nat) : R ByteArray := if s.size - at_ < n then .bad 3 s.size else .ok (s.extract at_ (at_ + n)) (at_ + n)
def beN (l : List Nat) : Nat := l.foldl (fun x b => x * 256 + b) 0

inductive Fam where
  | whole | pairs | list | text | below | word | bytes | ext | single | double | signed

/-- the family of a first byte: how it is read, of how much, how many bytes tell that -/
def pickN (c : Nat) : Option (Fam × Nat × Nat) :=
  if c < 0x80 then some (.whole, c, 0)
  else if c < 0x90 then some (.pairs, c % 16, 0)
  else if c < 0xa0 then some (.list, c % 16, 0)
  else if c < 0xc0 then some (.text, c % 32, 0)
  else if 0xe0 ≤ c then some (.below, 256 - c, 0)
  else match c with
    | 0xc0 => some (.word, 0, 0)
    | 0xc2 => some (.word, 1, 0)
    | 0xc3 => some (.word, 2, 0)
    | 0xc4 => some (.bytes, 0, 1)
    | 0xc5 => some (.bytes, 0, 2)
    | 0xc6 => some (.bytes, 0, 4)
    | 0xc7 => some (.ext, 0, 1)
    | 0xc8 => some (.ext, 0, 2)
    | 0xc9 => some (.ext, 0, 4)
    | 0xca => some (.single, 0, 4)
    | 0xcb => some (.double, 0, 8)
    | 0xcc => some (.whole, 0, 1)
    | 0xcd => some (.whole, 0, 2)
    | 0xce => some (.whole, 0, 4)
    | 0xcf => some (.whole, 0, 8)
    | 0xd0 => some (.signed, 1, 0)
    | 0xd1 => some (.signed, 2, 0)
    | 0xd2 => some (.signed, 4, 0)
    | 0xd3 => some (.signed, 8, 0)
    | 0xd4 => some (.ext, 1, 0)
    | 0xd5 => some (.ext, 2, 0)
    | 0xd6 => some (.ext, 4, 0)
    | 0xd7 => some (.ext, 8, 0)
    | 0xd8 => some (.ext, 16, 0)
    | 0xd9 => some (.text, 0, 1)
    | 0xda => some (.text, 0, 2)
    | 0xdb => some (.text, 0, 4)
    | 0xdc => some (.list, 0, 2)
    | 0xdd => some (.list, 0, 4)
    | 0xde => some (.pairs, 0, 2)
    | 0xdf => some (.pairs, 0, 4)
    | _ => none

/-- The words on which a reading stands: what a pattern of 32, of 64 bits is; what bytes are in two's complement; how values stand to one another. -/
structure Words where
  single : Nat → V
  double : Nat → V
  whole : Nat → V
  below : Nat → V
  twos : ByteArray → V
  cmp : V → V → Int

variable (D : Words)

/-- behind how many pairs a key goes in: told from the end -/
def placeN (acc : List V) (key : V) : Nat → Nat
  | 0 => 0
  | m + 1 => if 0 ≤ D.cmp (acc.getD (2 * m) V.nul) key then placeN acc key m else m + 1
def insN (acc : List V) (m : Nat) (key x : V) : List V := acc.take (2 * m) ++ key :: x :: acc.drop (2 * m)
def dupN (acc : List V) (m : Nat) (key : V) : Bool := decide (2 * m < acc.length) && decide (D.cmp (acc.getD (2 * m) V.nul) key = 0)
def roundsN (it : Nat → R V) : Nat → Nat → List V → R (List V)
  | 0, p, acc => .ok acc p
  | n + 1, p, acc => (it p).bind fun v p' => roundsN it n p' (acc ++ [v])
def pairsN (it : Nat → R V) : Nat → Nat → List V → R (List V)
  | 0, p, acc => .ok acc p
  | n + 1, p, acc => (it p).bind fun key p1 =>
    if dupN D acc (placeN D acc key (acc.length / 2)) key = true then .bad 3 p
    else (it p1).bind fun x p2 => pairsN it n p2 (insN acc (placeN D acc key (acc.length / 2)) key x)
/-- a text of n bytes -/
def textR (s : ByteArray) (p n : Nat) : R ByteArray :=
  match scanN (s.size - p) (bl (s.extract p (p + min n (s.size - p)))) n with
  | some i => .bad 3 (p + i)
  | none => takeR s p n
/-- behind the head: what is read of a family; from: where the item begins -/
def famR (s : ByteArray) (inner : Option (Nat → R V)) (from_ : Nat) (f : Fam) (n p : Nat) : R V :=
  match f with
  | .word => .ok (if n = 0 then V.nul else V.boo (n - 1)) p
  | .whole => .ok (D.whole n) p
  | .below => .ok (D.below n) p
  | .single => .ok (D.single n) p
  | .double => .ok (D.double n) p
  | .signed => (takeR s p n).bind fun t p' => .ok (D.twos t) p'
  | .bytes => (takeR s p n).bind fun t p' => .ok (V.byt t) p'
  | .ext => (takeR s p 1).bind fun e p1 => (takeR s p1 n).bind fun t p2 => .ok (V.xt (let c := (bl e).headD 0; if c < 128 then c else (c : Int) - 256) t) p2
  | .text => (textR s p n).bind fun t p' => .ok (V.tex t) p'
  | .list => match inner with
    | none => .bad 5 from_
    | some it => (roundsN it n p []).bind fun l p' => .ok (V.lis l) p'
  | .pairs => match inner with
    | none => .bad 5 from_
    | some it => (pairsN D it n p []).bind fun l p' => .ok (V.map l) p'
def itemF (s : ByteArray) (inner : Option (Nat → R V)) (p : Nat) : R V :=
  (takeR s p 1).bind fun t p1 => match pickN ((bl t).headD 0) with
    | none => .bad 3 p
    | some (f, n, w) =>
      if w = 0 then famR D s inner p f n p1
      else (takeR s p1 w).bind fun t p2 => famR D s inner p f (beN (bl t)) p2
/-- an item at a place, so many containers more may be open -/
def itemN (s : ByteArray) : Nat → Nat → R V
  | 0, p => itemF D s none p
  | d + 1, p => itemF D s (some (itemN s d)) p
def readN (s : ByteArray) : R V := (itemN D s 128 0).bind fun v p => if p < s.size then .bad 3 p else .ok v p
end Go.Proofs.YteekndchkgdccaaGreatDoor

/- Values in memory: rows of eight cells, their limbs and kids; errors with a place; the package's variables. -/
namespace Go.Proofs.YteekndchkgdccaaGreatDoor
open Go.RowKit

/-- a limb -/
def EU : El Nat where
  sz := 1
  pos := by decide
  cells := fun x => [.int .u32 (x : Int)]
  len := fun _ => rfl
  one := fun x v h => by simp at h; subst h; rfl
  val := fun x => .int .u32 (x : Int)

/-- an api.Value's cells -/
structure Raw where
  kind : Nat
  n : Nat
  neg : Bool
  mA : Option Addr
  mL : Nat
  mC : Nat
  bits : Nat
  ext : Int
  text : ByteArray
  kA : Option Addr
  kL : Nat
  kC : Nat

def ER : El Raw where
  sz := 8
  pos := by decide
  cells := fun r => [.int .i8 (r.kind : Int), .int .u64 (r.n : Int), .bool r.neg, .slice r.mA r.mL r.mC, .int .u64 (r.bits : Int), .int .i8 r.ext, .string r.text, .slice r.kA r.kL r.kC]
  len := fun _ => rfl
  one := fun x v h => by simp at h; rcases h with rfl | rfl | rfl | rfl | rfl | rfl | rfl | rfl <;> rfl
  val := fun r => .agg #[.int .i8 (r.kind : Int), .int .u64 (r.n : Int), .bool r.neg, .slice r.mA r.mL r.mC, .int .u64 (r.bits : Int), .int .i8 r.ext, .string r.text, .slice r.kA r.kL r.kC]

def Raw.zero : Raw := ⟨0, 0, false, none, 0, 0, 0, 0, ⟨#[]⟩, none, 0, 0⟩

/-- the slice lies in blocks of D, if it has elements -/
def Lies {α : Type} (D : Nat → Prop) (A : Option Addr) (l : List α) : Prop := l ≠ [] → InB D A

mutual
/-- The cells r are those of the value; what hangs on them lies in blocks of D. -/
def Tr (W : World) (D : Nat → Prop) (r : Raw) : V → Prop
  | .mk k n neg mag bits ext text kids => r.kind = k ∧ r.n = n ∧ r.neg = neg ∧ r.bits = bits ∧ r.ext = ext ∧ r.text = text ∧
      (r.mL = mag.length ∧ Sl EU W r.mA r.mC mag ∧ Lies D r.mA mag) ∧
      ∃ rs : List Raw, r.kL = rs.length ∧ Sl ER W r.kA r.kC rs ∧ Lies D r.kA rs ∧ TrL W D rs kids
def TrL (W : World) (D : Nat → Prop) : List Raw → List V → Prop
  | [], [] => True
  | r :: rs, v :: vs => Tr W D r v ∧ TrL W D rs vs
  | _, _ => False
end

theorem Sl.keepD {α : Type} {E : El α} {W W' : World} {A : Option Addr} {c : Nat} {l : List α} {S D : Nat → Prop} (h : Sl E W A c l) (k : Keep S W W') (hl : Lies D A l) (hs : ∀ b, D b → ¬ S b) : Sl E W' A c l := by
  by_cases hn : l = []
  · subst hn
    exact ⟨h.le, h.cap, fun hx => absurd rfl hx⟩
  · exact h.keep k (fun ⟨a, ha, hS⟩ => by
      obtain ⟨a', ha', hD⟩ := hl hn
      rw [ha] at ha'
      cases ha'
      exact hs _ hD hS)
theorem Lies.mono {α : Type} {E : El α} {W : World} {A : Option Addr} {c : Nat} {l : List α} {D D' : Nat → Prop} (h : Lies D A l) (hs : Sl E W A c l) (hd : ∀ b, b < W.heap.size → D b → D' b) : Lies D' A l := fun hn => by
  obtain ⟨a, ha, hD⟩ := h hn
  refine ⟨a, ha, hd _ ?_ hD⟩
  obtain ⟨b, o, hA, hr⟩ := hs.at_ hn
  rw [ha] at hA
  cases hA
  have hp : 0 < (E.flat l).length := by
    rw [E.flat_len]
    exact Nat.mul_pos (List.length_pos_iff.2 hn) E.pos
  exact World.block_lt_of_cell? W ⟨b, o + 0, none⟩ (hr 0 _ (List.getElem?_eq_getElem hp))

mutual
theorem Tr.keep {W W' : World} {S D : Nat → Prop} (k : Keep S W W') (hs : ∀ b, D b → ¬ S b) : ∀ (v : V) (r : Raw), Tr W D r v → Tr W' D r v
  | .mk kind n neg mag bits ext text kids, r, h => by
    obtain ⟨h1, h2, h3, h4, h5, h6, ⟨h7, h8, h9⟩, rs, g1, g2, g3, g4⟩ := h
    exact ⟨h1, h2, h3, h4, h5, h6, ⟨h7, h8.keepD k h9 hs, h9⟩, rs, g1, g2.keepD k g3 hs, g3, TrL.keep k hs kids rs g4⟩
theorem TrL.keep {W W' : World} {S D : Nat → Prop} (k : Keep S W W') (hs : ∀ b, D b → ¬ S b) : ∀ (vs : List V) (rs : List Raw), TrL W D rs vs → TrL W' D rs vs
  | [], [], _ => trivial
  | v :: vs, r :: rs, h => ⟨Tr.keep k hs v r h.1, TrL.keep k hs vs rs h.2⟩
  | [], _ :: _, h => h
  | _ :: _, [], h => h
end
mutual
theorem Tr.mono {W : World} {D D' : Nat → Prop} (hd : ∀ b, b < W.heap.size → D b → D' b) : ∀ (v : V) (r : Raw), Tr W D r v → Tr W D' r v
  | .mk kind n neg mag bits ext text kids, r, h => by
    obtain ⟨h1, h2, h3, h4, h5, h6, ⟨h7, h8, h9⟩, rs, g1, g2, g3, g4⟩ := h
    exact ⟨h1, h2, h3, h4, h5, h6, ⟨h7, h8, h9.mono h8 hd⟩, rs, g1, g2, g3.mono g2 hd, TrL.mono hd kids rs g4⟩
theorem TrL.mono {W : World} {D D' : Nat → Prop} (hd : ∀ b, b < W.heap.size → D b → D' b) : ∀ (vs : List V) (rs : List Raw), TrL W D rs vs → TrL W D' rs vs
  | [], [], _ => trivial
  | v :: vs, r :: rs, h => ⟨Tr.mono hd v r h.1, TrL.mono hd vs rs h.2⟩
  | [], _ :: _, h => h
  | _ :: _, [], h => h
end
theorem TrL.len {W : World} {D : Nat → Prop} : ∀ {rs : List Raw} {vs : List V}, TrL W D rs vs → rs.length = vs.length
  | [], [], _ => rfl
  | _ :: _, _ :: _, h => by simp [TrL.len h.2]
  | [], _ :: _, h => h.elim
  | _ :: _, [], h => h.elim
theorem TrL.get {W : World} {D : Nat → Prop} : ∀ {rs : List Raw} {vs : List V} (_ : TrL W D rs vs) (i : Nat) (h1 : i < rs.length) (h2 : i < vs.length), Tr W D rs[i] vs[i]
  | _ :: _, _ :: _, h, 0, _, _ => h.1
  | _ :: _, _ :: _, h, i + 1, h1, h2 => TrL.get h.2 i (by simpa using h1) (by simpa using h2)
  | [], [], _, _, h1, _ => absurd h1 (by simp)
  | [], _ :: _, h, _, _, _ => h.elim
  | _ :: _, [], h, _, _, _ => h.elim
theorem TrL.app {W : World} {D : Nat → Prop} : ∀ {rs rs' : List Raw} {vs vs' : List V}, TrL W D rs vs → TrL W D rs' vs' → TrL W D (rs ++ rs') (vs ++ vs')
  | [], _, [], _, _, h' => h'
  | _ :: _, _, _ :: _, _, h, h' => ⟨h.1, TrL.app h.2 h'⟩
  | [], _, _ :: _, _, h, _ => h.elim
  | _ :: _, _, [], _, h, _ => h.elim
theorem TrL.take {W : World} {D : Nat → Prop} : ∀ {rs : List Raw} {vs : List V} (_ : TrL W D rs vs) (n : Nat), TrL W D (rs.take n) (vs.take n)
  | _, _, _, 0 => by simp [TrL]
  | [], [], _, _ + 1 => trivial
  | _ :: _, _ :: _, h, n + 1 => ⟨h.1, TrL.take h.2 n⟩
  | [], _ :: _, h, _ + 1 => h.elim
  | _ :: _, [], h, _ + 1 => h.elim
theorem TrL.drop {W : World} {D : Nat → Prop} : ∀ {rs : List Raw} {vs : List V} (_ : TrL W D rs vs) (n : Nat), TrL W D (rs.drop n) (vs.drop n)
  | _, _, h, 0 => h
  | [], [], _, _ + 1 => trivial
  | _ :: _, _ :: _, h, n + 1 => TrL.drop h.2 n
  | [], _ :: _, h, _ + 1 => h.elim
  | _ :: _, [], h, _ + 1 => h.elim
end Go.Proofs.YteekndchkgdccaaGreatDoor

/- packread's reader: what stands in it, its errors, the bytes that it takes. -/
namespace Go.Proofs.YteekndchkgdccaaGreatDoor
open Go.RowKit

def nob : Nat → Prop := fun _ => False
/-- the block of the error of a number -/
def gerr : Nat → Nat
  | 1 => 0 | 2 => 1 | 3 => 2 | 4 => 3 | 5 => 4 | 6 => 5 | 7 => 6 | 8 => 7 | 9 => 8 | 10 => 9 | _ => 10
/-- the error of a number -/
def sent (sa : Nat → Addr) (c : Nat) : Value := .iface 194 (.pointer (some (sa c)))
/-- the table of math/bits, the shapes of ieee -/
def tzL : List Nat := [0, 1, 56, 2, 57, 49, 28, 3, 61, 58, 42, 50, 38, 29, 17, 4, 62, 47, 59, 36, 45, 43, 51, 22, 53, 39, 33, 30, 24, 18, 12, 5, 63, 55, 48, 27, 60, 41, 37, 16, 46, 35, 44, 21, 52, 32, 23, 11, 54, 26, 40, 15, 34, 20, 31, 10, 25, 14, 19, 9, 13, 8, 7, 6]
def shL : List Int := [10, -24, 5, 23, -149, 8, 52, -1074, 11]
/-- the kinds of typed's table -/
def kdL : List Nat := [1, 2, 3, 4, 1, 66, 67, 68, 5, 6, 7, 8, 0, 70, 71, 72, 9, 10, 11, 0, 73, 74, 75]
theorem _root_.Go.Lib.TabIs.keep {S : Nat → Prop} {W W' : World} (h : Lib.TabIs Tryz.prog W "internal/strconv.uint64pow10" .u64 Lib.pow10Tab) (k : Keep S W W') (hs : ¬ S 15) (hl : 15 < W.heap.size) : Lib.TabIs Tryz.prog W' "internal/strconv.uint64pow10" .u64 Lib.pow10Tab := by
  unfold Lib.TabIs World.var? at h ⊢
  rw [show Tryz.prog.globalNamed "internal/strconv.uint64pow10" = some 15 by kernel_rfl] at h ⊢
  simp only [Option.bind_some] at h ⊢
  rw [k.block _ hl hs]
  exact h
/-- The package's variables hold what they were laid with; all that is theirs lies below B. -/
structure GL (B : Nat) (sa : Nat → Addr) (W : World) : Prop where
  le : B ≤ W.heap.size
  lt : 16 ≤ B
  err : ∀ c, 1 ≤ c → c ≤ 11 → W.cell? ⟨gerr c, 0, none⟩ = some (sent sa c)
  sen : ∀ c, 1 ≤ c → c ≤ 11 → (sa c).block < B ∧ ∃ ca ta, W.heap[(sa c).block]? = some (.cells ca ta (0, 0))
  inj : ∀ c c', 1 ≤ c → c ≤ 11 → 1 ≤ c' → c' ≤ 11 → sa c = sa c' → c = c'
  tz : ∀ i, i < 64 → W.cell? ⟨14, i, none⟩ = some (.int .u8 (tzL.getD i 0 : Nat))
  sh : ∀ i, i < 9 → W.cell? ⟨13, i, none⟩ = some (.int .i64 (shL.getD i 0))
  kd : ∀ i, i < 23 → W.cell? ⟨11, i, none⟩ = some (.int .i8 (kdL.getD i 0 : Nat))
  pw : Lib.TabIs Tryz.prog W "internal/strconv.uint64pow10" .u64 Lib.pow10Tab
theorem gerr_lt (c : Nat) : gerr c < 16 := by unfold gerr; split <;> decide
theorem GL.keep {B : Nat} {sa : Nat → Addr} {W W' : World} {S : Nat → Prop} (h : GL B sa W) (k : Keep S W W') (hs : ∀ b, S b → B ≤ b) : GL B sa W' := by
  have hc : ∀ a v, a.block < 16 → W.cell? a = some v → W'.cell? a = some v := fun a v ha hv => k.cell hv (fun hS => by have := hs _ hS; have := h.lt; omega)
  exact ⟨Nat.le_trans h.le k.size, h.lt, fun c h1 h2 => hc _ _ (gerr_lt c) (h.err c h1 h2),
    fun c h1 h2 => by
      obtain ⟨g1, ca, ta, g2⟩ := h.sen c h1 h2
      exact ⟨g1, ca, ta, by rw [← g2]; exact k.block _ (Nat.lt_of_lt_of_le g1 h.le) (fun hS => by have := hs _ hS; omega)⟩,
    h.inj, fun i hi => hc _ _ (by show 14 < 16; decide) (h.tz i hi), fun i hi => hc _ _ (by show 13 < 16; decide) (h.sh i hi), fun i hi => hc _ _ (by show 11 < 16; decide) (h.kd i hi), h.pw.keep k (fun hS => by have := hs _ hS; have := h.lt; omega) (by have := h.lt; have := h.le; omega)⟩

theorem GL.drewN {B : Nat} {sa : Nat → Addr} {W : World} (h : GL B sa W) (n : Nat) : GL B sa (W.drewN n) := h.keep ((Keep.refl nob W).drewN n) (fun _ h => h.elim)

/-- a reader in block b -/
structure Rd (W : World) (b : Nat) (s : ByteArray) (p fr op : Nat) : Prop where
  c0 : W.cell? ⟨b, 0, none⟩ = some (.string s)
  c1 : W.cell? ⟨b, 1, none⟩ = some (.int .i64 (p : Int))
  c2 : W.cell? ⟨b, 2, none⟩ = some (.int .i64 (fr : Int))
  c3 : W.cell? ⟨b, 3, none⟩ = some (.int .i64 (op : Int))
  fz : ∀ i, i < 4 → W.frozen? ⟨b, i, none⟩ = false
theorem Rd.keep {W W' : World} {S : Nat → Prop} {b : Nat} {s : ByteArray} {p fr op : Nat} (h : Rd W b s p fr op) (k : Keep S W W') (hs : ¬ S b) : Rd W' b s p fr op :=
  ⟨k.cell h.c0 hs, k.cell h.c1 hs, k.cell h.c2 hs, k.cell h.c3 hs, fun i hi => by
    rw [← h.fz i hi]
    exact World.frozen?_of_block (k.block b (World.block_lt_of_cell? W _ h.c0) hs)⟩
theorem Rd.drewN {W : World} {b : Nat} {s : ByteArray} {p fr op : Nat} (h : Rd W b s p fr op) (n : Nat) : Rd (W.drewN n) b s p fr op := h.keep ((Keep.refl nob W).drewN n) (fun h => h)
theorem Rd.set1 {W : World} {b : Nat} {s : ByteArray} {p fr op : Nat} (h : Rd W b s p fr op) (q : Nat) : Rd (W.setCell ⟨b, 1, none⟩ (.int .i64 (q : Int))) b s q fr op :=
  ⟨by rw [World.cell?_setCell_other _ _ _ _ (by simp)]; exact h.c0, World.cell?_setCell_same _ _ _ h.c1, by rw [World.cell?_setCell_other _ _ _ _ (by simp)]; exact h.c2,
    by rw [World.cell?_setCell_other _ _ _ _ (by simp)]; exact h.c3, fun i hi => by rw [World.frozen?_setCell]; exact h.fz i hi⟩
theorem Rd.set2 {W : World} {b : Nat} {s : ByteArray} {p fr op : Nat} (h : Rd W b s p fr op) (q : Nat) : Rd (W.setCell ⟨b, 2, none⟩ (.int .i64 (q : Int))) b s p q op :=
  ⟨by rw [World.cell?_setCell_other _ _ _ _ (by simp)]; exact h.c0, by rw [World.cell?_setCell_other _ _ _ _ (by simp)]; exact h.c1, World.cell?_setCell_same _ _ _ h.c2,
    by rw [World.cell?_setCell_other _ _ _ _ (by simp)]; exact h.c3, fun i hi => by rw [World.frozen?_setCell]; exact h.fz i hi⟩
theorem Rd.set3 {W : World} {b : Nat} {s : ByteArray} {p fr op : Nat} (h : Rd W b s p fr op) (q : Nat) : Rd (W.setCell ⟨b, 3, none⟩ (.int .i64 (q : Int))) b s p fr q :=
  ⟨by rw [World.cell?_setCell_other _ _ _ _ (by simp)]; exact h.c0, by rw [World.cell?_setCell_other _ _ _ _ (by simp)]; exact h.c1, by rw [World.cell?_setCell_other _ _ _ _ (by simp)]; exact h.c2,
    World.cell?_setCell_same _ _ _ h.c3, fun i hi => by rw [World.frozen?_setCell]; exact h.fz i hi⟩
/-- An error of a number, at a place, in a block of D. -/
def FErr (sa : Nat → Addr) (W : World) (D : Nat → Prop) (e : Value) (c p : Nat) : Prop :=
  ∃ b, e = .iface 77 (.pointer (some ⟨b, 0, none⟩)) ∧ D b ∧ W.cell? ⟨b, 0, none⟩ = some (sent sa c) ∧ W.cell? ⟨b, 1, none⟩ = some (.int .i64 (p : Int)) ∧ W.cell? ⟨b, 2, none⟩ = some (.string ⟨#[]⟩)
theorem FErr.keep {sa : Nat → Addr} {W W' : World} {D S : Nat → Prop} {e : Value} {c p : Nat} (h : FErr sa W D e c p) (k : Keep S W W') (hs : ∀ b, D b → ¬ S b) : FErr sa W' D e c p := by
  obtain ⟨b, h0, h1, h2, h3, h4⟩ := h
  exact ⟨b, h0, h1, k.cell h2 (hs b h1), k.cell h3 (hs b h1), k.cell h4 (hs b h1)⟩
theorem FErr.mono {sa : Nat → Addr} {W : World} {D D' : Nat → Prop} {e : Value} {c p : Nat} (h : FErr sa W D e c p) (hd : ∀ b, b < W.heap.size → D b → D' b) : FErr sa W D' e c p := by
  obtain ⟨b, h0, h1, h2, h3, h4⟩ := h
  exact ⟨b, h0, hd b (World.block_lt_of_cell? W _ h2) h1, h2, h3, h4⟩

/-! ### results -/
theorem cells_val {w : World} {b : Nat} {r : Raw} (h : w.rangeAt b 0 (ER.cells r)) : w.cell? ⟨b, 0, none⟩ = some (.int .i8 (r.kind : Int)) ∧ w.cell? ⟨b, 1, none⟩ = some (.int .u64 (r.n : Int)) ∧ w.cell? ⟨b, 2, none⟩ = some (.bool r.neg) ∧
    w.cell? ⟨b, 3, none⟩ = some (.slice r.mA r.mL r.mC) ∧ w.cell? ⟨b, 4, none⟩ = some (.int .u64 (r.bits : Int)) ∧ w.cell? ⟨b, 5, none⟩ = some (.int .i8 r.ext) ∧ w.cell? ⟨b, 6, none⟩ = some (.string r.text) ∧ w.cell? ⟨b, 7, none⟩ = some (.slice r.kA r.kL r.kC) := by
  refine ⟨?_, ?_, ?_, ?_, ?_, ?_, ?_, ?_⟩
  · simpa using h 0 _ rfl
  · simpa using h 1 _ rfl
  · simpa using h 2 _ rfl
  · simpa using h 3 _ rfl
  · simpa using h 4 _ rfl
  · simpa using h 5 _ rfl
  · simpa using h 6 _ rfl
  · simpa using h 7 _ rfl
theorem load_val {w : World} {b : Nat} {r : Raw} (h : w.rangeAt b 0 (ER.cells r)) : (loadVar 35 ⟨b, 0, none⟩).run Tryz.prog w = .ok (ER.val r) w := by
  obtain ⟨h0, h1, h2, h3, h4, h5, h6, h7⟩ := cells_val h
  go_simp
  rfl
theorem range_new (w : World) (r : Raw) (T : TypeId) : (w.alloc (.cells (ER.cells r).toArray T)).rangeAt w.heap.size 0 (ER.cells r) := range_alloc_new w _ T _ (fun j v hj => by simpa using hj)
/-- of a value without limbs and kids -/
theorem Tr.flat (W : World) (D : Nat → Prop) (k n : Nat) (neg : Bool) (bits : Nat) (ext : Int) (text : ByteArray) : Tr W D ⟨k, n, neg, none, 0, 0, bits, ext, text, none, 0, 0⟩ (.mk k n neg [] bits ext text []) :=
  ⟨rfl, rfl, rfl, rfl, rfl, rfl, ⟨rfl, Sl.nil_ EU W none (Nat.zero_le _), fun h => absurd rfl h⟩, [], rfl, Sl.nil_ ER W none (Nat.zero_le _), fun h => absurd rfl h, trivial⟩
/-- a result in a cell and one beside it -/
theorem ret_vt {fn : Func} {p u : Tmp} {R : Ending → World → Prop} {a : Act} {w : World} {b : Nat} {r : Raw} {v : Value} (h : fn.results = #[.cell p 35, .tmp u]) (hp : a.tmps.getD p undef = .pointer (some ⟨b, 0, none⟩)) (hv : a.tmps.getD u undef = v) (hd : a.defers = [])
    (hr : w.rangeAt b 0 (ER.cells r)) (hR : R (.returned (.tuple #[ER.val r, v])) w) : bodyPost Tryz.prog fn R .ret a w := by
  refine bodyPost_ret ((results_cell_tmp h _ _ _).trans ?_) hd hR
  have h1 := load_val hr
  rw [hp, hv]
  simp [asAddr, h1]

/-! ### families without items within -/
/-- eight cells that may be written -/
theorem eight {W : World} {b : Nat} (h : W.there b 0 8) : ∃ v0 v1 v2 v3 v4 v5 v6 v7, (W.cell? ⟨b, 0, none⟩ = some v0 ∧ W.cell? ⟨b, 1, none⟩ = some v1 ∧ W.cell? ⟨b, 2, none⟩ = some v2 ∧ W.cell? ⟨b, 3, none⟩ = some v3 ∧
    W.cell? ⟨b, 4, none⟩ = some v4 ∧ W.cell? ⟨b, 5, none⟩ = some v5 ∧ W.cell? ⟨b, 6, none⟩ = some v6 ∧ W.cell? ⟨b, 7, none⟩ = some v7) ∧
    W.frozen? ⟨b, 0, none⟩ = false ∧ W.frozen? ⟨b, 1, none⟩ = false ∧ W.frozen? ⟨b, 2, none⟩ = false ∧ W.frozen? ⟨b, 3, none⟩ = false ∧ W.frozen? ⟨b, 4, none⟩ = false ∧ W.frozen? ⟨b, 5, none⟩ = false ∧ W.frozen? ⟨b, 6, none⟩ = false ∧ W.frozen? ⟨b, 7, none⟩ = false := by
  have c : ∀ j, j < 8 → ∃ v, W.cell? ⟨b, j, none⟩ = some v := fun j hj => by
    have := (h j hj).1
    rw [Nat.zero_add] at this
    exact Option.isSome_iff_exists.1 this
  have f : ∀ j, j < 8 → W.frozen? ⟨b, j, none⟩ = false := fun j hj => by
    have := (h j hj).2
    rwa [Nat.zero_add] at this
  obtain ⟨v0, c0⟩ := c 0 (by decide)
  obtain ⟨v1, c1⟩ := c 1 (by decide)
  obtain ⟨v2, c2⟩ := c 2 (by decide)
  obtain ⟨v3, c3⟩ := c 3 (by decide)
  obtain ⟨v4, c4⟩ := c 4 (by decide)
  obtain ⟨v5, c5⟩ := c 5 (by decide)
  obtain ⟨v6, c6⟩ := c 6 (by decide)
  obtain ⟨v7, c7⟩ := c 7 (by decide)
  exact ⟨v0, v1, v2, v3, v4, v5, v6, v7, ⟨c0, c1, c2, c3, c4, c5, c6, c7⟩, f 0 (by decide), f 1 (by decide), f 2 (by decide), f 3 (by decide), f 4 (by decide), f 5 (by decide), f 6 (by decide), f 7 (by decide)⟩
theorem range_put8 {W : World} {b : Nat} (r : Raw) (h : W.there b 0 8) : (W.setCells b 0 (ER.cells r)).rangeAt b 0 (ER.cells r) := World.rangeAt_setCells_same W b 0 _ h

end Go.Proofs.YteekndchkgdccaaGreatDoor

/- packread's families: bytes, extensions. -/
namespace Go.Proofs.YteekndchkgdccaaGreatDoor
open Go.RowKit

/-- a result's new cells -/
theorem start (w : World) : ∃ w0 b4, Hid (w.alloc (.cells #[.int .i8 0, .int .u64 0, .bool false, .slice none 0 0, .int .u64 0, .int .i8 0, .string ⟨#[]⟩, .slice none 0 0] 35) = w0) ∧ Hid (w.heap.size = b4) ∧ Hid (Keep nob w w0) ∧ Hid (w0.there b4 0 8) ∧ Hid (w.heap.size ≤ b4 ∧ b4 < w0.heap.size) :=
  ⟨_, _, Lib.hid rfl, Lib.hid rfl, Lib.hid ((Keep.refl _ _).alloc _), Lib.hid (there_alloc_new w _ _ 8 (Nat.le_refl _)), Lib.hid ⟨Nat.le_refl _, by simp⟩⟩
/-- a value's cells, stored one by one -/
theorem put8 {w1 : World} {b4 : Nat} (th : w1.there b4 0 8) (r : Raw) (a0 a1 a2 a3 a4 a5 a6 a7 : Value) (h : [a0, a1, a2, a3, a4, a5, a6, a7] = ER.cells r) :
    ∃ w2, Hid (((((((((w1.setCell ⟨b4, 0, none⟩ a0).setCell ⟨b4, 1, none⟩ a1).setCell ⟨b4, 2, none⟩ a2).setCell ⟨b4, 3, none⟩ a3).setCell ⟨b4, 4, none⟩ a4).setCell ⟨b4, 5, none⟩ a5).setCell ⟨b4, 6, none⟩ a6).setCell ⟨b4, 7, none⟩ a7) = w2) ∧
      w2.rangeAt b4 0 (ER.cells r) ∧ Keep (· = b4) w1 w2 := by
  refine ⟨_, Lib.hid rfl, ?_, ?_⟩
  · have := World.rangeAt_setCells_same w1 b4 0 [a0, a1, a2, a3, a4, a5, a6, a7] th
    rw [← h]
    exact this
  · exact (Keep.refl (· = b4) w1).setCells (b := b4) [a0, a1, a2, a3, a4, a5, a6, a7] 0 (fun _ => rfl)
end Go.Proofs.YteekndchkgdccaaGreatDoor

/- The builtin copy at elements of any number of cells. -/
namespace Go.Proofs.YteekndchkgdccaaGreatDoor
open Go.RowKit
section
variable {P : Program}
theorem run_copy_E {α : Type} (E : El α) (w : World) (dT sT ty e : TypeId) (ht : P.underlying dT = some (.slice e)) (hsz : (P.info? e).map (·.size) = some E.sz) (A A2 : Option Addr) (dLen dCap c2 : Nat) (ys : List α) (hy : Sl E w A2 c2 ys) (m : Nat) (hm : m = Nat.min ys.length dLen)
    (hroom : 0 < m → ∃ b o, A = some ⟨b, o, none⟩ ∧ w.there b o (m * E.sz)) :
    ∃ w', (Builtin.copy_ #[dT, sT] ty #[.slice A dLen dCap, .slice A2 ys.length c2]).run P w = .ok (goInt m) w' ∧ (m = 0 → w' = w) ∧ ∀ b o, 0 < m → A = some ⟨b, o, none⟩ → w' = w.setCells b o (E.flat (ys.take m)) := by
  obtain ⟨i, hi, his⟩ := Option.map_eq_some_iff.1 hsz
  have hyt : (ys.take m).length = m := by rw [List.length_take, hm]; exact Nat.min_eq_left (Nat.min_le_left _ _)
  have hf : (Builtin.firstCells E.sz m (.slice A2 ys.length c2)).run P w = .ok (E.flat (ys.take m)).toArray w := by
    by_cases hn : ys.take m = []
    · have hm0 : m = 0 := by rw [← hyt, hn]; rfl
      rw [hn, hm0]
      cases A2 with
      | none => exact run_firstCells_none w E.sz _ _ c2
      | some a => exact run_firstCells_some w E.sz _ a _ c2 [] (by simp) (by simp)
    · obtain ⟨b, o, hA, hr⟩ := (hy.take m).at_ hn
      subst hA
      exact run_firstCells_some w E.sz _ _ _ c2 _ (by rw [E.flat_len, hyt]) (fun j v hv => by rw [Addr.add_mid]; exact hr j v hv)
  rcases Nat.eq_zero_or_pos m with h0 | h0
  · refine ⟨w, ?_, fun _ => rfl, fun b o h => by omega⟩
    subst h0
    rw [List.take_zero, El.flat_nil] at hf
    cases A <;> simp [Builtin.copy_, run_underlying ht, Builtin.lenOf, sizeOf, typeInfo, hi, his, ← hm, hf, storeCells]
  · obtain ⟨b, o, rfl, hth⟩ := hroom h0
    have hl : (E.flat (ys.take m)).length = m * E.sz := by rw [E.flat_len, hyt]
    have hst := run_storeCells_cells (P := P) b o (E.flat (ys.take m)) 0 w (fun j hj => by simpa using (hth j (by omega)).1) (fun j hj => by simpa using (hth j (by omega)).2) (E.flat_one _)
    simp only [Nat.add_zero] at hst
    refine ⟨w.setCells b o (E.flat (ys.take m)), ?_, fun h => by omega, fun b' o' _ h => by cases h; rfl⟩
    simp [Builtin.copy_, run_underlying ht, Builtin.lenOf, sizeOf, typeInfo, hi, his, ← hm, hf, hst]
theorem wp_copy_E {α : Type} (E : El α) {w : World} {op : Oper} {a : Act} {K : Act → World → Prop} {Q : Exit → Act → World → Prop} (d x : Operand) (dT sT : TypeId)
    (ho : op.op = .call { callee := .builtin .copy, args := #[d, x], argTypes := #[dT, sT] }) (e : TypeId) (ht : P.underlying dT = some (.slice e)) (hsz : (P.info? e).map (·.size) = some E.sz)
    (A : Option Addr) (dLen dCap : Nat) (hd : a.eval d = .slice A dLen dCap) (A2 : Option Addr) (n c2 : Nat) (hx : a.eval x = .slice A2 n c2) (ys : List α) (hn : ys.length = n) (hy : Sl E w A2 c2 ys) (m : Nat) (hm : m = Nat.min n dLen)
    (hroom : 0 < m → ∃ b o, A = some ⟨b, o, none⟩ ∧ w.there b o (m * E.sz))
    (h : ∀ w', (m = 0 → w' = w) → (∀ b o, 0 < m → A = some ⟨b, o, none⟩ → w' = w.setCells b o (E.flat (ys.take m))) → K (a.put op.dst (goInt m)) w') : op.wp P a w K Q := by
  subst hn
  obtain ⟨w', hr, h1, h2⟩ := run_copy_E (P := P) E w dT sT op.type e ht hsz A A2 dLen dCap c2 ys hy m hm hroom
  unfold Oper.wp execOp
  simp only [ho, resolve, invoke, builtin, Sem.run_bind, Sem.run_pure, Result.andThen_ok, List.map_toArray, List.map_cons, List.map_nil, hd, hx, hr]
  exact h _ h1 h2
theorem wpList_copy_E {α : Type} (E : El α) {w : World} {op : Oper} {ops : Array Oper} {rest : List Oper} {a : Act} {Q : Exit → Act → World → Prop} (hgd : op.guard = none) (d x : Operand) (dT sT : TypeId)
    (ho : op.op = .call { callee := .builtin .copy, args := #[d, x], argTypes := #[dT, sT] }) (e : TypeId) (ht : P.underlying dT = some (.slice e)) (hsz : (P.info? e).map (·.size) = some E.sz)
    (A : Option Addr) (dLen dCap : Nat) (hd : a.eval d = .slice A dLen dCap) (A2 : Option Addr) (n c2 : Nat) (hx : a.eval x = .slice A2 n c2) (ys : List α) (hn : ys.length = n) (hy : Sl E w A2 c2 ys) (m : Nat) (hm : m = Nat.min n dLen)
    (hroom : 0 < m → ∃ b o, A = some ⟨b, o, none⟩ ∧ w.there b o (m * E.sz))
    (h : ∀ w', Hid (m = 0 → w' = w) → Hid (∀ b o, 0 < m → A = some ⟨b, o, none⟩ → w' = w.setCells b o (E.flat (ys.take m))) → wpList P ops Q rest (a.put op.dst (goInt m)) w') : wpList P ops Q (op :: rest) a w :=
  wpList_plain hgd fun _ hK => wp_copy_E E d x dT sT ho e ht hsz A dLen dCap hd A2 n c2 hx ys hn hy m hm hroom (fun w' h1 h2 => hK _ _ (h w' h1 h2))
end
/-- a whole slice copied into another's new memory -/
theorem copied {α : Type} {E : El α} {w w' : World} {A : Option Addr} {c m : Nat} {xs ys : List α} (ho : Ow E w A c xs) (hl : ys.length = m) (hx : xs.length = m) (h0 : m = 0 → w' = w) (h1 : ∀ b o, 0 < m → A = some ⟨b, o, none⟩ → w' = w.setCells b o (E.flat (ys.take m))) : Ow E w' A c ys ∧ Keep (AtB A) w w' := by
  rcases Nat.eq_zero_or_pos m with hm | hm
  · have := h0 hm
    subst this
    have e1 : ys = [] := List.eq_nil_of_length_eq_zero (by omega)
    have e2 : xs = [] := List.eq_nil_of_length_eq_zero (by omega)
    subst e1 e2
    exact ⟨ho, Keep.refl _ _⟩
  · have hc : 0 < c := by have := ho.sl.le; omega
    obtain ⟨b, o, rfl, hth⟩ := ho.room hc
    have := h1 b o hm rfl
    subst this
    rw [List.take_of_length_le (by omega)]
    have hth2 : w.there b o ((E.flat ys).length) := there_sub hth (Nat.le_refl _) (by rw [E.flat_len]; exact Nat.add_le_add_left (Nat.mul_le_mul_right _ (by have := ho.sl.le; omega)) _)
    exact ⟨⟨⟨by have := ho.sl.le; omega, ho.sl.cap, fun _ => ⟨b, o, rfl, World.rangeAt_setCells_same _ _ _ _ hth2⟩⟩, fun _ => ⟨b, o, rfl, World.there_setCells hth _ _ _⟩⟩, (Keep.refl _ w).setCells _ _ (fun _ => ⟨_, rfl, rfl⟩)⟩
end Go.Proofs.YteekndchkgdccaaGreatDoor

/- Natural numbers: lists of limbs without noughts at their end. -/
namespace Go.Proofs.YteekndchkgdccaaGreatDoor
open Go.RowKit

/-- how many limbs are left of the first n, noughts at their end dropped -/
def cutN (l : List Nat) : Nat → Nat
  | 0 => 0
  | n + 1 => if l.getD n 0 = 0 then cutN l n else n + 1
def cutL (l : List Nat) : List Nat := l.take (cutN l l.length)
theorem cutN_le (l : List Nat) : ∀ n, cutN l n ≤ n
  | 0 => Nat.le_refl _
  | n + 1 => by
    unfold cutN
    split
    · exact Nat.le_trans (cutN_le l n) (Nat.le_succ n)
    · exact Nat.le_refl _
theorem cutL_len (l : List Nat) : (cutL l).length = cutN l l.length := by
  unfold cutL
  rw [List.length_take]
  exact Nat.min_eq_left (cutN_le l _)
theorem infoU32 : (Tryz.prog.info? 49).map (fun i => (i.zero, i.size, i.bytes)) = some (some (.int .u32 0), 1, 4) := by kernel_rfl
theorem sizeU32 : (Tryz.prog.info? 49).map (·.size) = some 1 := by kernel_rfl
/-- a slice with both ends said -/
theorem run_slice_hm {P : Program} (w : World) (t e : TypeId) (sz : Nat) (ht : P.underlying t = some (.slice e)) (hsz : (P.info? e).map (·.size) = some sz) (A : Option Addr) (n c hi : Nat) (H M : Int) (hH : H = (hi : Int)) (hM : M = (hi : Int)) (h2 : hi ≤ c) :
    (Instr.slice t (.slice A n c) none (some (.int .i64 H)) (some (.int .i64 M))).run P w = .ok (.slice A hi hi) w := by
  subst hH
  subst hM
  obtain ⟨i, hi', his⟩ := Option.map_eq_some_iff.1 hsz
  simp [Instr.slice, run_underlying ht, Instr.sliceBounds, Instr.sliceBound, sizeOf, typeInfo, hi', asIntOf, h2]
  cases A <;> simp [Addr.add]

set_option maxRecDepth 100000 in
theorem cut_ok (A : Option Addr) (c L : Nat) (l : List Nat) (w : World) (hL : l.length = L) (h : Sl EU w A c l) :
    Calls Tryz.prog 56 #[.slice A L c] w fun e w' => e = .returned (.slice A (cutN l L) (cutN l L)) ∧ w' = w := by
  have H := Lib.hid h
  have HL := Lib.hid hL
  have hlc := h.le
  rw [hL] at hlc
  have hcc := h.cap
  clear h hL
  go_enter Tryz.func56, Tryz.ntmps56
  go_wp2_with (fail)
  go_loopw [3] (fun u3 wr => ∃ i : Nat, i ≤ L ∧ u3 = .int .i64 (i : Int) ∧ Hid (cutN l L = cutN l i) ∧ Hid (wr = w)) (fun u3 _ => (intOf u3).toNat)
  case atStart => exact ⟨L, Nat.le_refl _, rfl, Lib.hid rfl, Lib.hid rfl⟩
  case round =>
    obtain ⟨i, h1, rfl, HC, HW⟩ := hrel
    have HW2 := HW.out
    subst HW2
    rcases Nat.eq_zero_or_pos i with h0 | h0
    · subst h0
      go_wp2
      go_ret
      rw [HC.out]
      exact ⟨rfl, rfl⟩
    · obtain ⟨q, rfl⟩ : ∃ q, i = q + 1 := ⟨i - 1, by omega⟩
      obtain ⟨b1, o1, rfl, hx⟩ := (H.out).elem (i := q) (by rw [HL.out]; exact h1)
      have hx1 := hx 0 _ rfl
      simp only [EU, Nat.add_zero, Nat.mul_one] at hx1
      obtain ⟨x, HX⟩ : ∃ x, Hid (l[q]'(by rw [HL.out]; exact h1) = x) := ⟨_, Lib.hid rfl⟩
      rw [HX.out] at hx1
      have hp0 : (0 : Int) < ((q + 1 : Nat) : Int) := by omega
      have hw : IntKind.i64.wrap (((q + 1 : Nat) : Int) - 1) = (q : Int) := by rw [IntWalk.i64_left, IntWalk.wrap64_in _ ⟨by omega, by omega⟩]; omega
      have hq0 : (0 : Int) ≤ (q : Int) := by omega
      have hq1 : (q : Int) < (L : Int) := by omega
      have hget : Hid (l.getD q 0 = x) := by unfold Hid; rw [← HX.out, List.getD_eq_getElem?_getD, List.getElem?_eq_getElem (by rw [HL.out]; exact h1)]; rfl
      by_cases hz : x = 0
      · subst hz
        go_wp2
        refine ⟨⟨q, by omega, rfl, ?_, Lib.hid trivial⟩, by simp [intOf]⟩
        unfold Hid
        rw [HC.out, cutN, if_pos hget.out]
      · have hzi : ¬ (x : Int) = 0 := by omega
        go_wp2
        go_ret
        rw [HC.out, cutN, if_neg (by rw [hget.out]; exact hz)]
        exact ⟨rfl, rfl⟩
theorem cut_sl {A : Option Addr} {c : Nat} {l : List Nat} {w : World} (h : Sl EU w A c l) : Sl EU w A (cutN l l.length) (cutL l) := by
  have h1 := h.take (cutN l l.length)
  exact ⟨by rw [cutL_len]; exact Nat.le_refl _, Nat.le_trans (cutN_le l _) (Nat.le_trans h.le h.cap), h1.at_⟩

set_option maxRecDepth 100000 in
/-- Norm: a list of one's own without noughts at its end. -/
theorem nNorm_ok (A : Option Addr) (c L : Nat) (l : List Nat) (w : World) (hL : l.length = L) (h : Sl EU w A c l) (hl : L ≤ 1000000000) :
    Calls Tryz.prog 55 #[.slice A L c] w fun e w' => Keep nob w w' ∧ ∃ A' , e = .returned (.slice A' (cutN l L) (cutN l L)) ∧ Sl EU w' A' (cutN l L) (cutL l) ∧ Lies (fun k => w.heap.size ≤ k) A' (cutL l) := by
  have H := Lib.hid h
  have HL := Lib.hid hL
  have hlc := h.le
  rw [hL] at hlc
  have hcc := h.cap
  have hC := cut_ok A c L l w hL h
  have hn := cutN_le l L
  obtain ⟨n, HN⟩ : ∃ n, Hid (cutN l L = n) := ⟨_, Lib.hid rfl⟩
  rw [HN.out] at hC hn
  clear h hL
  go_enter Tryz.func55, Tryz.ntmps55
  go_upto_region 3 with (first
    | (go_at_call 56; go_must (refine hC.mono ?_); rintro e w1 ⟨rfl, rfl⟩)
    | (at_make; refine wpList_make_E EU rfl _ _ 30 rfl 49 _ 4 Tryz.underlying30 infoU32 n n _ _ rfl rfl rfl rfl (Nat.le_refl _) (by omega) (by omega) ?_; intro w2 HW2))
  have HO2 : Hid (Ow EU w2 (some ⟨w1.heap.size, 0, none⟩) n (List.replicate n (0 : Nat))) := by rw [HW2.out]; exact ow_made EU w1 49 (.int .u32 0) 0 rfl n n (Nat.le_refl _) (by omega)
  have HK2 : Hid (Keep nob w1 w2) := by rw [HW2.out]; exact (Keep.refl _ w1).alloc _
  clear HW2
  obtain ⟨bo, HBO⟩ : ∃ bo, Hid (w1.heap.size = bo) := ⟨_, Lib.hid rfl⟩
  rw [HBO.out] at HO2 ⊢
  have HC2 : Hid (Sl EU w2 A n (cutL l)) := by
    have h1 := cut_sl (H.out.keep HK2.out (fun ⟨_, _, h⟩ => h))
    rw [HL.out, HN.out] at h1
    exact h1
  have HCL : Hid ((cutL l).length = n) := by unfold Hid; rw [cutL_len, HL.out, HN.out]
  go_upto_region 4 with (refine wpList_copy_E EU rfl _ _ 30 30 rfl 49 Tryz.underlying30 sizeU32 (some ⟨bo, 0, none⟩) n n rfl A n n rfl (cutL l) HCL.out HC2.out n (by simp) (fun _ => HO2.out.room (by omega)) ?_; intro w3 h30 h31)
  obtain ⟨ho3, hk3⟩ := copied HO2.out HCL.out (List.length_replicate) h30.out h31.out
  go_wp2
  go_ret
  refine ⟨HK2.out.trans hk3 (fun k h1 h2 => ?_), some ⟨bo, 0, none⟩, by rw [HN.out]; rfl, by rw [HN.out]; exact ho3.sl, fun _ => ⟨_, rfl, ?_⟩⟩
  · obtain ⟨a, ha, hb⟩ := h2
    cases ha
    have := HBO.out
    simp only at hb
    omega
  · have := HBO.out
    simp only
    omega

/-! ### whole numbers -/
/-- a whole number's two cells -/
def intV (neg : Bool) (A : Option Addr) (n c : Nat) : Value := .agg #[.bool neg, .slice A n c]
theorem load_int {w : World} {b : Nat} {neg : Bool} {A : Option Addr} {n c : Nat} (h0 : w.cell? ⟨b, 0, none⟩ = some (.bool neg)) (h1 : w.cell? ⟨b, 1, none⟩ = some (.slice A n c)) : (loadVar 32 ⟨b, 0, none⟩).run Tryz.prog w = .ok (intV neg A n c) w := by
  go_simp
  rfl
theorem ret_int {fn : Func} {p : Tmp} {R : Ending → World → Prop} {a : Act} {w : World} {b : Nat} {neg : Bool} {A : Option Addr} {n c : Nat} (h : fn.results = #[.cell p 32]) (hp : a.tmps.getD p undef = .pointer (some ⟨b, 0, none⟩)) (hd : a.defers = [])
    (h0 : w.cell? ⟨b, 0, none⟩ = some (.bool neg)) (h1 : w.cell? ⟨b, 1, none⟩ = some (.slice A n c)) (hR : R (.returned (intV neg A n c)) w) : bodyPost Tryz.prog fn R .ret a w := by
  refine bodyPost_ret (v := intV neg A n c) ?_ hd hR
  have hl := load_int h0 h1
  have hp' : a.tmps[p]?.getD undef = .pointer (some ⟨b, 0, none⟩) := by rw [← hp]; simp
  simp [results, h, hp', asAddr, hl]
theorem int_new0 (w : World) (neg : Bool) (A : Option Addr) (n c : Nat) (T : TypeId) : (w.alloc (.cells #[.bool neg, .slice A n c] T)).cell? ⟨w.heap.size, 0, none⟩ = some (.bool neg) := by simp
theorem int_new1 (w : World) (neg : Bool) (A : Option Addr) (n c : Nat) (T : TypeId) : (w.alloc (.cells #[.bool neg, .slice A n c] T)).cell? ⟨w.heap.size, 1, none⟩ = some (.slice A n c) := by simp
/-- made: a sign (-1, 0, 1) and a size -/
theorem made_ok (sg : Int) (A : Option Addr) (n c : Nat) (w : World) : Calls Tryz.prog 77 #[.int .i8 sg, .slice A n c] w fun e w' =>
    e = .returned (intV (decide (sg = -1) && decide (0 < n)) A n c) ∧ Keep nob w w' := by
  by_cases h : sg = -1
  · subst h
    by_cases hn : 0 < n
    · have hn2 : (0 : Int) < (n : Int) := by omega
      go_enter Tryz.func77, Tryz.ntmps77
      go_wp2
      refine ret_int rfl rfl rfl (int_new0 _ _ _ _ _ _) (int_new1 _ _ _ _ _ _) ⟨?_, (Keep.refl _ _).alloc _⟩
      simp [hn]
    · have hn2 : ¬ (0 : Int) < (n : Int) := by omega
      go_enter Tryz.func77, Tryz.ntmps77
      go_wp2
      refine ret_int rfl rfl rfl (int_new0 _ _ _ _ _ _) (int_new1 _ _ _ _ _ _) ⟨?_, (Keep.refl _ _).alloc _⟩
      simp
  · go_enter Tryz.func77, Tryz.ntmps77
    go_wp2
    refine ret_int rfl rfl rfl (int_new0 _ _ _ _ _ _) (int_new1 _ _ _ _ _ _) ⟨?_, (Keep.refl _ _).alloc _⟩
    simp [h]

/-- the sign of a number in normal form, by its sign's cell and how many limbs it has -/
def sgn (neg : Bool) (n : Nat) : Int := if n = 0 then 0 else if neg then -1 else 1
set_option maxRecDepth 100000 in
theorem wsigned_ok (neg : Bool) (A : Option Addr) (c L : Nat) (l : List Nat) (w : World) (hL : l.length = L) (h : Sl EU w A c l) (hl : L ≤ 1000000000) :
    Calls Tryz.prog 37 #[intV neg A L c] w fun e w' => Keep nob w w' ∧ ∃ A', e = .returned (.tuple #[.int .i8 (sgn neg (cutN l L)), .slice A' (cutN l L) (cutN l L)]) ∧ Sl EU w' A' (cutN l L) (cutL l) ∧ Lies (fun k => w.heap.size ≤ k) A' (cutL l) := by
  have k0 : Keep nob w (w.alloc (.cells #[.bool neg, .slice A L c] 32)) := (Keep.refl _ _).alloc _
  have hN := nNorm_ok A c L l _ hL (h.keep k0 (fun ⟨_, _, h⟩ => h)) hl
  obtain ⟨n, HN⟩ : ∃ n, Hid (cutN l L = n) := ⟨_, Lib.hid rfl⟩
  rw [HN.out] at hN
  have hlen : Hid ((cutL l).length = n) := by unfold Hid; rw [cutL_len, hL, HN.out]
  have c0 : (w.alloc (.cells #[.bool neg, .slice A L c] 32)).cell? ⟨w.heap.size, 0, none⟩ = some (.bool neg) := by simp
  have c1 : (w.alloc (.cells #[.bool neg, .slice A L c] 32)).cell? ⟨w.heap.size, 1, none⟩ = some (.slice A L c) := by simp
  obtain ⟨w0, HW0⟩ : ∃ w0, Hid (w.alloc (.cells #[.bool neg, .slice A L c] 32) = w0) := ⟨_, Lib.hid rfl⟩
  obtain ⟨b0, HB0⟩ : ∃ b0, Hid (w.heap.size = b0) := ⟨_, Lib.hid rfl⟩
  have HS : Hid (w.heap.size ≤ w0.heap.size) := by unfold Hid; rw [← HW0.out]; exact k0.size
  rw [HW0.out] at hN c0 c1 k0
  rw [HB0.out] at c0 c1
  have HK0 := Lib.hid k0
  clear k0 h hL
  unfold intV
  go_enter Tryz.func37, Tryz.ntmps37
  go_upto_region 1 with (fail)
  rw [HW0.out, HB0.out]
  go_upto_block 0 with (go_at_call 55; go_must (refine hN.mono ?_); rintro e w1 ⟨hk1, A', rfl, hs1, hl1⟩)
  have k1 := hk1
  have d0 := k1.cell c0 (fun h => h)
  have post : ∀ v, v = sgn neg n → Keep nob w w1 ∧ ∃ A'', Ending.returned (Value.tuple #[.int .i8 v, .slice A' n n]) = .returned (.tuple #[.int .i8 (sgn neg n), .slice A'' n n]) ∧ Sl EU w1 A'' n (cutL l) ∧ Lies (fun k => w.heap.size ≤ k) A'' (cutL l) := fun v hv =>
    ⟨HK0.out.then_ k1, A', by rw [hv], hs1, hl1.mono hs1 (fun k _ hk => Nat.le_trans HS.out hk)⟩
  rcases Nat.eq_zero_or_pos n with hn | hn
  · subst hn
    have e : cutL l = [] := List.eq_nil_of_length_eq_zero hlen.out
    go_wp2
    go_ret2
    rw [HN.out, e]
    exact ⟨HK0.out.then_ k1, none, by simp [sgn], Sl.nil_ EU w1 none (Nat.zero_le _), fun h => absurd rfl h⟩
  · have hne : ¬ (n : Int) = 0 := by omega
    have hne' : ¬ n = 0 := by omega
    cases neg
    · go_wp2
      go_ret2
      rw [HN.out]
      exact post 1 (by simp [sgn, hne'])
    · go_wp2
      go_ret2
      rw [HN.out]
      exact post (-1) (by simp [sgn, hne'])
end Go.Proofs.YteekndchkgdccaaGreatDoor

/- Whole numbers: Norm, From; as values. -/
namespace Go.Proofs.YteekndchkgdccaaGreatDoor
open Go.RowKit

/-- two cells that may be written -/
theorem two {W : World} {b : Nat} (h : W.there b 0 2) : ∃ v0 v1, (W.cell? ⟨b, 0, none⟩ = some v0 ∧ W.cell? ⟨b, 1, none⟩ = some v1) ∧ W.frozen? ⟨b, 0, none⟩ = false ∧ W.frozen? ⟨b, 1, none⟩ = false := by
  have h0 := h 0 (by decide)
  have h1 := h 1 (by decide)
  rw [Nat.zero_add] at h0 h1
  obtain ⟨v0, c0⟩ := Option.isSome_iff_exists.1 h0.1
  obtain ⟨v1, c1⟩ := Option.isSome_iff_exists.1 h1.1
  exact ⟨v0, v1, ⟨c0, c1⟩, h0.2, h1.2⟩
theorem put2 {w1 : World} {b4 : Nat} (th : w1.there b4 0 2) (a0 a1 : Value) :
    ∃ w2, Hid ((w1.setCell ⟨b4, 0, none⟩ a0).setCell ⟨b4, 1, none⟩ a1 = w2) ∧ w2.cell? ⟨b4, 0, none⟩ = some a0 ∧ w2.cell? ⟨b4, 1, none⟩ = some a1 ∧ Keep (· = b4) w1 w2 := by
  refine ⟨_, Lib.hid rfl, ?_, ?_, ?_⟩
  · have := World.rangeAt_setCells_same w1 b4 0 [a0, a1] th 0 a0 rfl
    exact this
  · have := World.rangeAt_setCells_same w1 b4 0 [a0, a1] th 1 a1 rfl
    exact this
  · exact (Keep.refl (· = b4) w1).setCells (b := b4) [a0, a1] 0 (fun _ => rfl)
theorem _root_.Go.World.there.keep' {W W' : World} {b o n : Nat} (h : W.there b o n) (k : Keep nob W W') : W'.there b o n := k.there h (fun h => h)
/-- is the number, in normal form, below 0? -/
def negN (neg : Bool) (n : Nat) : Bool := neg && decide (0 < n)
theorem sgn_neg (neg : Bool) (n : Nat) : (decide (sgn neg n = -1) && decide (0 < n)) = negN neg n := by
  unfold sgn negN
  rcases Nat.eq_zero_or_pos n with h | h
  · subst h; simp
  · have : ¬ n = 0 := by omega
    cases neg <;> simp [this]
set_option maxRecDepth 100000 in
theorem wNorm_ok (neg : Bool) (A : Option Addr) (c L : Nat) (l : List Nat) (w : World) (hL : l.length = L) (h : Sl EU w A c l) (hl : L ≤ 1000000000) :
    Calls Tryz.prog 58 #[intV neg A L c] w fun e w' => Keep nob w w' ∧ ∃ A', e = .returned (intV (negN neg (cutN l L)) A' (cutN l L) (cutN l L)) ∧ Sl EU w' A' (cutN l L) (cutL l) ∧ Lies (fun k => w.heap.size ≤ k) A' (cutL l) := by
  have c0 : ((w.alloc (.cells #[.bool neg, .slice A L c] 32)).alloc (.cells #[.bool false, .slice none 0 0] 32)).cell? ⟨w.heap.size, 0, none⟩ = some (.bool neg) := by simp
  have c1 : ((w.alloc (.cells #[.bool neg, .slice A L c] 32)).alloc (.cells #[.bool false, .slice none 0 0] 32)).cell? ⟨w.heap.size, 1, none⟩ = some (.slice A L c) := by simp
  have k0 : Keep nob w ((w.alloc (.cells #[.bool neg, .slice A L c] 32)).alloc (.cells #[.bool false, .slice none 0 0] 32)) := ((Keep.refl _ _).alloc _).alloc _
  have t0 := there_alloc_new (w.alloc (.cells #[.bool neg, .slice A L c] 32)) #[.bool false, .slice none 0 0] 32 2 (Nat.le_refl _)
  obtain ⟨w0, HW0⟩ : ∃ w0, Hid ((w.alloc (.cells #[.bool neg, .slice A L c] 32)).alloc (.cells #[.bool false, .slice none 0 0] 32) = w0) := ⟨_, Lib.hid rfl⟩
  rw [HW0.out] at c0 c1 k0 t0
  have hN := wsigned_ok neg A c L l w0 hL (h.keep k0 (fun ⟨_, _, h⟩ => h)) hl
  obtain ⟨n, HN⟩ : ∃ n, Hid (cutN l L = n) := ⟨_, Lib.hid rfl⟩
  rw [HN.out] at hN
  unfold intV at hN ⊢
  have HK0 := Lib.hid k0
  have HT0 := Lib.hid t0
  clear k0 h hL t0
  go_enter Tryz.func58, Tryz.ntmps58
  go_upto_region 1 with (fail)
  have HSZ : Hid ((w.alloc (.cells #[.bool neg, .slice A L c] 32)).heap.size = w.heap.size + 1) := by unfold Hid; simp
  rw [HW0.out]
  obtain ⟨b2, HB2⟩ : ∃ b2, Hid (w.heap.size + 1 = b2) := ⟨_, Lib.hid rfl⟩
  have HT2 : Hid (w0.there b2 0 2) := by rw [← HB2.out, ← HSZ.out]; exact HT0.out
  clear HT0
  have HL2 : Hid (b2 < w0.heap.size) := by
    have := HT2.out 0 (by decide)
    obtain ⟨v, hv⟩ := Option.isSome_iff_exists.1 this.1
    exact World.block_lt_of_cell? w0 _ hv
  simp only [HB2.out]
  go_wp2_with (first
    | (go_at_call 37; go_must (refine hN.mono ?_); rintro e w1 ⟨hk1, A', rfl, hs1, hl1⟩; have HK1 := Lib.hid hk1; have HS1 := Lib.hid hs1; have HL1 := Lib.hid hl1; clear hk1 hs1 hl1)
    | (go_at_call 77; go_must (refine (made_ok _ _ _ _ _).mono ?_); rintro e w2 ⟨rfl, hk2⟩; unfold intV; have HK2 := Lib.hid hk2; clear hk2; obtain ⟨v0, v1, ⟨d0, d1⟩, f0, f1⟩ := two ((HT2.out.keep' HK1.out).keep' HK2.out)))
  obtain ⟨w3, e3, p0, p1, k3⟩ := put2 ((HT2.out.keep' HK1.out).keep' HK2.out) (.bool (decide (sgn neg n = -1) && decide (0 < n))) (.slice A' n n)
  rw [e3.out]
  have k9 : Keep (· = b2) w0 w3 := ((HK1.out.then_ HK2.out).mono (fun _ _ h => h.elim)).then_ k3
  refine ret_int rfl rfl rfl p0 p1 ⟨HK0.out.trans k9 (fun k h1 h2 => by have := HB2.out; omega), A', by rw [HN.out, sgn_neg]; rfl, ?_, ?_⟩
  · rw [HN.out]
    exact (HS1.out.keep HK2.out (fun ⟨_, _, h⟩ => h)).keepD k3 HL1.out (fun k hk e => by have := HL2.out; omega)
  · exact HL1.out.mono HS1.out (fun k _ hk => by have := HL2.out; have := HB2.out; omega)
end Go.Proofs.YteekndchkgdccaaGreatDoor

/- A whole number as a value; small numbers. -/
namespace Go.Proofs.YteekndchkgdccaaGreatDoor
open Go.RowKit

/-- a result in a cell -/
theorem ret_v {fn : Func} {p : Tmp} {R : Ending → World → Prop} {a : Act} {w : World} {b : Nat} {r : Raw} (h : fn.results = #[.cell p 35]) (hp : a.tmps.getD p undef = .pointer (some ⟨b, 0, none⟩)) (hd : a.defers = [])
    (hr : w.rangeAt b 0 (ER.cells r)) (hR : R (.returned (ER.val r)) w) : bodyPost Tryz.prog fn R .ret a w := by
  refine bodyPost_ret (v := ER.val r) ?_ hd hR
  have hl := load_val hr
  have hp' : a.tmps[p]?.getD undef = .pointer (some ⟨b, 0, none⟩) := by rw [← hp]; simp
  simp [results, h, hp', asAddr, hl]
theorem Tr.int {W : World} {D : Nat → Prop} {neg : Bool} {A : Option Addr} {n : Nat} {l : List Nat} (hs : Sl EU W A n l) (hl : Lies D A l) (hn : l.length = n) : Tr W D ⟨3, 0, neg, A, n, n, 0, 0, ⟨#[]⟩, none, 0, 0⟩ (V.int neg l) :=
  ⟨rfl, rfl, rfl, rfl, rfl, rfl, ⟨hn.symm, hs, hl⟩, [], rfl, Sl.nil_ ER W none (Nat.zero_le _), fun h => absurd rfl h, trivial⟩
set_option maxRecDepth 100000 in
theorem OfInt_ok (neg : Bool) (A : Option Addr) (c L : Nat) (l : List Nat) (w : World) (hL : l.length = L) (h : Sl EU w A c l) (hl : L ≤ 1000000000) :
    Calls Tryz.prog 57 #[intV neg A L c] w fun e w' => Keep nob w w' ∧ ∃ r, e = .returned (ER.val r) ∧ Tr w' (fun k => w.heap.size ≤ k) r (V.int (negN neg (cutN l L)) (cutL l)) := by
  obtain ⟨w0, b2, HW0, HB2, HK0, HT0, HL0⟩ := start (w.alloc (.cells #[.bool neg, .slice A L c] 32))
  have ka : Keep nob w (w.alloc (.cells #[.bool neg, .slice A L c] 32)) := (Keep.refl _ _).alloc _
  have c0 : w0.cell? ⟨w.heap.size, 0, none⟩ = some (.bool neg) := HK0.out.cell (by simp) (fun h => h)
  have c1 : w0.cell? ⟨w.heap.size, 1, none⟩ = some (.slice A L c) := HK0.out.cell (by simp) (fun h => h)
  have HKA := Lib.hid (ka.then_ HK0.out)
  have hN := wNorm_ok neg A c L l w0 hL (h.keep HKA.out (fun ⟨_, _, h⟩ => h)) hl
  have hcl : (cutL l).length = cutN l L := by rw [cutL_len, hL]
  have HSZ : Hid ((w.alloc (.cells #[.bool neg, .slice A L c] 32)).heap.size = w.heap.size + 1) := by unfold Hid; simp
  have HB3 : Hid (w.heap.size + 1 = b2) := by unfold Hid; rw [← HSZ.out]; exact HB2.out
  have HS : Hid (w.heap.size ≤ b2 ∧ b2 < w0.heap.size) := by have h1 := HL0.out; have h2 := HB3.out; exact ⟨by omega, h1.2⟩
  clear HL0 HK0 ka
  obtain ⟨n, HN⟩ : ∃ n, Hid (cutN l L = n) := ⟨_, Lib.hid rfl⟩
  obtain ⟨g, HG⟩ : ∃ g, Hid (negN neg n = g) := ⟨_, Lib.hid rfl⟩
  rw [HN.out, HG.out] at hN
  rw [HN.out] at hcl
  have HCL := Lib.hid hcl
  clear h hL hcl
  unfold intV at hN ⊢
  go_enter Tryz.func57, Tryz.ntmps57
  go_upto_region 1 with (fail)
  rw [HW0.out]
  simp only [HB3.out]
  go_wp2_with (go_at_call 58; go_must (refine hN.mono ?_); rintro e w1 ⟨hk1, A', rfl, hs1, hl1⟩; have HK1 := Lib.hid hk1; have HS1 := Lib.hid hs1; have HL1 := Lib.hid hl1; clear hk1 hs1 hl1; obtain ⟨v0, v1, v2, v3, v4, v5, v6, v7, ⟨d0, d1, d2, d3, d4, d5, d6, d7⟩, f0, f1, f2, f3, f4, f5, f6, f7⟩ := eight (HT0.out.keep' HK1.out))
  obtain ⟨w2, e2, r2, k2⟩ := put8 (HT0.out.keep' HK1.out) ⟨3, 0, g, A', n, n, 0, 0, ⟨#[]⟩, none, 0, 0⟩ (.int .i8 3) (.int .u64 0) (.bool g) (.slice A' n n) (.int .u64 0) (.int .i8 0) (.string ⟨#[]⟩) (.slice none 0 0) rfl
  rw [e2.out]
  have HA := HS.out
  refine ret_v rfl rfl rfl r2 ⟨(HKA.out.then_ HK1.out).trans k2 (fun k h1 h2 => by omega), _, rfl, ?_⟩
  rw [HN.out, HG.out]
  refine Tr.int (HS1.out.keepD k2 HL1.out (fun k hk e => by omega)) (HL1.out.mono HS1.out (fun k _ hk => by omega)) HCL.out
end Go.Proofs.YteekndchkgdccaaGreatDoor

/- Small numbers as lists of limbs, as whole numbers. -/
namespace Go.Proofs.YteekndchkgdccaaGreatDoor
open Go.RowKit

/-- a small number's two limbs -/
def two32 (x : Nat) : List Nat := [x % 4294967296, x / 4294967296]
theorem two32_sl (w : World) (x : Nat) (T : TypeId) : Sl EU (w.alloc (.cells #[.int .u32 ((x % 4294967296 : Nat) : Int), .int .u32 ((x / 4294967296 : Nat) : Int)] T)) (some ⟨w.heap.size, 0, none⟩) 2 (two32 x) :=
  ⟨Nat.le_refl _, by decide, fun _ => ⟨_, _, rfl, range_alloc_new w _ T _ (fun j v hj => by simpa [two32, El.flat_cons, El.flat_nil, EU] using hj)⟩⟩
set_option maxRecDepth 100000 in
theorem nFrom_ok (x : Nat) (hx : x < 18446744073709551616) (w : World) :
    Calls Tryz.prog 65 #[.int .u64 (x : Int)] w fun e w' => Keep nob w w' ∧ ∃ A', e = .returned (.slice A' (cutN (two32 x) 2) (cutN (two32 x) 2)) ∧ Sl EU w' A' (cutN (two32 x) 2) (cutL (two32 x)) ∧ Lies (fun k => w.heap.size ≤ k) A' (cutL (two32 x)) := by
  obtain ⟨lo, HLO⟩ : ∃ lo : Nat, Hid (x % 4294967296 = lo) := ⟨_, Lib.hid rfl⟩
  obtain ⟨hi, HHI⟩ : ∃ hi : Nat, Hid (x / 4294967296 = hi) := ⟨_, Lib.hid rfl⟩
  have i1 : IntKind.u32.wrap (x : Int) = (lo : Int) := by rw [IntKind.wrap_u32, ← HLO.out]; omega
  have i2 : (x : Int) / 4294967296 = (hi : Int) := by rw [← HHI.out]; omega
  have i3 : IntKind.u32.wrap (hi : Int) = (hi : Int) := by rw [IntKind.wrap_u32, ← HHI.out]; omega
  have hs := two32_sl w x 49
  rw [HLO.out, HHI.out] at hs
  have hC := cut_ok (some ⟨w.heap.size, 0, none⟩) 2 2 (two32 x) _ rfl hs
  have HS := Lib.hid hs
  obtain ⟨n, HN⟩ : ∃ n, Hid (cutN (two32 x) 2 = n) := ⟨_, Lib.hid rfl⟩
  obtain ⟨l, HL⟩ : ∃ l, Hid (two32 x = l) := ⟨_, Lib.hid rfl⟩
  have HLL : Hid (l.length = 2) := by unfold Hid; rw [← HL.out]; rfl
  rw [HN.out] at hC
  rw [HL.out] at HS
  clear hs
  go_enter Tryz.func65, Tryz.ntmps65
  go_wp2_with (go_at_call 56; go_must (refine hC.mono ?_); rintro e w1 ⟨rfl, rfl⟩)
  go_ret
  have hcs := cut_sl HS.out
  rw [HN.out, HL.out]
  rw [HLL.out, ← HL.out, HN.out, HL.out] at hcs
  exact ⟨(Keep.refl _ _).alloc _, _, rfl, hcs, fun _ => ⟨_, rfl, Nat.le_refl _⟩⟩
end Go.Proofs.YteekndchkgdccaaGreatDoor

/- packread's families of numbers: small ones. -/
namespace Go.Proofs.YteekndchkgdccaaGreatDoor
open Go.RowKit

/-- a whole number's new cells -/
theorem start2 (w : World) : ∃ w0 b4, Hid (w.alloc (.cells #[.bool false, .slice none 0 0] 32) = w0) ∧ Hid (w.heap.size = b4) ∧ Hid (Keep nob w w0) ∧ Hid (w0.there b4 0 2) ∧ Hid (w.heap.size ≤ b4 ∧ b4 < w0.heap.size) :=
  ⟨_, _, Lib.hid rfl, Lib.hid rfl, Lib.hid ((Keep.refl _ _).alloc _), Lib.hid (there_alloc_new w _ _ 2 (Nat.le_refl _)), Lib.hid ⟨Nat.le_refl _, by simp⟩⟩
set_option maxRecDepth 100000 in
theorem wFrom_neg (x : Nat) (h0 : 0 < x) (hx : x < 9223372036854775808) (w : World) :
    Calls Tryz.prog 62 #[.int .i64 (-(x : Int))] w fun e w' => Keep nob w w' ∧ ∃ A', e = .returned (intV (decide (0 < cutN (two32 x) 2)) A' (cutN (two32 x) 2) (cutN (two32 x) 2)) ∧ Sl EU w' A' (cutN (two32 x) 2) (cutL (two32 x)) ∧ Lies (fun k => w.heap.size ≤ k) A' (cutL (two32 x)) := by
  obtain ⟨w0, b2, HW0, HB2, HK0, HT0, HL0⟩ := start2 w
  have hN := nFrom_ok x (by omega) w0
  obtain ⟨n, HN⟩ : ∃ n, Hid (cutN (two32 x) 2 = n) := ⟨_, Lib.hid rfl⟩
  obtain ⟨l, HL⟩ : ∃ l, Hid (cutL (two32 x) = l) := ⟨_, Lib.hid rfl⟩
  obtain ⟨z, HZ⟩ : ∃ z : Int, Hid (-(x : Int) = z) := ⟨_, Lib.hid rfl⟩
  rw [HN.out, HL.out] at hN ⊢
  rw [HZ.out]
  have hz : z < 0 := by have := HZ.out; omega
  obtain ⟨u, HU⟩ : ∃ u : Int, Hid (IntKind.u64.wrap z = u) := ⟨_, Lib.hid rfl⟩
  have i1 : IntKind.u64.wrap z = u := HU.out
  have i2 : IntKind.u64.wrap (-u) = (x : Int) := by rw [← HU.out, IntKind.wrap_u64, IntKind.wrap_u64, ← HZ.out]; omega
  have hu0 : 0 ≤ u := by rw [← HU.out, IntKind.wrap_u64]; omega
  clear h0
  go_enter Tryz.func62, Tryz.ntmps62
  go_upto_region 1 with (fail)
  rw [HW0.out, HB2.out]
  go_wp2_with (first
    | (go_at_call 65; go_must (refine hN.mono ?_); rintro e w1 ⟨hk1, A', rfl, hs1, hl1⟩; have HK1 := Lib.hid hk1; have HS1 := Lib.hid hs1; have HL1 := Lib.hid hl1; clear hk1 hs1 hl1)
    | (go_at_call 77; go_must (refine (made_ok _ _ _ _ _).mono ?_); rintro e w2 ⟨rfl, hk2⟩; unfold intV; have HK2 := Lib.hid hk2; clear hk2; obtain ⟨v0, v1, ⟨d0, d1⟩, f0, f1⟩ := two ((HT0.out.keep' HK1.out).keep' HK2.out)))
  obtain ⟨w3, e3, p0, p1, k3⟩ := put2 ((HT0.out.keep' HK1.out).keep' HK2.out) (.bool (decide (0 < n))) (.slice A' n n)
  rw [e3.out]
  have HA := HL0.out
  have k9 : Keep (· = b2) w0 w3 := ((HK1.out.then_ HK2.out).mono (fun _ _ h => h.elim)).then_ k3
  exact ret_int rfl rfl rfl p0 p1 ⟨HK0.out.trans k9 (fun k h1 h2 => by omega), A', rfl, (HS1.out.keep HK2.out (fun ⟨_, _, h⟩ => h)).keepD k3 HL1.out (fun k hk e => by omega), HL1.out.mono HS1.out (fun k _ hk => by omega)⟩

/-! ### families -/
/-- the words of whole numbers: by two limbs -/
def wholeV (x : Nat) : V := V.int (negN (negN false (cutN (two32 x) 2)) (cutN (cutL (two32 x)) (cutN (two32 x) 2))) (cutL (cutL (two32 x)))
def belowV (x : Nat) : V := V.int (negN (decide (0 < cutN (two32 x) 2)) (cutN (cutL (two32 x)) (cutN (two32 x) 2))) (cutL (cutL (two32 x)))
end Go.Proofs.YteekndchkgdccaaGreatDoor

/- packread's family of whole numbers. -/
namespace Go.Proofs.YteekndchkgdccaaGreatDoor
open Go.RowKit

end Go.Proofs.YteekndchkgdccaaGreatDoor

/- packread's families: what they answer; extensions. -/
namespace Go.Proofs.YteekndchkgdccaaGreatDoor
open Go.RowKit

/-- what a family answers, by what is read -/
def FamPost (sa : Nat → Addr) (b : Nat) (s : ByteArray) (op : Nat) (w : World) (x : R V) (e : Ending) (w' : World) : Prop := match x with
  | .ok v q => Keep (· = b) w w' ∧ (∃ fr, Rd w' b s q fr op) ∧ ∃ r, e = .returned (.tuple #[ER.val r, .nilIface]) ∧ Tr w' (fun k => w.heap.size ≤ k) r v
  | .bad c q => ∃ ev, e = .returned (.tuple #[ER.val Raw.zero, ev]) ∧ Keep (· = b) w w' ∧ FErr sa w' (fun k => w.heap.size ≤ k) ev c q

theorem take_size {s t : ByteArray} {p n q : Nat} (h : takeR s p n = .ok t q) : t = s.extract p (p + n) ∧ q = p + n ∧ (p ≤ s.size → q ≤ s.size) := by
  unfold takeR at h
  split at h
  · cases h
  · simp only [R.ok.injEq] at h
    exact ⟨h.1.symm, h.2.symm, fun _ => by omega⟩
theorem wrap_i8 (c : Nat) (h : c < 256) : IntKind.i8.wrap (c : Int) = if c < 128 then (c : Int) else (c : Int) - 256 := by
  have e1 : (c : Int) % 256 = (c : Int) := by omega
  by_cases hc : c < 128
  · have h2 : ¬ (c : Int) ≥ 128 := by omega
    simp [IntKind.wrap, IntKind.bits, IntKind.signed, e1, hc, h2]
  · have h2 : (c : Int) ≥ 128 := by omega
    simp [IntKind.wrap, IntKind.bits, IntKind.signed, e1, hc, h2]
theorem head_at {e : ByteArray} (h : 0 < e.size) : (e[0]'h).toNat = (bl e).headD 0 := by
  obtain ⟨⟨l⟩⟩ := e
  cases l with
  | nil => simp [ByteArray.size] at h
  | cons a l => rfl
end Go.Proofs.YteekndchkgdccaaGreatDoor

/- Code points: point, follow. -/
namespace Go.Proofs.YteekndchkgdccaaGreatDoor
open Go.RowKit

theorem point_ok (r : Nat) (w : World) : Calls Tryz.prog 87 #[.int .i32 (r : Int)] w fun e w' => e = .returned (.bool (pointN r)) ∧ w' = w := by
  have h0 : (0 : Int) ≤ (r : Int) := by omega
  by_cases h1 : r ≤ 0x10ffff
  · have i1 : (r : Int) ≤ 1114111 := by omega
    by_cases h2 : r < 0xd800
    · have i2 : (r : Int) < 55296 := by omega
      go_enter Tryz.func87, Tryz.ntmps87
      go_wp2
      go_ret
      simp [pointN, h1, h2]
    · have i2 : ¬ (r : Int) < 55296 := by omega
      by_cases h3 : 0xdfff < r
      · have i3 : (r : Int) > 57343 := by omega
        go_enter Tryz.func87, Tryz.ntmps87
        go_wp2
        go_ret
        simp [pointN, h1, h2, h3]
      · have i3 : ¬ (r : Int) > 57343 := by omega
        go_enter Tryz.func87, Tryz.ntmps87
        go_wp2
        go_ret
        simp [pointN, h1, h2, h3]
  · have i1 : ¬ (r : Int) ≤ 1114111 := by omega
    go_enter Tryz.func87, Tryz.ntmps87
    go_wp2
    go_ret
    simp [pointN, h1]
/-- the byte at a place, as a number -/
theorem byte_at {s : ByteArray} {i : Nat} (h : i < s.size) : (bl s)[i]? = some (s[i]'h).toNat := by
  obtain ⟨⟨l⟩⟩ := s
  have h' : i < l.length := by simpa [ByteArray.size] using h
  simp only [bl, List.getElem?_map, List.getElem?_eq_getElem h', Option.map_some]
  rfl
theorem and192 (c : Nat) (h : c < 256) : bits .and .u8 (c : Int) 192 = 128 ↔ c / 64 = 2 := by
  have := (show ∀ c : Fin 256, decide (bits .and .u8 ((c.val : Nat) : Int) 192 = 128) = decide (c.val / 64 = 2) by decide +kernel) ⟨c, h⟩
  simpa using this
theorem follow_ok (s : ByteArray) (p : Nat) (w : World) : Calls Tryz.prog 86 #[.string s, .int .i64 (p : Int)] w fun e w' =>
    (match (bl s)[p]? with
    | some b => if b / 64 = 2 then e = .returned (.tuple #[.int .i32 ((b % 64 : Nat) : Int), .bool true]) else e = .returned (.tuple #[.int .i32 0, .bool false])
    | none => e = .returned (.tuple #[.int .i32 0, .bool false])) ∧ w' = w := by
  have hp0 : (0 : Int) ≤ (p : Int) := by omega
  by_cases h : p < s.size
  · rw [byte_at h]
    obtain ⟨c, HC⟩ : ∃ c : Nat, Hid ((s[p]'h).toNat = c) := ⟨_, Lib.hid rfl⟩
    have hc : (s[p]'h).toNat = c := HC.out
    have hc1 : c < 256 := by rw [← hc]; exact UInt8.toNat_lt _
    have hi : ¬ (p : Int) ≥ (s.size : Int) := by omega
    dsimp only
    rw [hc]
    obtain ⟨m, HM⟩ : ∃ m : Int, Hid (bits .and .u8 (c : Int) 192 = m) := ⟨_, Lib.hid rfl⟩
    have hm := HM.out
    have hiff := and192 c hc1
    rw [hm] at hiff
    by_cases h2 : c / 64 = 2
    · have hm2 := hiff.2 h2
      subst hm2
      simp only [if_pos h2]
      clear hiff
      go_enter Tryz.func86, Tryz.ntmps86
      go_wp2
      go_ret2
      exact ⟨by simp, rfl⟩
    · have hm2 : ¬ m = 128 := fun e => h2 (hiff.1 e)
      simp only [if_neg h2]
      clear hiff
      go_enter Tryz.func86, Tryz.ntmps86
      go_wp2
      go_ret2
      exact ⟨rfl, rfl⟩
  · rw [List.getElem?_eq_none (by rw [show (bl s).length = s.size by simp [bl]]; omega)]
    have hi : (p : Int) ≥ (s.size : Int) := by omega
    go_enter Tryz.func86, Tryz.ntmps86
    go_wp2
    go_ret2
    exact ⟨rfl, rfl⟩
end Go.Proofs.YteekndchkgdccaaGreatDoor

/- The code point at a place of a text. -/
namespace Go.Proofs.YteekndchkgdccaaGreatDoor
open Go.RowKit

theorem and_cls (c : Nat) (h : c < 256) : (bits .and .u8 (c : Int) 224 = 192 ↔ c / 32 = 6) ∧ (bits .and .u8 (c : Int) 240 = 224 ↔ c / 16 = 14) ∧ (bits .and .u8 (c : Int) 248 = 240 ↔ c / 8 = 30) := by
  have h1 := (show ∀ c : Fin 256, decide (bits .and .u8 ((c.val : Nat) : Int) 224 = 192) = decide (c.val / 32 = 6) by decide +kernel) ⟨c, h⟩
  have h2 := (show ∀ c : Fin 256, decide (bits .and .u8 ((c.val : Nat) : Int) 240 = 224) = decide (c.val / 16 = 14) by decide +kernel) ⟨c, h⟩
  have h3 := (show ∀ c : Fin 256, decide (bits .and .u8 ((c.val : Nat) : Int) 248 = 240) = decide (c.val / 8 = 30) by decide +kernel) ⟨c, h⟩
  exact ⟨by simpa using h1, by simpa using h2, by simpa using h3⟩
/-- what First answers -/
def FirstE (x : Option (Nat × Nat)) : Ending := match x with
  | some (r, k) => .returned (.tuple #[.int .i32 (r : Int), .int .i64 (k : Int), .bool true])
  | none => .returned (.tuple #[.int .i32 0, .int .i64 0, .bool false])
theorem first_out (s : ByteArray) (p : Nat) (h : s.size ≤ p) (w : World) (hp : p < 9223372036854775808) : Calls Tryz.prog 74 #[.string s, .int .i64 (p : Int)] w fun e w' => e = FirstE none ∧ w' = w := by
  have h0 : ¬ (p : Int) < 0 := by omega
  have hi : (p : Int) ≥ (s.size : Int) := by omega
  go_enter Tryz.func74, Tryz.ntmps74
  go_wp2
  go_ret3
  exact ⟨rfl, rfl⟩
set_option maxRecDepth 100000 in
theorem first_one (s : ByteArray) (p c : Nat) (h : p < s.size) (hc : (s[p]'h).toNat = c) (h8 : c < 128) (w : World) : Calls Tryz.prog 74 #[.string s, .int .i64 (p : Int)] w fun e w' => e = FirstE (some (c, 1)) ∧ w' = w := by
  have h0 : (0 : Int) ≤ (p : Int) := by omega
  have hi : ¬ (p : Int) ≥ (s.size : Int) := by omega
  have h9 : (c : Int) < 128 := by omega
  have i1 : IntKind.i32.wrap (c : Int) = (c : Int) := by rw [IntKind.wrap_i32]; omega
  go_enter Tryz.func74, Tryz.ntmps74
  go_wp2
  go_ret3
  exact ⟨rfl, rfl⟩
end Go.Proofs.YteekndchkgdccaaGreatDoor

/- The code point at a place of a text: of several bytes. -/
namespace Go.Proofs.YteekndchkgdccaaGreatDoor
open Go.RowKit

/-- the tail of utf.First, from the loop on -/
def tailN (l : List Nat) (n r least : Nat) (i : Nat) : Option (Nat × Nat) := (contN l (n - i) r).bind fun r' => if least ≤ r' ∧ pointN r' = true then some (r', n) else none
theorem tail_step {l : List Nat} {q b n r least i : Nat} (h : l[q]? = some b) (hi : i < n) : tailN (l.drop q) n r least i = if b / 64 = 2 then tailN (l.drop (q + 1)) n (r * 64 + b % 64) least (i + 1) else none := by
  obtain ⟨hq, hb⟩ := List.getElem?_eq_some_iff.1 h
  unfold tailN
  rw [List.drop_eq_getElem_cons hq, hb, show n - i = (n - (i + 1)) + 1 by omega, contN]
  split <;> rfl
theorem tail_none {l : List Nat} {q n r least i : Nat} (h : l[q]? = none) (hi : i < n) : tailN (l.drop q) n r least i = none := by
  unfold tailN
  rw [List.drop_eq_nil_of_le (List.getElem?_eq_none_iff.1 h), show n - i = (n - (i + 1)) + 1 by omega, contN]
  rfl
theorem tail_end (l : List Nat) (n r least : Nat) : tailN l n r least n = if least ≤ r ∧ pointN r = true then some (r, n) else none := by
  unfold tailN
  rw [Nat.sub_self]
  cases l <;> rfl

set_option maxRecDepth 100000 in
theorem first_two (s : ByteArray) (p c : Nat) (h : p < s.size) (hs : s.size ≤ 1152921504606846976) (hc : (s[p]'h).toNat = c) (hd : c / 32 = 6) (w : World) :
    Calls Tryz.prog 74 #[.string s, .int .i64 (p : Int)] w fun e w' => e = FirstE (tailN ((bl s).drop (p + 1)) 2 (c % 32) 128 1) ∧ w' = w := by
  have h0 : (0 : Int) ≤ (p : Int) := by omega
  have hi : ¬ (p : Int) ≥ (s.size : Int) := by omega
  have h9 : ¬ (c : Int) < 128 := by omega
  have hc1 : c < 256 := by rw [← hc]; exact UInt8.toNat_lt _
  obtain ⟨a1, a2, a3⟩ := and_cls c hc1
  have b1 := a1.2 hd
  obtain ⟨r0, HR0⟩ : ∃ r0 : Nat, Hid (c % 32 = r0) := ⟨_, Lib.hid rfl⟩
  have i1 : (c : Int) % 32 = (r0 : Int) := by rw [← HR0.out]; omega
  have i2 : IntKind.i32.wrap (r0 : Int) = (r0 : Int) := by rw [IntKind.wrap_i32, ← HR0.out]; omega
  have HB0 : Hid (r0 < 64 ^ 1) := by unfold Hid; rw [← HR0.out]; omega
  have HP := Lib.hid h
  have HS := Lib.hid hs
  rw [HR0.out]
  clear a1 a2 a3
  go_enter Tryz.func74, Tryz.ntmps74
  go_wp2_with (fail)
  go_loopw [4, 5, 6, 9, 10, 11] (fun u4 u5 u6 u9 u10 u11 wr => ∃ i r : Nat, 1 ≤ i ∧ i ≤ 2 ∧ u4 = .int .i32 (r : Int) ∧ u5 = .int .i64 2 ∧ u6 = .bool false ∧ u9 = .int .i64 (i : Int) ∧ Hid (r < 64 ^ i) ∧ Hid (tailN ((bl s).drop (p + i)) 2 r 128 i = tailN ((bl s).drop (p + 1)) 2 r0 128 1) ∧ Hid (wr = w)) (fun _ _ _ u9 _ _ _ => 2 - (intOf u9).toNat)
  case atStart => exact ⟨1, r0, by decide, by decide, rfl, rfl, rfl, rfl, HB0, Lib.hid rfl, Lib.hid rfl⟩
  case round =>
    obtain ⟨i, r, h1, h2, rfl, rfl, rfl, rfl, HB, HT, HW⟩ := hrel
    have HW2 := HW.out
    subst HW2
    have hr : r < 16777216 := by
      have := HB.out
      have h3 : 64 ^ i ≤ 64 ^ 4 := Nat.pow_le_pow_right (by decide) (by omega)
      omega
    by_cases hlt : i < 2
    · have hlt2 : (i : Int) < 2 := by omega
      obtain ⟨q, HQ⟩ : ∃ q : Nat, Hid (p + i = q) := ⟨_, Lib.hid rfl⟩
      have hq1 : IntKind.i64.wrap ((p : Int) + (i : Int)) = (q : Int) := by have := HQ.out; rw [IntWalk.i64_left, IntWalk.wrap64_in _ ⟨by omega, by omega⟩]; omega
      have hF := follow_ok s q wr
      have hi3 : IntKind.i64.wrap ((i : Int) + 1) = ((i + 1 : Nat) : Int) := by rw [IntWalk.i64_left, IntWalk.wrap64_in _ ⟨by omega, by omega⟩]; omega
      have hend : ∀ x, x = none → FirstE x = .returned (.tuple #[.int .i32 0, .int .i64 0, .bool false]) := fun x hx => by subst hx; rfl
      cases hb : (bl s)[q]? with
      | none =>
        rw [hb] at hF
        dsimp only at hF
        have HE : Hid (tailN ((bl s).drop (p + i)) 2 r 128 i = none) := by unfold Hid; rw [HQ.out]; exact tail_none hb hlt
        go_wp2_with (go_at_call 86; go_must (refine hF.mono ?_); rintro e w1 ⟨rfl, rfl⟩)
        go_ret3
        rw [← HT.out, HE.out]
        exact ⟨rfl, rfl⟩
      | some b =>
        rw [hb] at hF
        dsimp only at hF
        have HE : Hid (tailN ((bl s).drop (p + i)) 2 r 128 i = if b / 64 = 2 then tailN ((bl s).drop (q + 1)) 2 (r * 64 + b % 64) 128 (i + 1) else none) := by unfold Hid; rw [HQ.out]; exact tail_step hb hlt
        by_cases hb2 : b / 64 = 2
        · simp only [if_pos hb2] at hF
          rw [if_pos hb2] at HE
          obtain ⟨y, HY⟩ : ∃ y : Nat, Hid (b % 64 = y) := ⟨_, Lib.hid rfl⟩
          rw [HY.out] at hF HE
          have hy : y < 64 := by rw [← HY.out]; omega
          have hs6 : IntKind.i32.wrap ((r : Int) * 64) = ((r * 64 : Nat) : Int) := by rw [IntKind.wrap_i32]; omega
          have hor : bits .or .i32 ((r * 64 : Nat) : Int) (y : Int) = ((r * 64 + y : Nat) : Int) := by
            have h7 := i32_or6 (x := ((r * 64 : Nat) : Int)) (y := (y : Int)) (by omega) (by omega) (by omega) (by omega) (by omega)
            rw [h7]; omega
          obtain ⟨r1, HR1⟩ : ∃ r1 : Nat, Hid (r * 64 = r1) := ⟨_, Lib.hid rfl⟩
          obtain ⟨r2, HR2⟩ : ∃ r2 : Nat, Hid (r1 + y = r2) := ⟨_, Lib.hid rfl⟩
          rw [HR1.out] at hs6 hor HE
          rw [HR2.out] at hor HE
          go_wp2_with (go_at_call 86; go_must (refine hF.mono ?_); rintro e w1 ⟨rfl, rfl⟩)
          refine ⟨⟨i + 1, r2, by omega, by omega, rfl, rfl, rfl, rfl, ?_, ?_, Lib.hid trivial⟩, by simp [intOf]; omega⟩
          · have hB := HB.out
            have h5 := HR1.out
            have h6 := HR2.out
            unfold Hid
            rw [Nat.pow_succ]
            omega
          · unfold Hid
            rw [← HT.out, HE.out, show p + (i + 1) = q + 1 by have := HQ.out; omega]
        · simp only [if_neg hb2] at hF
          rw [if_neg hb2] at HE
          go_wp2_with (go_at_call 86; go_must (refine hF.mono ?_); rintro e w1 ⟨rfl, rfl⟩)
          go_ret3
          rw [← HT.out, HE.out]
          exact ⟨rfl, rfl⟩
    · obtain rfl : i = 2 := by omega
      have hP := point_ok r wr
      have HE := HT.out
      rw [tail_end] at HE
      by_cases hl : r < 128
      · have hli : (r : Int) < 128 := by omega
        rw [if_neg (fun hh => by omega)] at HE
        have HE := Lib.hid HE
        go_wp2_with (go_at_call 87; go_must (refine hP.mono ?_); rintro e w1 ⟨rfl, rfl⟩)
        go_ret3
        rw [← HE.out]
        exact ⟨rfl, rfl⟩
      · have hli : ¬ (r : Int) < 128 := by omega
        cases hpt : pointN r with
        | true =>
          rw [hpt] at hP
          rw [if_pos ⟨by omega, hpt⟩] at HE
          have HE := Lib.hid HE
          go_wp2_with (go_at_call 87; go_must (refine hP.mono ?_); rintro e w1 ⟨rfl, rfl⟩)
          go_ret3
          rw [← HE.out]
          exact ⟨rfl, rfl⟩
        | false =>
          rw [hpt] at hP
          rw [if_neg (fun hh => by rw [hpt] at hh; cases hh.2)] at HE
          have HE := Lib.hid HE
          go_wp2_with (go_at_call 87; go_must (refine hP.mono ?_); rintro e w1 ⟨rfl, rfl⟩)
          go_ret3
          rw [← HE.out]
          exact ⟨rfl, rfl⟩
end Go.Proofs.YteekndchkgdccaaGreatDoor

/- The code point at a place of a text: of several bytes. -/
namespace Go.Proofs.YteekndchkgdccaaGreatDoor
open Go.RowKit


set_option maxRecDepth 100000 in
theorem first_three (s : ByteArray) (p c : Nat) (h : p < s.size) (hs : s.size ≤ 1152921504606846976) (hc : (s[p]'h).toNat = c) (hd : c / 16 = 14) (w : World) :
    Calls Tryz.prog 74 #[.string s, .int .i64 (p : Int)] w fun e w' => e = FirstE (tailN ((bl s).drop (p + 1)) 3 (c % 16) 2048 1) ∧ w' = w := by
  have h0 : (0 : Int) ≤ (p : Int) := by omega
  have hi : ¬ (p : Int) ≥ (s.size : Int) := by omega
  have h9 : ¬ (c : Int) < 128 := by omega
  have hc1 : c < 256 := by rw [← hc]; exact UInt8.toNat_lt _
  obtain ⟨a1, a2, a3⟩ := and_cls c hc1
  have b0 : ¬ bits .and .u8 (c : Int) 224 = 192 := fun e => by have := a1.1 e; omega
  have b1 := a2.2 hd
  obtain ⟨r0, HR0⟩ : ∃ r0 : Nat, Hid (c % 16 = r0) := ⟨_, Lib.hid rfl⟩
  have i1 : (c : Int) % 16 = (r0 : Int) := by rw [← HR0.out]; omega
  have i2 : IntKind.i32.wrap (r0 : Int) = (r0 : Int) := by rw [IntKind.wrap_i32, ← HR0.out]; omega
  have HB0 : Hid (r0 < 64 ^ 1) := by unfold Hid; rw [← HR0.out]; omega
  have HP := Lib.hid h
  have HS := Lib.hid hs
  rw [HR0.out]
  clear a1 a2 a3
  go_enter Tryz.func74, Tryz.ntmps74
  go_wp2_with (fail)
  go_loopw [4, 5, 6, 9, 10, 11] (fun u4 u5 u6 u9 u10 u11 wr => ∃ i r : Nat, 1 ≤ i ∧ i ≤ 3 ∧ u4 = .int .i32 (r : Int) ∧ u5 = .int .i64 3 ∧ u6 = .bool false ∧ u9 = .int .i64 (i : Int) ∧ Hid (r < 64 ^ i) ∧ Hid (tailN ((bl s).drop (p + i)) 3 r 2048 i = tailN ((bl s).drop (p + 1)) 3 r0 2048 1) ∧ Hid (wr = w)) (fun _ _ _ u9 _ _ _ => 3 - (intOf u9).toNat)
  case atStart => exact ⟨1, r0, by decide, by decide, rfl, rfl, rfl, rfl, HB0, Lib.hid rfl, Lib.hid rfl⟩
  case round =>
    obtain ⟨i, r, h1, h2, rfl, rfl, rfl, rfl, HB, HT, HW⟩ := hrel
    have HW2 := HW.out
    subst HW2
    have hr : r < 16777216 := by
      have := HB.out
      have h3 : 64 ^ i ≤ 64 ^ 4 := Nat.pow_le_pow_right (by decide) (by omega)
      omega
    by_cases hlt : i < 3
    · have hlt2 : (i : Int) < 3 := by omega
      obtain ⟨q, HQ⟩ : ∃ q : Nat, Hid (p + i = q) := ⟨_, Lib.hid rfl⟩
      have hq1 : IntKind.i64.wrap ((p : Int) + (i : Int)) = (q : Int) := by have := HQ.out; rw [IntWalk.i64_left, IntWalk.wrap64_in _ ⟨by omega, by omega⟩]; omega
      have hF := follow_ok s q wr
      have hi3 : IntKind.i64.wrap ((i : Int) + 1) = ((i + 1 : Nat) : Int) := by rw [IntWalk.i64_left, IntWalk.wrap64_in _ ⟨by omega, by omega⟩]; omega
      have hend : ∀ x, x = none → FirstE x = .returned (.tuple #[.int .i32 0, .int .i64 0, .bool false]) := fun x hx => by subst hx; rfl
      cases hb : (bl s)[q]? with
      | none =>
        rw [hb] at hF
        dsimp only at hF
        have HE : Hid (tailN ((bl s).drop (p + i)) 3 r 2048 i = none) := by unfold Hid; rw [HQ.out]; exact tail_none hb hlt
        go_wp2_with (go_at_call 86; go_must (refine hF.mono ?_); rintro e w1 ⟨rfl, rfl⟩)
        go_ret3
        rw [← HT.out, HE.out]
        exact ⟨rfl, rfl⟩
      | some b =>
        rw [hb] at hF
        dsimp only at hF
        have HE : Hid (tailN ((bl s).drop (p + i)) 3 r 2048 i = if b / 64 = 2 then tailN ((bl s).drop (q + 1)) 3 (r * 64 + b % 64) 2048 (i + 1) else none) := by unfold Hid; rw [HQ.out]; exact tail_step hb hlt
        by_cases hb2 : b / 64 = 2
        · simp only [if_pos hb2] at hF
          rw [if_pos hb2] at HE
          obtain ⟨y, HY⟩ : ∃ y : Nat, Hid (b % 64 = y) := ⟨_, Lib.hid rfl⟩
          rw [HY.out] at hF HE
          have hy : y < 64 := by rw [← HY.out]; omega
          have hs6 : IntKind.i32.wrap ((r : Int) * 64) = ((r * 64 : Nat) : Int) := by rw [IntKind.wrap_i32]; omega
          have hor : bits .or .i32 ((r * 64 : Nat) : Int) (y : Int) = ((r * 64 + y : Nat) : Int) := by
            have h7 := i32_or6 (x := ((r * 64 : Nat) : Int)) (y := (y : Int)) (by omega) (by omega) (by omega) (by omega) (by omega)
            rw [h7]; omega
          obtain ⟨r1, HR1⟩ : ∃ r1 : Nat, Hid (r * 64 = r1) := ⟨_, Lib.hid rfl⟩
          obtain ⟨r2, HR2⟩ : ∃ r2 : Nat, Hid (r1 + y = r2) := ⟨_, Lib.hid rfl⟩
          rw [HR1.out] at hs6 hor HE
          rw [HR2.out] at hor HE
          go_wp2_with (go_at_call 86; go_must (refine hF.mono ?_); rintro e w1 ⟨rfl, rfl⟩)
          refine ⟨⟨i + 1, r2, by omega, by omega, rfl, rfl, rfl, rfl, ?_, ?_, Lib.hid trivial⟩, by simp [intOf]; omega⟩
          · have hB := HB.out
            have h5 := HR1.out
            have h6 := HR2.out
            unfold Hid
            rw [Nat.pow_succ]
            omega
          · unfold Hid
            rw [← HT.out, HE.out, show p + (i + 1) = q + 1 by have := HQ.out; omega]
        · simp only [if_neg hb2] at hF
          rw [if_neg hb2] at HE
          go_wp2_with (go_at_call 86; go_must (refine hF.mono ?_); rintro e w1 ⟨rfl, rfl⟩)
          go_ret3
          rw [← HT.out, HE.out]
          exact ⟨rfl, rfl⟩
    · obtain rfl : i = 3 := by omega
      have hP := point_ok r wr
      have HE := HT.out
      rw [tail_end] at HE
      by_cases hl : r < 2048
      · have hli : (r : Int) < 2048 := by omega
        rw [if_neg (fun hh => by omega)] at HE
        have HE := Lib.hid HE
        go_wp2_with (go_at_call 87; go_must (refine hP.mono ?_); rintro e w1 ⟨rfl, rfl⟩)
        go_ret3
        rw [← HE.out]
        exact ⟨rfl, rfl⟩
      · have hli : ¬ (r : Int) < 2048 := by omega
        cases hpt : pointN r with
        | true =>
          rw [hpt] at hP
          rw [if_pos ⟨by omega, hpt⟩] at HE
          have HE := Lib.hid HE
          go_wp2_with (go_at_call 87; go_must (refine hP.mono ?_); rintro e w1 ⟨rfl, rfl⟩)
          go_ret3
          rw [← HE.out]
          exact ⟨rfl, rfl⟩
        | false =>
          rw [hpt] at hP
          rw [if_neg (fun hh => by rw [hpt] at hh; cases hh.2)] at HE
          have HE := Lib.hid HE
          go_wp2_with (go_at_call 87; go_must (refine hP.mono ?_); rintro e w1 ⟨rfl, rfl⟩)
          go_ret3
          rw [← HE.out]
          exact ⟨rfl, rfl⟩
end Go.Proofs.YteekndchkgdccaaGreatDoor
