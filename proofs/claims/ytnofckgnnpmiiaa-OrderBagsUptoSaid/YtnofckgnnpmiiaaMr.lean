/- What holds at each round of merge: over any elements. -/
import Derived.Test.YtnofckgnnpmiiaaOrd
namespace Go.Proofs.Ytnofckgnnpmiiaa
open Go.RowKit

/-- The world is filled in block b, n cells from o on, and at S's blocks alone. -/
structure Fill (S : Nat → Prop) (b o n : Nat) (w w' : World) : Prop where
  keep : Keep (fun k => S k ∨ k = b) w w'
  there : ∀ o' n', w.there b o' n' → w'.there b o' n'
  rest : ∀ o' cs, w.rangeAt b o' cs → (o' + cs.length ≤ o ∨ o + n ≤ o') → w'.rangeAt b o' cs

namespace Fill
variable {S : Nat → Prop} {b o n : Nat} {w w1 w2 : World}
theorem refl (S : Nat → Prop) (b o n : Nat) (w : World) : Fill S b o n w w := ⟨Keep.refl _ _, fun _ _ h => h, fun _ _ h _ => h⟩
theorem kept (h : Fill S b o n w w1) (k : Keep S w1 w2) (hb : ¬ S b) : Fill S b o n w w2 :=
  ⟨h.keep.then_ (k.mono fun _ _ h => .inl h), fun o' n' ht => k.there (h.there o' n' ht) hb, fun o' cs hr hd => k.range (h.rest o' cs hr hd) hb⟩
theorem setCells (h : Fill S b o n w w1) {o1 : Nat} {vs : List Value} (h1 : o ≤ o1) (h2 : o1 + vs.length ≤ o + n) : Fill S b o n w (w1.setCells b o1 vs) :=
  ⟨h.keep.setCells vs o1 (fun _ => .inr rfl), fun o' n' ht => World.there_setCells (h.there o' n' ht) b o1 vs,
    fun o' cs hr hd => World.rangeAt_setCells_apart (h.rest o' cs hr hd) b o1 vs (by omega)⟩
theorem trans {S : Nat → Prop} (h : Fill S b o n w w1) (k : Fill S b o n w1 w2) : Fill S b o n w w2 :=
  ⟨h.keep.then_ k.keep, fun o' n' ht => k.there _ _ (h.there o' n' ht), fun o' cs hr hd => k.rest _ _ (h.rest o' cs hr hd) hd⟩
theorem widen {o' n' : Nat} (h : Fill S b o n w w1) (h1 : o' ≤ o) (h2 : o + n ≤ o' + n') : Fill S b o' n' w w1 :=
  ⟨h.keep, h.there, fun p cs hr hd => h.rest p cs hr (by omega)⟩
theorem of_drew (h : Fill S b o n w.drew w1) : Fill S b o n w w1 := ⟨⟨h.keep.os, h.keep.tape, h.keep.output, h.keep.size, h.keep.block⟩, h.there, h.rest⟩
end Fill

theorem Keep.of_drew {S : Nat → Prop} {w w1 : World} (h : Keep S w.drew w1) : Keep S w w1 := ⟨h.os, h.tape, h.output, h.size, h.block⟩
theorem Keep.of_drewN {S : Nat → Prop} {w w1 : World} {n : Nat} (h : Keep S (w.drewN n) w1) : Keep S w w1 := ⟨h.os, h.tape, h.output, h.size, h.block⟩
theorem Keep.mk_alloc (S : Nat → Prop) (w : World) (o : Obj) : Keep S w (w.alloc o) := (Keep.refl S w).alloc o

/-- 'cutA' as the walk spells it at k = 1. -/
theorem cutA_some (b o c sz : Nat) (h : 1 ≤ c) : (if c = 1 then some (⟨b, o, none⟩ : Addr) else some ⟨b, o + sz, none⟩) = cutA (some ⟨b, o, none⟩) c 1 sz := by
  unfold cutA
  by_cases h1 : c = 1
  · rw [if_pos h1, if_pos (by omega)]
  · rw [if_neg h1, if_neg (by omega), Option.map_some, Addr.add_mid, Nat.one_mul]

structure MR {α : Type} (E : El α) (c : α → α → Int) (S : Nat → Prop) (I : Nat → World → Prop) (n tb to_ : Nat) (xs ys : List α) (w : World) (ms al bl : List α) (A' : Option Addr) (c1' : Nat) (B' : Option Addr) (c2' : Nat) (wr : World) : Prop where
  sa : Sl E wr A' c1' al
  sb : Sl E wr B' c2' bl
  na : ¬ InB (fun k => S k ∨ k = tb) A'
  nb : ¬ InB (fun k => S k ∨ k = tb) B'
  m : mergeL c xs ys = ms ++ mergeL c al bl
  len : ms.length + al.length + bl.length = xs.length + ys.length
  r : wr.rangeAt tb to_ (E.flat ms)
  fill : Fill S tb to_ ((xs.length + ys.length) * E.sz) w wr
  q : ∃ q, q ≤ ms.length ∧ I (n + q) wr

namespace MR
variable {α : Type} {E : El α} {c : α → α → Int} {S : Nat → Prop} {I : Nat → World → Prop} {n tb to_ B : Nat} {xs ys : List α} {w : World} {ms al bl : List α} {A' : Option Addr} {c1' : Nat} {B' : Option Addr} {c2' : Nat} {wr : World}
theorem room (h : MR E c S I n tb to_ xs ys w ms al bl A' c1' B' c2' wr) (hth : w.there tb to_ ((xs.length + ys.length) * E.sz)) : wr.there tb (to_ + ms.length * E.sz) ((al.length + bl.length) * E.sz) :=
  there_sub (h.fill.there _ _ hth) (by omega) (by rw [← h.len, Nat.add_assoc, Nat.add_assoc, Nat.add_mul ms.length]; omega)
/-- a range behind what is laid -/
theorem laid {w1 : World} {vs : List α} (hr : w1.rangeAt tb to_ (E.flat ms)) (hth : w1.there tb (to_ + ms.length * E.sz) (vs.length * E.sz)) : (w1.setCells tb (to_ + ms.length * E.sz) (E.flat vs)).rangeAt tb to_ (E.flat (ms ++ vs)) := by
  rw [E.flat_app, range_app, E.flat_len]
  exact ⟨World.rangeAt_setCells_apart hr _ _ _ (.inr (.inl (by rw [E.flat_len]; omega))), World.rangeAt_setCells_same _ _ _ _ (by rw [E.flat_len]; exact hth)⟩
theorem stepG (h : MR E c S I n tb to_ xs ys w ms al bl A' c1' B' c2' wr) (hS : ¬ S tb) (hB : B ≤ wr.heap.size) (htb : B ≤ tb) (hst : ∀ n w w', I n w → Below B w w' → I n w') (hth : w.there tb to_ ((xs.length + ys.length) * E.sz))
    {w1 w2 : World} (hk : Keep S wr w1) {p q : Nat} (hq : q ≤ ms.length + p) (hI : I (n + q) w1) (vs al' bl' : List α) (hp : p ≤ vs.length) (hal : ∃ ua, ∃ k, k ≤ al.length ∧ al' = al.drop k ∧ ua = k) (A'' : Option Addr) (c1'' : Nat) (B'' : Option Addr) (c2'' : Nat)
    (hm : mergeL c al bl = vs ++ mergeL c al' bl') (hl : vs.length + al'.length + bl'.length = al.length + bl.length)
    (sa : ∀ W, Sl E W A' c1' al → Sl E W A'' c1'' al') (sb : ∀ W, Sl E W B' c2' bl → Sl E W B'' c2'' bl') (na : ¬ InB (fun k => S k ∨ k = tb) A'') (nb : ¬ InB (fun k => S k ∨ k = tb) B'')
    (o : Obj) (hw2 : w2 = (w1.alloc o).setCells tb (to_ + ms.length * E.sz) (E.flat vs)) : MR E c S I n tb to_ xs ys w (ms ++ vs) al' bl' A'' c1'' B'' c2'' w2 := by
  have hk2 : Keep S wr (w1.alloc o) := hk.alloc o
  have hk3 : Keep (fun k => S k ∨ k = tb) wr w2 := by rw [hw2]; exact (hk2.mono (fun _ _ h => .inl h)).setCells _ _ (fun _ => .inr rfl)
  have hroom := hk2.there (h.room hth) hS
  have hlen : vs.length * E.sz ≤ (al.length + bl.length) * E.sz := Nat.mul_le_mul_right _ (by omega)
  have hlen2 : ms.length * E.sz + vs.length * E.sz ≤ (xs.length + ys.length) * E.sz := by rw [← Nat.add_mul]; exact Nat.mul_le_mul_right _ (by have := h.len; omega)
  refine ⟨sa _ (h.sa.keep hk3 h.na), sb _ (h.sb.keep hk3 h.nb), na, nb, by rw [h.m, hm, List.append_assoc], by rw [List.length_append]; have := h.len; omega, ?_, ?_, q, by rw [List.length_append]; omega, ?_⟩
  · rw [hw2]; exact laid (hk2.range h.r hS) (there_sub hroom (Nat.le_refl _) (by omega))
  · rw [hw2]; exact (h.fill.kept hk2 hS).setCells (by omega) (by rw [E.flat_len]; omega)
  · refine hst _ _ _ hI ?_
    rw [hw2]
    exact (((Keep.refl (fun k => k = tb) w1).alloc o).setCells _ _ (fun _ => rfl)).below (by have := hk.size; omega) (fun k hk e => by omega)
theorem stepY (h : MR E c S I n tb to_ xs ys w ms al bl A' c1' B' c2' wr) (hS : ¬ S tb) (hB : B ≤ wr.heap.size) (htb : B ≤ tb) (hst : ∀ n w w', I n w → Below B w w' → I n w') (hth : w.there tb to_ ((xs.length + ys.length) * E.sz))
    {w1 w2 : World} (hk : Keep S wr w1) {q : Nat} (hq : q ≤ ms.length) (hI : I (n + q + 1) w1) {x y : α} (hx : al[0]? = some x) (hy : bl[0]? = some y) (hc : c y x < 0) (o : Obj)
    (hw2 : w2 = (w1.alloc o).setCells tb (to_ + ms.length * E.sz) (E.flat [y])) : MR E c S I n tb to_ xs ys w (ms ++ [y]) al (bl.drop 1) A' c1' (cutA B' c2' 1 E.sz) (c2' - 1) w2 := by
  obtain ⟨al, rfl⟩ : ∃ r, al = x :: r := by cases al with | nil => simp at hx | cons z r => simp at hx; subst hx; exact ⟨r, rfl⟩
  obtain ⟨bl, rfl⟩ : ∃ r, bl = y :: r := by cases bl with | nil => simp at hy | cons z r => simp at hy; subst hy; exact ⟨r, rfl⟩
  refine h.stepG hS hB htb hst hth hk (p := 1) (q := q + 1) (by omega) hI [y] (x :: al) bl (by simp) ⟨_, 0, by simp, rfl, rfl⟩ _ _ _ _ (mergeL_y hc) (by simp; omega) (fun W hW => hW) (fun W hW => hW.drop (k := 1) (by simp)) h.na (inB_cutA h.nb) o hw2
theorem stepX (h : MR E c S I n tb to_ xs ys w ms al bl A' c1' B' c2' wr) (hS : ¬ S tb) (hB : B ≤ wr.heap.size) (htb : B ≤ tb) (hst : ∀ n w w', I n w → Below B w w' → I n w') (hth : w.there tb to_ ((xs.length + ys.length) * E.sz))
    {w1 w2 : World} (hk : Keep S wr w1) {q : Nat} (hq : q ≤ ms.length) (hI : I (n + q + 1) w1) {x y : α} (hx : al[0]? = some x) (hy : bl[0]? = some y) (hc : ¬ c y x < 0) (o : Obj)
    (hw2 : w2 = (w1.alloc o).setCells tb (to_ + ms.length * E.sz) (E.flat [x])) : MR E c S I n tb to_ xs ys w (ms ++ [x]) (al.drop 1) bl (cutA A' c1' 1 E.sz) (c1' - 1) B' c2' w2 := by
  obtain ⟨al, rfl⟩ : ∃ r, al = x :: r := by cases al with | nil => simp at hx | cons z r => simp at hx; subst hx; exact ⟨r, rfl⟩
  obtain ⟨bl, rfl⟩ : ∃ r, bl = y :: r := by cases bl with | nil => simp at hy | cons z r => simp at hy; subst hy; exact ⟨r, rfl⟩
  refine h.stepG hS hB htb hst hth hk (p := 1) (q := q + 1) (by omega) hI [x] al (y :: bl) (by simp) ⟨_, 1, by simp, rfl, rfl⟩ _ _ _ _ (mergeL_x hc) (by simp; omega) (fun W hW => hW.drop (k := 1) (by simp)) (fun W hW => hW) (inB_cutA h.na) h.nb o hw2
/-- both rests put behind -/
theorem finish (h : MR E c S I n tb to_ xs ys w ms al bl A' c1' B' c2' wr) (hB : B ≤ wr.heap.size) (htb : B ≤ tb) (hst : ∀ n w w', I n w → Below B w w' → I n w') (hth : w.there tb to_ ((xs.length + ys.length) * E.sz))
    (he : al = [] ∨ bl = []) {w1 w2 : World} (hw1 : w1 = wr.setCells tb (to_ + ms.length * E.sz) (E.flat al)) (hw2 : w2 = w1.setCells tb (to_ + (ms.length + al.length) * E.sz) (E.flat bl)) :
    w2.rangeAt tb to_ (E.flat (mergeL c xs ys)) ∧ Fill S tb to_ ((xs.length + ys.length) * E.sz) w w2 ∧ ∃ q, q ≤ xs.length + ys.length ∧ I (n + q) w2 := by
  have hroom := h.room hth
  have e1 : mergeL c xs ys = (ms ++ al) ++ bl := by
    rw [h.m, List.append_assoc]
    rcases he with rfl | rfl
    · simp [mergeL]
    · simp [mergeL_nil]
  have hl2 : ms.length * E.sz + (al.length + bl.length) * E.sz = (xs.length + ys.length) * E.sz := by rw [← Nat.add_mul]; congr 1; have := h.len; omega
  rw [Nat.add_mul] at hl2 hroom
  have r1 : w1.rangeAt tb to_ (E.flat (ms ++ al)) := by rw [hw1]; exact laid h.r (there_sub hroom (Nat.le_refl _) (by omega))
  have t1 : w1.there tb (to_ + ms.length * E.sz) (al.length * E.sz + bl.length * E.sz) := by rw [hw1]; exact World.there_setCells hroom _ _ _
  have r2 : w2.rangeAt tb to_ (E.flat (ms ++ al ++ bl)) := by
    rw [hw2, ← List.length_append]
    refine laid r1 (there_sub t1 (by rw [List.length_append, Nat.add_mul]; omega) (by rw [List.length_append, Nat.add_mul]; omega))
  obtain ⟨q, hq, hI⟩ := h.q
  refine ⟨by rw [e1]; exact r2, ?_, q, by have := h.len; omega, hst _ _ _ hI ?_⟩
  · rw [hw2, hw1]
    exact (h.fill.setCells (by omega) (by rw [E.flat_len]; omega)).setCells (by omega) (by rw [E.flat_len, Nat.add_mul]; omega)
  · rw [hw2, hw1]
    exact (((Keep.refl (fun k => k = tb) wr).setCells _ _ (fun _ => rfl)).setCells _ _ (fun _ => rfl)).below hB (fun k hk e => by omega)
end MR
end Go.Proofs.Ytnofckgnnpmiiaa
