/- What holds between two passes of Sort; how a function leaves that has ranged over functions. -/
import Derived.Test.YtnofckgnnpmiiaaPs
namespace Go.Proofs.Ytnofckgnnpmiiaa
open Go.RowKit Go.Shelf

theorem calls_of_marks {P : Program} {f : FuncId} {fn : Func} {c : Code} {args : Array Value} {w : World} {R : Ending → World → Prop} (hf : P.funcs[f]? = some fn) (hb : fn.body = some c)
    (h : c.wp P (bodyPostM Fence.wide 9 P fn R) { tmps := args ++ Array.replicate (fn.ntmps - args.size) undef, defers := [] } w) : Calls P f args w R :=
  callsIn_wide.1 (callsIn_of_wp_marks (F := Fence.wide) (n := 9) hf hb trivial (wpIn_wide.2 h) rfl)

theorem wp_of_wide (n : Nat) {P : Program} {c : Code} {Q : Exit → Act → World → Prop} {a : Act} {w : World} (h : c.wpIn Fence.wide n P Q a w) : c.wp P Q a w := wpIn_wide.1 h

def marks (Ds : List Nat) : List Deferred := Ds.map fun D => { target := .collected D, args := #[] }
theorem CK.refl (W : World) : CK W W := fun _ _ h => ⟨h, rfl⟩
theorem CK.trans {A B C : World} (h : CK A B) (k : CK B C) : CK A C := fun a v hc => by
  obtain ⟨h1, h2⟩ := h a v hc
  obtain ⟨h3, h4⟩ := k a v h1
  exact ⟨h3, h4.trans h2⟩
theorem leaves_marks {F : Fence} {n : Nat} {P : Program} {fn : Func} {tmps : Array Value} {R : Ending → World → Prop} : ∀ (Ds : List Nat) (W : World), Ds.Nodup → (∀ D ∈ Ds, W.heap[D]? = some (.deferred (some []))) →
    (∀ W', Keep (fun k => k ∈ Ds) W W' → CK W W' → ∃ v, (results fn tmps).run P W' = .ok v W' ∧ R (.returned v) W') → LeavesInM F n P fn tmps R (marks Ds) .returning W
  | [], W, _, _, h => by
    obtain ⟨v, h1, h2⟩ := h W (Keep.refl _ _) (CK.refl _)
    exact ⟨v, h1, h2⟩
  | D :: Ds, W, hn, hD, h => by
    have h0 := hD D (by simp)
    have hg := grownBy_putObj' W D (.deferred none)
    have hck : CK W (W.putObj D (.deferred none)) := CK.of_grown hg (fun r e => by cases e; exact ⟨_, h0, rfl⟩)
    have hk : Keep (fun k => k ∈ D :: Ds) W (W.putObj D (.deferred none)) := ⟨hg.os, hg.tape, hg.output, hg.size, fun k hk hS => hg.block k hk (fun e => by cases e; exact hS (by simp))⟩
    rw [List.nodup_cons] at hn
    refine ⟨by simp, .inl ⟨D, _, rfl, run_takeDeferred h0, leaves_marks Ds _ hn.2 (fun E hE => ?_) (fun W' k1 k2 => h W' (hk.then_ (k1.mono fun _ _ h => List.mem_cons_of_mem _ h)) (hck.trans k2))⟩⟩
    rw [hg.block E (Array.getElem?_eq_some_iff.1 (hD E (List.mem_cons_of_mem _ hE))).1 (fun e => by cases e; exact hn.1 hE)]
    exact hD E (List.mem_cons_of_mem _ hE)

/-- the list after p passes -/
def stepsL {α : Type} (c : α → α → Int) (xs : List α) : Nat → List α
  | 0 => xs
  | p + 1 => passL c (2 ^ p) (stepsL c xs p) xs.length
theorem mergedAt_out {α : Type} (c : α → α → Int) (m : Nat) (xs : List α) (j : Nat) (h : xs.length ≤ j * (2 * m)) : mergedAt c m xs j = [] :=
  List.eq_nil_of_length_eq_zero (by rw [mergedAt_len]; omega)
theorem passL_more {α : Type} (c : α → α → Int) (m : Nat) (xs : List α) (k : Nat) (h : xs.length ≤ k * (2 * m)) : ∀ d, passL c m xs (k + d) = passL c m xs k
  | 0 => rfl
  | d + 1 => by
    rw [← Nat.add_assoc, passL_succ, passL_more c m xs k h d, mergedAt_out c m xs (k + d) (by rw [Nat.add_mul]; omega), List.append_nil]
theorem passL_same {α : Type} (c : α → α → Int) (m : Nat) (xs : List α) (k k' : Nat) (h : xs.length ≤ k * (2 * m)) (h' : xs.length ≤ k' * (2 * m)) : passL c m xs k = passL c m xs k' := by
  rcases Nat.le_total k k' with hk | hk
  · obtain ⟨d, rfl⟩ := Nat.le.dest hk; exact (passL_more c m xs k h d).symm
  · obtain ⟨d, rfl⟩ := Nat.le.dest hk; exact passL_more c m xs k' h' d
theorem stepsL_len {α : Type} (c : α → α → Int) (xs : List α) : ∀ p, (stepsL c xs p).length = xs.length
  | 0 => rfl
  | p + 1 => by
    rw [stepsL, passL_len, stepsL_len c xs p]
    have := Nat.one_le_two_pow (n := p)
    exact Nat.min_eq_right (by have := Nat.mul_le_mul_left xs.length (show 1 ≤ 2 * 2 ^ p by omega); omega)

structure SI {α : Type} (E : El α) (c : α → α → Int) (S : Nat → Prop) (I : Nat → World → Prop) (n : Nat) (w : World) (f : Value) (b3 b5 b6 b7 p : Nat) (xs : List α) (O : Option Addr) (co : Nat) (Pa : Option Addr) (cs : Nat) (Ds : List Nat) (W : World) : Prop where
  c3 : W.cell? ⟨b3, 0, none⟩ = some f
  c5 : W.cell? ⟨b5, 0, none⟩ = some (.slice O xs.length co)
  c6 : W.cell? ⟨b6, 0, none⟩ = some (.slice Pa xs.length cs)
  c7 : W.cell? ⟨b7, 0, none⟩ = some (.int .i64 ((2 ^ p : Nat) : Int))
  t5 : W.there b5 0 1
  t6 : W.there b6 0 1
  t7 : W.there b7 0 1
  oo : Ow E W O co (stepsL c xs p)
  sp : xs.length ≤ cs ∧ Rm E W Pa cs
  nO : ¬ InB (fun k => k = b3 ∨ k = b5 ∨ k = b6 ∨ k = b7) O
  nP : ¬ InB (fun k => k = b3 ∨ k = b5 ∨ k = b6 ∨ k = b7) Pa
  nOP : ¬ InB (AtB Pa) O
  ob : w.heap.size ≤ b3 ∧ w.heap.size ≤ b5 ∧ w.heap.size ≤ b6 ∧ w.heap.size ≤ b7
  ne : b3 ≠ b5 ∧ b3 ≠ b6 ∧ b3 ≠ b7 ∧ b5 ≠ b6 ∧ b5 ≠ b7 ∧ b6 ≠ b7
  fO : ∀ a, O = some a → w.heap.size ≤ a.block
  fP : ∀ a, Pa = some a → w.heap.size ≤ a.block
  keep : Keep S w W
  q : ∃ q, q ≤ p * xs.length ∧ I (n + q) W
  ds : ∀ D ∈ Ds, w.heap.size ≤ D ∧ W.heap[D]? = some (.deferred (some []))
  nd : Ds.Nodup
  low : p = 0 ∨ 2 ^ (p - 1) < xs.length

theorem there_setCell {w : World} {b o n : Nat} (h : w.there b o n) (a : Addr) (v : Value) : (w.setCell a v).there b o n := fun j hj => by
  obtain ⟨h1, h2⟩ := h j hj
  refine ⟨?_, by rw [World.frozen?_setCell]; exact h2⟩
  obtain ⟨u, hu⟩ := Option.isSome_iff_exists.1 h1
  by_cases e : a = ⟨b, o + j, none⟩
  · subst e; rw [World.cell?_setCell_same _ _ _ hu]; rfl
  · rw [World.cell?_setCell_other _ _ _ _ e, hu]; rfl
theorem cell_alloc_new (w : World) (v : Value) (T : Nat) : (w.alloc (.cells #[v] T)).cell? ⟨w.heap.size, 0, none⟩ = some v := by simp
theorem cell_lt {w : World} {b o : Nat} {v : Value} (h : w.cell? ⟨b, o, none⟩ = some v) : b < w.heap.size := World.block_lt_of_cell? w _ h
theorem cell_not_deferred {w : World} {b o : Nat} {v : Value} {d : Option (List Deferred)} (h : w.cell? ⟨b, o, none⟩ = some v) : w.heap[b]? ≠ some (.deferred d) := fun e => by
  unfold World.cell? at h
  simp only [e] at h
  cases h

theorem SI.next {α : Type} {E : El α} {c : α → α → Int} {S : Nat → Prop} {I : Nat → World → Prop} {n : Nat} {w : World} {f : Value} {b3 b5 b6 b7 p : Nat} {xs : List α} {O : Option Addr} {co bs os cs B : Nat} {Ds : List Nat} {W : World}
    (h : SI E c S I n w f b3 b5 b6 b7 p xs O co (some ⟨bs, os, none⟩) cs Ds W) (hB : B ≤ w.heap.size) (hNS : ∀ k, S k → k < w.heap.size) (hst : ∀ n w w', I n w → Below B w w' → I n w') (hlt : 2 ^ p < xs.length)
    {W1 : World} (hk : Keep (fun _ => False) W W1) {q : Nat} (hq : q ≤ p * xs.length) {js : List (Pc xs.length (2 * 2 ^ p))} {W3 : World}
    (hp : PI E c S I (n + q) (2 ^ p) b3 b5 b6 b7 f O co bs os cs xs.length (stepsL c xs p) W1 js W3) (hall : Pc.all js) {D : Nat} (hD : W1.heap.size ≤ D) (hDe : W3.heap[D]? = some (.deferred (some []))) :
    SI E c S I n w f b3 b5 b6 W3.heap.size (p + 1) xs (some ⟨bs, os, none⟩) cs O co (D :: Ds)
      (((W3.setCell ⟨b5, 0, none⟩ (.slice (some ⟨bs, os, none⟩) xs.length cs)).setCell ⟨b6, 0, none⟩ (.slice O xs.length co)).alloc (.cells #[.int .i64 (((2 ^ p : Nat) : Int) * 2)] 3)) := by
  obtain ⟨o3, o5, o6, o7⟩ := h.ob
  obtain ⟨n35, n36, n37, n56, n57, n67⟩ := h.ne
  have nS : ∀ k, w.heap.size ≤ k → ¬ S k := fun k hk h => by have := hNS k h; omega
  have hbs : w.heap.size ≤ bs := h.fP _ rfl
  have hp1 := Nat.one_le_two_pow (n := p)
  have m3 : bs ≠ b3 := fun e => h.nP ⟨_, rfl, .inl e⟩
  have m5 : bs ≠ b5 := fun e => h.nP ⟨_, rfl, .inr (.inl e)⟩
  have m6 : bs ≠ b6 := fun e => h.nP ⟨_, rfl, .inr (.inr (.inl e))⟩
  obtain ⟨hzl, hzo⟩ := h.sp
  have hcs : 0 < cs := by omega
  have hthW : W.there bs os (cs * E.sz) := by
    obtain ⟨b, o, e, ht⟩ := hzo.room hcs
    simp only [Option.some.injEq, Addr.mk.injEq, and_true] at e
    obtain ⟨rfl, rfl⟩ := e; exact ht
  have hth3 : W3.there bs os (cs * E.sz) := hp.more _ _ (hk.there hthW (fun h => h))
  have hbsW : bs < W.heap.size := by
    obtain ⟨u, hu⟩ := Option.isSome_iff_exists.1 (hthW 0 (Nat.mul_pos hcs E.pos)).1
    exact World.block_lt_of_cell? W _ hu
  have hcell3 : ∃ u, W3.cell? ⟨bs, os, none⟩ = some u := Option.isSome_iff_exists.1 (hth3 0 (Nat.mul_pos hcs E.pos)).1
  have hs1 := hk.size
  have hs3 := hp.keep.size
  have l5 := cell_lt h.c5
  have l6 := cell_lt h.c6
  have l3 := cell_lt h.c3
  have hnO : ¬ InB (fun k => S k ∨ k = bs) O := fun ⟨a, ha, hk⟩ => by
    rcases hk with hk | hk
    · exact nS _ (h.fO a ha) hk
    · exact h.nOP ⟨a, ha, _, rfl, hk.symm⟩
  have hsz4 : ((W3.setCell ⟨b5, 0, none⟩ (.slice (some ⟨bs, os, none⟩) xs.length cs)).setCell ⟨b6, 0, none⟩ (.slice O xs.length co)).heap.size = W3.heap.size := by simp [World.setCell]
  have t5 : W3.there b5 0 1 := hp.keep.there (hk.there h.t5 (fun h => h)) (fun e => e.elim (nS _ o5) (fun e => m5 e.symm))
  have t6 : W3.there b6 0 1 := hp.keep.there (hk.there h.t6 (fun h => h)) (fun e => e.elim (nS _ o6) (fun e => m6 e.symm))
  have K4 : Keep (fun k => k = b5 ∨ k = b6) W3 (((W3.setCell ⟨b5, 0, none⟩ (.slice (some ⟨bs, os, none⟩) xs.length cs)).setCell ⟨b6, 0, none⟩ (.slice O xs.length co)).alloc (.cells #[.int .i64 (((2 ^ p : Nat) : Int) * 2)] 3)) :=
    (((Keep.refl _ W3).setCell (fun _ => .inl rfl) _).setCell (fun _ => .inr rfl) _).alloc _
  have Ka : Keep (fun _ => False) ((W3.setCell ⟨b5, 0, none⟩ (.slice (some ⟨bs, os, none⟩) xs.length cs)).setCell ⟨b6, 0, none⟩ (.slice O xs.length co)) _ := (Keep.refl _ _).alloc (.cells #[.int .i64 (((2 ^ p : Nat) : Int) * 2)] 3)
  have hx5 : (W3.setCell ⟨b5, 0, none⟩ (.slice (some ⟨bs, os, none⟩) xs.length cs)).cell? ⟨b5, 0, none⟩ = some (.slice (some ⟨bs, os, none⟩) xs.length cs) := World.cell?_setCell_same _ _ _ hp.c5
  have hx6 : (W3.setCell ⟨b5, 0, none⟩ (.slice (some ⟨bs, os, none⟩) xs.length cs)).cell? ⟨b6, 0, none⟩ = some (.slice (some ⟨bs, os, none⟩) xs.length cs) := by
    rw [World.cell?_setCell_other _ _ _ _ (fun e => n56 (by cases e; rfl))]; exact hp.c6
  have hOlt : ∀ a, O = some a → a.block < W.heap.size := fun a ha => by
    obtain ⟨b, o, e, hlt'⟩ := h.oo.lt (by have := h.oo.sl.le; rw [stepsL_len] at this; omega)
    rw [ha] at e; cases e; exact hlt'
  have hdef : ∀ D', W3.heap[D']? = some (.deferred (some [])) → D' ≠ b5 ∧ D' ≠ b6 := fun D' hd => ⟨fun e => by subst e; exact cell_not_deferred hp.c5 hd, fun e => by subst e; exact cell_not_deferred hp.c6 hd⟩
  refine { c3 := K4.cell hp.c3 (fun e => by rcases e with e | e <;> simp at e <;> omega), c5 := ?_, c6 := ?_, c7 := ?_, t5 := ?_, t6 := ?_, t7 := ?_, oo := ?_, sp := ⟨by have := h.oo.sl.le; rw [stepsL_len] at this; exact this, ?_⟩, nO := ?_, nP := ?_, nOP := ?_, ob := ⟨o3, o5, o6, by have := h.keep.size; omega⟩, ne := ⟨n35, n36, by omega, n56, by omega, by omega⟩, fO := h.fP, fP := h.fO, keep := ?_, q := ?_, ds := ?_, nd := ?_, low := .inr hlt }
  · refine Ka.cell ?_ (fun h => h)
    rw [World.cell?_setCell_other _ _ _ _ (fun e => n56 (by cases e; rfl))]; exact hx5
  · exact Ka.cell (World.cell?_setCell_same _ _ _ hx6) (fun h => h)
  · have := range_alloc_new ((W3.setCell ⟨b5, 0, none⟩ (.slice (some ⟨bs, os, none⟩) xs.length cs)).setCell ⟨b6, 0, none⟩ (.slice O xs.length co)) #[.int .i64 (((2 ^ p : Nat) : Int) * 2)] 3 [.int .i64 (((2 ^ p : Nat) : Int) * 2)] (fun j v hv => by simpa using hv) 0 _ rfl
    rw [hsz4] at this
    rw [show (((2 ^ (p + 1) : Nat) : Int)) = ((2 ^ p : Nat) : Int) * 2 by rw [Nat.pow_succ, Int.natCast_mul]; rfl]
    exact this
  · exact Ka.there (there_setCell (there_setCell t5 _ _) _ _) (fun h => h)
  · exact Ka.there (there_setCell (there_setCell t6 _ _) _ _) (fun h => h)
  · have := there_alloc_new ((W3.setCell ⟨b5, 0, none⟩ (.slice (some ⟨bs, os, none⟩) xs.length cs)).setCell ⟨b6, 0, none⟩ (.slice O xs.length co)) #[.int .i64 (((2 ^ p : Nat) : Int) * 2)] 3 1 (Nat.le_refl _)
    rw [hsz4] at this
    exact this
  · have hov := hp.over hall
    have he : passL c (2 ^ p) (stepsL c xs p) js.length = stepsL c xs (p + 1) := by
      rw [stepsL]
      refine passL_same c _ _ _ _ (by rw [stepsL_len]; exact hall.2) ?_
      rw [stepsL_len]
      have := Nat.one_le_two_pow (n := p)
      have := Nat.mul_le_mul_left xs.length (show 1 ≤ 2 * 2 ^ p by omega)
      omega
    rw [he] at hov
    refine ⟨⟨by rw [stepsL_len]; exact hzl, hzo.cap, fun _ => ⟨bs, os, rfl, K4.range hov (fun e => by omega)⟩⟩, fun _ => ⟨bs, os, rfl, K4.there hth3 (fun e => by omega)⟩⟩
  · refine ((h.oo.rm.keep hk (fun ⟨_, _, h⟩ => h)).keep hp.keep hnO).keep K4 (fun ⟨a, ha, e⟩ => ?_)
    rcases e with e | e
    · exact h.nO ⟨a, ha, .inr (.inl e)⟩
    · exact h.nO ⟨a, ha, .inr (.inr (.inl e))⟩
  · rintro ⟨a, ha, e⟩
    simp only [Option.some.injEq] at ha
    subst ha
    simp only at e
    omega
  · rintro ⟨a, ha, e⟩
    have := hOlt a ha
    rcases e with e | e | e | e
    · exact h.nO ⟨a, ha, .inl e⟩
    · exact h.nO ⟨a, ha, .inr (.inl e)⟩
    · exact h.nO ⟨a, ha, .inr (.inr (.inl e))⟩
    · omega
  · rintro ⟨a, ha, a0, h0, e⟩
    simp only [Option.some.injEq] at ha
    subst ha
    exact h.nOP ⟨a0, h0, _, rfl, e.symm⟩
  · exact ((h.keep.trans hk (fun _ _ e => e.elim)).trans hp.keep (fun k hk e => e.elim id (fun e => by omega))).trans K4 (fun k hk e => by omega)
  · obtain ⟨q2, hq2, hI⟩ := hp.q
    rw [cost_all hall] at hq2
    refine ⟨q + q2, by rw [Nat.add_mul, Nat.one_mul]; omega, ?_⟩
    rw [← Nat.add_assoc]
    exact hst _ _ _ hI (K4.below (by have := h.keep.size; omega) (fun k hk e => by omega))
  · intro D' hD'
    have key : ∀ D', W3.heap[D']? = some (.deferred (some [])) → w.heap.size ≤ D' → w.heap.size ≤ D' ∧ (((W3.setCell ⟨b5, 0, none⟩ (.slice (some ⟨bs, os, none⟩) xs.length cs)).setCell ⟨b6, 0, none⟩ (.slice O xs.length co)).alloc (.cells #[.int .i64 (((2 ^ p : Nat) : Int) * 2)] 3)).heap[D']? = some (.deferred (some [])) := fun D' hd hw => by
      obtain ⟨d5, d6⟩ := hdef D' hd
      refine ⟨hw, ?_⟩
      rw [K4.block D' (Array.getElem?_eq_some_iff.1 hd).1 (fun e => e.elim d5 d6)]
      exact hd
    rcases List.mem_cons.1 hD' with rfl | hD'
    · exact key _ hDe (by have := h.keep.size; omega)
    · obtain ⟨g1, g2⟩ := h.ds D' hD'
      have hl := (Array.getElem?_eq_some_iff.1 g2).1
      refine key D' ?_ g1
      rw [hp.keep.block D' (by omega) (fun e => e.elim (nS _ g1) (fun e => by
        subst e
        obtain ⟨u, hu⟩ := Option.isSome_iff_exists.1 (hthW 0 (Nat.mul_pos hcs E.pos)).1
        exact cell_not_deferred hu g2)), hk.block D' hl (fun h => h)]
      exact g2
  · refine List.nodup_cons.2 ⟨fun hm => ?_, h.nd⟩
    obtain ⟨_, g2⟩ := h.ds D hm
    have := (Array.getElem?_eq_some_iff.1 g2).1
    omega

/-- What Sort answers. -/
def SortPost {α : Type} (E : El α) (c : α → α → Int) (S : Nat → Prop) (I : Nat → World → Prop) (n : Nat) (w : World) (xs : List α) (e : Ending) (w' : World) : Prop :=
  ∃ A' c' p, e = .returned (.slice A' xs.length c') ∧ Ow E w' A' c' (stepsL c xs p) ∧ xs.length ≤ 2 ^ p ∧ (p = 0 ∨ 2 ^ (p - 1) < xs.length) ∧
      (∀ a, A' = some a → w.heap.size ≤ a.block) ∧ Keep S w w' ∧ ∃ q, q ≤ p * xs.length ∧ I (n + q) w'

/-- the begin -/
theorem SI.start {α : Type} {E : El α} {c : α → α → Int} {S : Nat → Prop} {I : Nat → World → Prop} {B : Nat} (w w1 w2 : World) (f : Value) (n : Nat) (xs : List α) {O : Option Addr} {co : Nat}
    (ho : Ow E w1 O co xs) {T3 : Nat} (hk : Keep (fun _ => False) (w.alloc (.cells #[f] T3)) w1) (hO : ∀ a, O = some a → (w.alloc (.cells #[f] T3)).heap.size ≤ a.block ∧ a.block < w1.heap.size) (z : Value)
    (Ts Te Ti : Nat) (hw2 : w2 = (w1.alloc (.cells #[.slice O xs.length co] Ts)).alloc (.cells (madeCells z.cells (xs.length * E.sz)) Te)) (hB : B ≤ w.heap.size) (hst : ∀ n w w', I n w → Below B w w' → I n w') (hI : I n w) (hlen : xs.length ≤ 9223372036854775807 := by omega) :
    SI E c S I n w f w.heap.size w1.heap.size w2.heap.size (w2.heap.size + 1) 0 xs O co (some ⟨w1.heap.size + 1, 0, none⟩) xs.length []
      ((w2.alloc (.cells #[.slice (some ⟨w1.heap.size + 1, 0, none⟩) xs.length xs.length] Ts)).alloc (.cells #[.int .i64 1] Ti)) := by
  have k2 : Keep (fun _ => False) w1 w2 := by rw [hw2]; exact ((Keep.refl _ w1).alloc _).alloc _
  have s2 : w2.heap.size = w1.heap.size + 2 := by rw [hw2]; simp
  have s1 := hk.size
  simp only [World.size_alloc] at s1
  have k4 : Keep (fun _ => False) w2 ((w2.alloc (.cells #[.slice (some ⟨w1.heap.size + 1, 0, none⟩) xs.length xs.length] Ts)).alloc (.cells #[.int .i64 1] Ti)) := ((Keep.refl _ w2).alloc _).alloc _
  have k24 := k2.then_ k4
  have c3 := hk.cell (cell_alloc_new w f T3) (fun h => h)
  have hO' : ∀ a, O = some a → w.heap.size + 1 ≤ a.block ∧ a.block < w1.heap.size := fun a ha => by have := hO a ha; simpa using this
  have hw0 : Keep (fun _ => False) w w1 := ((Keep.refl _ w).alloc (.cells #[f] T3)).then_ hk
  have ka : Keep (fun _ => False) (w1.alloc (.cells #[.slice O xs.length co] Ts)) w2 := by rw [hw2]; exact (Keep.refl _ _).alloc _
  have c5 := (ka.then_ k4).cell (cell_alloc_new w1 (.slice O xs.length co) Ts) (fun h => h)
  have c6 := ((Keep.refl (fun _ => False) _).alloc (.cells #[.int .i64 1] Ti)).cell (cell_alloc_new w2 (.slice (some ⟨w1.heap.size + 1, 0, none⟩) xs.length xs.length) Ts) (fun h => h)
  have c7 := cell_alloc_new (w2.alloc (.cells #[.slice (some ⟨w1.heap.size + 1, 0, none⟩) xs.length xs.length] Ts)) (.int .i64 1) Ti
  have t5 := (ka.then_ k4).there (there_alloc_new w1 #[.slice O xs.length co] Ts 1 (Nat.le_refl _)) (fun h => h)
  have t6 := ((Keep.refl (fun _ => False) _).alloc (.cells #[.int .i64 1] Ti)).there (there_alloc_new w2 #[.slice (some ⟨w1.heap.size + 1, 0, none⟩) xs.length xs.length] Ts 1 (Nat.le_refl _)) (fun h => h)
  have t7 := there_alloc_new (w2.alloc (.cells #[.slice (some ⟨w1.heap.size + 1, 0, none⟩) xs.length xs.length] Ts)) #[.int .i64 1] Ti 1 (Nat.le_refl _)
  have hmade := rm_made E (w1.alloc (.cells #[.slice O xs.length co] Ts)) Te z xs.length hlen
  rw [← hw2, World.size_alloc] at hmade
  rw [World.size_alloc] at c7 t7
  refine { c3 := k24.cell c3 (fun h => h), c5 := c5, c6 := c6, c7 := c7, t5 := t5, t6 := t6, t7 := t7, oo := ho.keep k24 (fun ⟨_, _, h⟩ => h), sp := ⟨Nat.le_refl _, hmade.keep k4 (fun ⟨_, _, h⟩ => h)⟩, nO := ?_, nP := ?_, nOP := ?_, ob := ⟨by omega, by omega, by omega, by omega⟩, ne := ⟨by omega, by omega, by omega, by omega, by omega, by omega⟩, fO := fun a ha => by have := (hO' a ha).1; omega, fP := ?_, keep := ?_, q := ⟨0, by omega, ?_⟩, ds := by simp, nd := List.nodup_nil, low := .inl rfl }
  · rintro ⟨a, ha, e⟩
    have := hO' a ha
    omega
  · rintro ⟨a, ha, e⟩
    simp only [Option.some.injEq] at ha
    subst ha
    simp only at e
    omega
  · rintro ⟨a, ha, a0, h0, e⟩
    simp only [Option.some.injEq] at h0
    subst h0
    have := hO' a ha
    simp only at e
    omega
  · intro a ha
    simp only [Option.some.injEq] at ha
    subst ha
    simp only
    omega
  · exact (hw0.then_ k24).mono (fun _ _ h => h.elim)
  · exact hst _ _ _ hI ((hw0.then_ k24).below hB (fun _ _ h => h))
end Go.Proofs.Ytnofckgnnpmiiaa
