import Derived.Test.YtnofckgnnpmiiaaJb
import Derived.Test.YtnofckgnnpmiiaaLv
import Derived.Deep.CutBlock
import Derived.Deep.RegionHeld3
import Derived.Test.YtnofckgnnpmiiaaRw
import Derived.Lib.SmallJoins
/- 'amid': while a bag is ranged over, elements come, and one goes. -/
namespace Go.Proofs.Ytnofckgnnpmiiaa
open Go.RowKit Go.Shelf
attribute [local go_sem ↓] Go.wp_at_zero Go.wp_at_succ
attribute [local go_sem] Oper.semAt_some

/-- the owners within: the counter's box b7 goes with the bag, the answer's box b4 with nobody -/
def ownM (B : Nat) (own : Nat → Nat) (b4 b7 i k : Nat) : Nat := if k < B then own k else if k = b7 then i else if k = b4 then 10 else 9
/-- how much more there is behind so many rounds -/
def more (pre : List Item) (L : Nat) : Nat := if pre = [] then 0 else L
/-- between two rounds -/
structure Am (ownB : Nat → Nat) (i bl off : Nat) (p : Option Addr) (th : Bool) (o : Int) (b7 n0 m0 L : Nat) (zl : List Item) (w1 : World) (pre : List Item) (W : World) : Prop where
  ex : ∃ own1 m1 cs1 A1 Ar1 cr1, Agree ownB own1 w1 ∧ PSt own1 i bl off p th o m1 cs1 A1 Ar1 cr1 W ∧ cs1.length ≤ n0 + more pre L ∧ m1 ≤ m0 + more pre L ∧ (∀ a, A1 = some a → a.block ≠ b7) ∧ (pre = [] → ∀ a, A1 = some a → a.block < w1.heap.size) ∧ (pre.length ≤ 1 → n0 ≤ cs1.length)
  pk : PK ownB i bl off w1 W
  cnt : W.cell? ⟨b7, 0, none⟩ = some (.int .i64 ((pre.length : Nat) : Int))
  th7 : W.there b7 0 1
  pre : pre <+: zl
section
variable {ownB : Nat → Nat} {i bl off b7 n0 m0 L : Nat} {p : Option Addr} {th : Bool} {o : Int} {zl : List Item} {w1 : World}
theorem PK.grown {own : Nat → Nat} {w W W' : World} {row : Option Nat} (h : PK own i bl off w W) (hg : W.grownBy W' row) (hr : ∀ r, row = some r → w.heap.size ≤ r ∧ ∃ o : Obj, W.heap[r]? = some o ∧ o.isCells = false) : PK own i bl off w W' := by
  have hck := CK.of_grown hg (fun r e => (hr r e).2)
  exact ⟨h.keep.grown hg (fun r e => (hr r e).1), fun j v hj hc => (hck _ _ (h.rest j v hj hc)).1, fun o n ht => hck.there (h.there o n ht)⟩
theorem Am.own : OwnFrom w1.heap.size (Am ownB i bl off p th o b7 n0 m0 L zl w1) := by
  intro pre W W' row h hg hr
  have hck := CK.of_grown hg (fun r e => (hr r e).2)
  obtain ⟨own1, m1, cs1, A1, Ar1, cr1, h1, h2, h3⟩ := h.ex
  exact ⟨⟨own1, m1, cs1, A1, Ar1, cr1, h1, h2.ck hck hg.size, h3⟩, h.pk.grown hg hr, (hck _ _ h.cnt).1, hck.there h.th7, h.pre⟩
end

/-- what a round may write -/
def Tm (bl b7 : Nat) (p : Option Addr) : Nat → Prop := fun k => k = bl ∨ k = b7 ∨ AtB p k
/-- where the bag's heap is named -/
def Zj (th : Bool) (p : Option Addr) (b7 bz jz : Nat) : Prop := (th = true ∧ p = some ⟨bz, 0, none⟩ ∧ jz = 1) ∨ (th = false ∧ bz = b7 ∧ jz = 0)
theorem BagSt.zj {o : Int} {p A : Option Addr} {th : Bool} {m b7 : Nat} {cs : List (Held Item)} {w : World} (h : BagSt o p th m A cs w) : ∃ bz jz, Zj th p b7 bz jz := by
  rcases h with ⟨h1, bb, h2, _⟩ | ⟨h1, _⟩
  · exact ⟨bb, 1, .inl ⟨h1, h2, rfl⟩⟩
  · exact ⟨b7, 0, .inr ⟨h1, rfl, rfl⟩⟩
/-- whatever slice lies there is the heap -/
theorem BagSt.heap {o : Int} {p A : Option Addr} {th : Bool} {m b7 bz jz : Nat} {cs : List (Held Item)} {w : World} {v : Int} (h : BagSt o p th m A cs w) (z : Zj th p b7 bz jz) (hc : w.cell? ⟨b7, 0, none⟩ = some (.int .i64 v)) {A2 : Option Addr} {n c : Nat} (hz : w.cell? ⟨bz, jz, none⟩ = some (.slice A2 n c)) : A2 = A := by
  rcases z with ⟨z1, z2, z3⟩ | ⟨z1, z2, z3⟩
  · rcases h with ⟨h1, bb, h2, ca, hs, g, _⟩ | ⟨h1, _⟩
    · rw [h2] at z2
      simp only [Option.some.injEq, Addr.mk.injEq, and_true] at z2
      subst z2
      subst z3
      rw [g.heap] at hz
      simp only [Option.some.injEq, Value.slice.injEq] at hz
      exact hz.1.symm
    · rw [z1] at h1; cases h1
  · subst z2
    subst z3
    rw [hc] at hz
    cases hz
theorem BagSt.at_heap {o : Int} {p A : Option Addr} {th : Bool} {m b7 bz jz : Nat} {cs : List (Held Item)} {w : World} (h : BagSt o p th m A cs w) (z : Zj th p b7 bz jz) {k : Nat} (hk : AtB A k) : ∃ A2 n c, w.cell? ⟨bz, jz, none⟩ = some (.slice A2 n c) ∧ AtB A2 k := by
  rcases h with ⟨h1, bb, h2, ca, hs, g, _⟩ | ⟨h1, _, h3, _⟩
  · rcases z with ⟨z1, z2, z3⟩ | ⟨z1, _⟩
    · rw [h2] at z2
      simp only [Option.some.injEq, Addr.mk.injEq, and_true] at z2
      subst z2
      subst z3
      exact ⟨A, _, _, g.heap, hk⟩
    · rw [z1] at h1; cases h1
  · rw [h3] at hk
    obtain ⟨a, ha, _⟩ := hk
    cases ha
theorem rw_step {o : Int} {p A A' : Option Addr} {th : Bool} {m m' bl b7 bz jz : Nat} {cs cs' : List (Held Item)} {W W' : World} {v : Int} (h : BagSt o p th m A cs W) (h' : BagSt o p th m' A' cs' W') (z : Zj th p b7 bz jz) (hc : W'.cell? ⟨b7, 0, none⟩ = some (.int .i64 v))
   (k : Keep (fun k => (Fp p A k ∨ k = bl) ∨ k = b7) W W') (hA : ∀ a, A' = some a → AtB A a.block ∨ W.heap.size ≤ a.block) : RW (Tm bl b7 p) bz jz W W' := by
  refine RW.of_keep (k.mono (fun n _ hn => ?_)) (fun n hn hw => ?_)
  · rcases hn with ((hn | hn) | hn) | hn
    · exact .inl (.inr (.inr hn))
    · exact .inr (h.at_heap z hn)
    · exact .inl (.inl hn)
    · exact .inl (.inr (.inl hn))
  · rcases hw with hw | ⟨A2, n2, c2, g1, a, ha, e⟩
    · exact .inl hw
    · obtain rfl := h'.heap z hc g1
      rcases hA a ha with h2 | h2
      · rw [e] at h2
        exact .inr (h.at_heap z h2)
      · omega

theorem BagSt.cells {o : Int} {p A : Option Addr} {th : Bool} {m : Nat} {cs : List (Held Item)} {w : World} (h : BagSt o p th m A cs w) (hne : cs ≠ []) : ∀ a, A = some a → ∃ o : Obj, w.heap[a.block]? = some o ∧ o.isCells = true := by
  rcases h with ⟨h1, bb, h2, ca, hs, g, _, hp, _⟩ | ⟨_, h2, _⟩
  · intro a ha
    have hhs : hs ≠ [] := fun e => by rw [e] at hp; exact hne hp.symm.eq_nil
    obtain ⟨b, o', e, hr⟩ := g.ow.sl.elem (i := 0) (List.length_pos_iff.2 hhs)
    rw [e] at ha
    obtain rfl := Option.some.inj ha
    exact cells_of_cell (a := ⟨b, o' + 0 * EHI.sz + 0, none⟩) (hr 0 _ rfl)
  · exact absurd h2 hne
theorem KeepsFrom.of_keep2 {S : Nat → Prop} {B : Nat} {W W' : World} (k : Keep S W W') (hS : ∀ i, S i → B ≤ i → ∃ o : Obj, W.heap[i]? = some o ∧ o.isCells = true) : KeepsFrom B W W' :=
  ⟨k.size, fun i o hB hi ho => (k.block i (Array.getElem?_eq_some_iff.1 hi).1 (fun h => by
    obtain ⟨o', h1, h2⟩ := hS i h hB
    rw [hi] at h1
    obtain rfl := Option.some.inj h1
    rw [ho] at h2
    cases h2)).trans hi⟩
/-- a box of the walk's own is written -/
theorem PSt.poke {own : Nat → Nat} {i bl off m cr b : Nat} {p A Ar : Option Addr} {th : Bool} {o : Int} {cs : List (Held Item)} {w w' : World} (h : PSt own i bl off p th o m cs A Ar cr w) (k : Keep (fun n => n = b) w w') (hb : b ≠ bl) (hp : ∀ a, p = some a → a.block ≠ b) (hA : ∀ a, A = some a → a.block ≠ b) (hAr : own b ≠ 9) : PSt own i bl off p th o m cs A Ar cr w' :=
  ⟨k.cell h.c0 (fun e => hb e.symm), k.cell h.c1 (fun e => hb e.symm), k.cell h.c2 (fun e => hb e.symm), k.cell h.c3 (fun e => hb e.symm), k.there h.th4 (fun e => hb e.symm),
    h.sl.keep2 k (fun hne ⟨a, ha, hs⟩ => by have h1 := h.osl (fun e => hne (by rw [e]; rfl)) a ha; rw [show a.block = b from hs] at h1; exact hAr h1), h.osl, h.bag.keep k hp hA, h.obag⟩
theorem PK.poke {own : Nat → Nat} {i bl off b : Nat} {w w' : World} (k : Keep (fun n => n = b) w w') (hb : b ≠ bl) (ho : own b = i) : PK own i bl off w w' :=
  ⟨k.mono (fun n _ e => .inl (by rw [e]; exact ho)), fun j v _ hc => k.cell hc (fun e => hb e.symm), fun o n ht => k.there ht (fun e => hb e.symm)⟩
theorem comeTo_len (th : Bool) (cs : List (Held Item)) (m : Nat) (xs : List Item) : cs.length ≤ (comeTo th cs m xs).length ∧ (comeTo th cs m xs).length ≤ cs.length + xs.length := by
  unfold comeTo
  split
  · rw [List.length_append, heldFrom_len]; omega
  · omega

/-- a round, put together: a step on the pair, then the counter goes up -/
theorem am_round {ownB own1 own2 : Nat → Nat} {i bl off b7 n0 m0 L m1 m2 cr1 cr2 bz jz : Nat} {p A1 A2 Ar1 Ar2 : Option Addr} {th : Bool} {o : Int} {cs1 cs2 : List (Held Item)} {zl pre : List Item} {x : Item} {w1 W W2 : World}
   (hI : Am ownB i bl off p th o b7 n0 m0 L zl w1 pre W) (hag : Agree ownB own1 w1) (hps : PSt own1 i bl off p th o m1 cs1 A1 Ar1 cr1 W) (hA7 : ∀ a, A1 = some a → a.block ≠ b7) (hi : i < 9) (hob : ownB b7 = i) (h7 : b7 < w1.heap.size) (h7l : b7 ≠ bl) (hpb : ∀ a, p = some a → a.block < w1.heap.size ∧ a.block ≠ b7) (hbl : bl < w1.heap.size)
   (zj : Zj th p b7 bz jz) (k0 : Keep (fun k => Fp p A1 k ∨ k = bl) W W2) (hag2 : Agree own1 own2 W) (hps2 : PSt own2 i bl off p th o m2 cs2 A2 Ar2 cr2 W2) (pk : PK own1 i bl off W W2) (hA2 : ∀ a, A2 = some a → AtB A1 a.block ∨ W.heap.size ≤ a.block)
   (hb1 : cs2.length ≤ n0 + L) (hb2 : m2 ≤ m0 + L) (hb3 : pre = [] → n0 ≤ cs2.length) (hcell : (∀ a, A1 = some a → w1.heap.size ≤ a.block → ∃ o : Obj, W.heap[a.block]? = some o ∧ o.isCells = true) ∨ Keep (fun _ => False) W W2) (hpre : pre ++ [x] <+: zl) :
    KeepsFrom w1.heap.size W (W2.setCell ⟨b7, 0, none⟩ (.int .i64 ((pre.length : Int) + 1))) ∧ RW (Tm bl b7 p) bz jz W (W2.setCell ⟨b7, 0, none⟩ (.int .i64 ((pre.length : Int) + 1))) ∧
      Am ownB i bl off p th o b7 n0 m0 L zl w1 (pre ++ [x]) (W2.setCell ⟨b7, 0, none⟩ (.int .i64 ((pre.length : Int) + 1))) := by
  have hWs : w1.heap.size ≤ W.heap.size := hI.pk.keep.size
  have ho1 : own1 b7 = i := (hag b7 h7).trans hob
  have ho2 : own2 b7 = i := (hag2 b7 (by omega)).trans ho1
  have kp : Keep (fun n => n = b7) W2 (W2.setCell ⟨b7, 0, none⟩ (.int .i64 ((pre.length : Int) + 1))) := (Keep.refl (fun n => n = b7) W2).setCell (fun _ => rfl) _
  have hn7 : ¬ (Fp p A1 b7 ∨ b7 = bl) := by
    rintro ((⟨a, ha, e⟩ | ⟨a, ha, e⟩) | e)
    · exact (hpb a ha).2 e
    · exact hA7 a ha e
    · exact h7l e
  have hc2 : W2.cell? ⟨b7, 0, none⟩ = some (.int .i64 ((pre.length : Nat) : Int)) := k0.cell hI.cnt hn7
  have hc3 : (W2.setCell ⟨b7, 0, none⟩ (.int .i64 ((pre.length : Int) + 1))).cell? ⟨b7, 0, none⟩ = some (.int .i64 ((pre.length : Int) + 1)) := World.cell?_setCell_same _ _ _ hc2
  have hA2b : ∀ a, A2 = some a → a.block ≠ b7 := fun a ha e => by
    rcases hA2 a ha with ⟨a0, h0, e0⟩ | h
    · exact hA7 a0 h0 (e0.trans e)
    · omega
  have hps3 := hps2.poke kp h7l (fun a ha => (hpb a ha).2) hA2b (by rw [ho2]; omega)
  have kk : Keep (fun k => (Fp p A1 k ∨ k = bl) ∨ k = b7) W (W2.setCell ⟨b7, 0, none⟩ (.int .i64 ((pre.length : Int) + 1))) := (k0.mono (fun _ _ h => .inl h)).then_ (kp.mono (fun _ _ h => .inr h))
  have hKF : KeepsFrom w1.heap.size W (W2.setCell ⟨b7, 0, none⟩ (.int .i64 ((pre.length : Int) + 1))) := by
    rcases hcell with hcell | hk
    · refine KeepsFrom.of_keep2 kk (fun n hn hB => ?_)
      rcases hn with ((⟨a, ha, e⟩ | ⟨a, ha, e⟩) | e) | e
      · have := (hpb a ha).1; omega
      · rw [← e] at hB ⊢
        exact hcell a ha hB
      · omega
      · omega
    · exact KeepsFrom.of_keep2 ((hk.mono (fun _ _ h => h.elim)).then_ kp) (fun n hn hB => by have e : n = b7 := hn; omega)
  refine ⟨hKF, rw_step hps.bag hps3.bag zj hc3 kk hA2, ⟨⟨own2, m2, cs2, A2, Ar2, cr2, hag.trans hag2 hWs, hps3, ?_, ?_, hA2b, fun h => by simp at h, fun h => ?_⟩, ?_, ?_, ?_, hpre⟩⟩
  · unfold more; rw [if_neg (by simp)]; exact hb1
  · unfold more; rw [if_neg (by simp)]; exact hb2
  · rw [List.length_append, List.length_singleton] at h
    exact hb3 (List.eq_nil_of_length_eq_zero (by omega))
  · exact hI.pk.trans hag (pk.trans hag2 (PK.poke kp h7l ho2))
  · rw [hc3, List.length_append]; rfl
  · exact there_setCell (k0.there hI.th7 hn7) _ _

def AmidPost (own : Nat → Nat) (i bl off : Nat) (p : Option Addr) (th : Bool) (o : Int) (m n L : Nat) (w w' : World) : Prop :=
  ∃ own' m' cs' A' Ar' cr', Agree own own' w ∧ PSt own' i bl off p th o m' cs' A' Ar' cr' w' ∧ cs'.length ≤ n + L ∧ m' ≤ m + L ∧ PK own i bl off w w'

set_option maxRecDepth 100000 in
set_option maxHeartbeats 16000000 in
theorem amid_ok {own : Nat → Nat} {i bl off m n cr : Nat} {p A Ar : Option Addr} {th : Bool} {o : Int} {cs : List (Held Item)} (X : Option Addr) (cx L : Nat) (xs : List Item) (on kd nn : Int) (w : World)
   (h : PSt own i bl off p th o m cs A Ar cr w) (hi : i < 9) (hbl : own bl = 10) (hn : cs.length = n) (hL : xs.length = L) (hx : Sl EI w X cx xs) (hX : xs ≠ [] → ∀ a, X = some a → own a.block = 9) (hl : n + L ≤ 100000000) (hm : m + L ≤ 100000000) :
    Calls Try.prog 37 #[.pointer (some ⟨bl, off, none⟩), .agg #[.int .i64 on, .int .i64 kd, .int .i64 nn, .slice X L cx]] w fun e w' => e = .returned (.bool true) ∧ AmidPost own i bl off p th o m n L w w' := by
  have H := Lib.hid h
  have HI := Lib.hid (And.intro hi hbl)
  have HX := Lib.hid hX
  have HXL := Lib.hid hL
  have HXS := Lib.hid hx
  have HN := Lib.hid hn
  have HB := Lib.hid (And.intro hl hm)
  have hlx := hx.le
  have hcx := hx.cap
  rw [hL] at hlx
  have hnb : (n : Int) ≤ 100000000 := by omega
  clear h hi hbl hX hL hx hl hm hn
  obtain ⟨b2, HB2⟩ : ∃ b2, Hid (w.heap.size = b2) := ⟨_, Lib.hid rfl⟩
  obtain ⟨wA, HWA⟩ : ∃ wA, Hid ((w.alloc (.cells #[.pointer (some ⟨bl, off, none⟩)] 66)).alloc (.cells #[.int .i64 on, .int .i64 kd, .int .i64 nn, .slice X L cx] 64) = wA) := ⟨_, Lib.hid rfl⟩
  obtain ⟨w1, HW1⟩ : ∃ w1, Hid (wA.alloc (.cells #[.bool false] 4) = w1) := ⟨_, Lib.hid rfl⟩
  have HKA : Hid (Keep nob wA w1) := by unfold Hid; rw [← HW1.out]; exact (Keep.refl nob wA).alloc _
  have HK1 : Hid (Keep nob w w1) := by rw [← HW1.out, ← HWA.out]; exact (((Keep.refl nob w).alloc _).alloc _).alloc _
  have HSA : Hid (wA.heap.size = b2 + 2) := by unfold Hid; rw [← HWA.out, ← HB2.out]; simp
  have HS1 : Hid (w1.heap.size = b2 + 3) := by unfold Hid; rw [← HW1.out, World.size_alloc, HSA.out]
  have a0 : w1.cell? ⟨b2, 0, none⟩ = some (.pointer (some ⟨bl, off, none⟩)) := HKA.out.cell (by rw [← HWA.out, ← HB2.out]; simp) (fun h => h)
  have a1 : w1.cell? ⟨b2 + 1, 0, none⟩ = some (.int .i64 on) := HKA.out.cell (by rw [← HWA.out, ← HB2.out]; simp) (fun h => h)
  have a2 : w1.cell? ⟨b2 + 1, 1, none⟩ = some (.int .i64 kd) := HKA.out.cell (by rw [← HWA.out, ← HB2.out]; simp) (fun h => h)
  have a3 : w1.cell? ⟨b2 + 1, 2, none⟩ = some (.int .i64 nn) := HKA.out.cell (by rw [← HWA.out, ← HB2.out]; simp) (fun h => h)
  have a4 : w1.cell? ⟨b2 + 1, 3, none⟩ = some (.slice X L cx) := HKA.out.cell (by rw [← HWA.out, ← HB2.out]; simp) (fun h => h)
  have a5 : w1.cell? ⟨b2 + 1 + 1, 0, none⟩ = some (.bool false) := by have := cell_alloc_new wA (.bool false) 4; rw [HW1.out, HSA.out] at this; exact this
  have t5 : w1.there (b2 + 1 + 1) 0 1 := by have := there_alloc_new wA #[.bool false] 4 1 (Nat.le_refl _); rw [HW1.out, HSA.out] at this; exact this
  have HP1 : Hid (PSt own i bl off p th o m cs A Ar cr w1) := H.out.kept HK1.out
  have HBLT : Hid (bl < b2) := by unfold Hid; rw [← HB2.out]; exact H.out.lts.1
  -- what the boxes hold wherever neither they nor the pair's block are written
  have HCW : Hid (∀ w' S, Keep S w1 w' → (∀ k, b2 ≤ k → k < b2 + 3 → ¬ S k) → w'.cell? ⟨b2, 0, none⟩ = some (.pointer (some ⟨bl, off, none⟩)) ∧ w'.cell? ⟨b2 + 1, 0, none⟩ = some (.int .i64 on) ∧ w'.cell? ⟨b2 + 1, 1, none⟩ = some (.int .i64 kd) ∧ w'.cell? ⟨b2 + 1, 2, none⟩ = some (.int .i64 nn) ∧ w'.cell? ⟨b2 + 1, 3, none⟩ = some (.slice X L cx) ∧ w'.cell? ⟨b2 + 1 + 1, 0, none⟩ = some (.bool false) ∧ w'.frozen? ⟨b2 + 1 + 1, 0, none⟩ = false) := fun w' S hk hS =>
    ⟨hk.cell a0 (hS b2 (by omega) (by omega)), hk.cell a1 (hS (b2 + 1) (by omega) (by omega)), hk.cell a2 (hS (b2 + 1) (by omega) (by omega)), hk.cell a3 (hS (b2 + 1) (by omega) (by omega)), hk.cell a4 (hS (b2 + 1) (by omega) (by omega)), hk.cell a5 (hS (b2 + 1 + 1) (by omega) (by omega)), (hk.there t5 (hS (b2 + 1 + 1) (by omega) (by omega)) 0 (by decide)).2⟩
  have q1 := HP1.out.c1
  have q2 := HP1.out.c2
  have q3 := HP1.out.c3
  rw [HN.out] at q3
  refine calls_of_marks Try.func37 rfl ?_
  simp only [Try.ntmps37, List.size_toArray, List.length_cons, List.length_nil, Nat.reduceAdd, Nat.reduceSub, Array.replicate_succ, Array.replicate_zero, List.push_toArray, List.append_toArray, List.nil_append, List.cons_append]
  go_upto_region 1 with (fail)
  rw [HWA.out, HW1.out, HB2.out]
  have HAL : Hid (Calls Try.prog 68 #[.agg #[.bool th, .int .i64 o, .slice Ar n cr]] w1 fun e w' => ∃ A' c' zl, e = .returned (.slice A' n c') ∧ Sorts (kap o) (cs.map (·.1)) zl ∧ Sl EI w' A' c' zl ∧ Keep nob w1 w' ∧ (zl ≠ [] → ∀ a, A' = some a → w1.heap.size ≤ a.block)) :=
    Lib.hid (refall_new th o Ar cr n (List.map (fun x : Held Item => x.1) cs) w1 (by rw [List.length_map, HN.out]) HP1.out.sl (by have := HB.out; omega) (fun ht => by rw [H.out.bag.empty ht]; rfl))
  go_upto_region 2 with (go_at_call 68; go_must (refine HAL.out.mono ?_); rintro e w2 ⟨Aw, cw, zl, rfl, hz, hsz, hk, hf⟩; have HWF := Lib.hid hf; clear hf; have HZ := Lib.hid hz; have HSZ := Lib.hid hsz; have HK2 := Lib.hid hk; clear hz hsz hk)
  obtain ⟨w3, HW3⟩ : ∃ w3, Hid (w2.alloc (.cells #[.slice Aw n cw] 22) = w3) := ⟨_, Lib.hid rfl⟩
  have HK3 : Hid (Keep nob w2 w3) := by unfold Hid; rw [← HW3.out]; exact (Keep.refl nob w2).alloc _
  obtain ⟨b5, HB5⟩ : ∃ b5, Hid (w2.heap.size = b5) := ⟨_, Lib.hid rfl⟩
  have HC5 : Hid (w3.cell? ⟨b5, 0, none⟩ = some (.slice Aw n cw)) := by unfold Hid; rw [← HW3.out, ← HB5.out]; exact cell_alloc_new w2 _ 22
  rw [HW3.out, HB5.out]
  obtain ⟨w4, HW4⟩ : ∃ w4, Hid (w3.alloc (.cells #[.pointer p] 53) = w4) := ⟨_, Lib.hid rfl⟩
  have HK4 : Hid (Keep nob w3 w4) := by unfold Hid; rw [← HW4.out]; exact (Keep.refl nob w3).alloc _
  obtain ⟨bx, HBX⟩ : ∃ bx, Hid (w3.heap.size = bx) := ⟨_, Lib.hid rfl⟩
  have HCX : Hid (w4.cell? ⟨bx, 0, none⟩ = some (.pointer p)) := by unfold Hid; rw [← HW4.out, ← HBX.out]; exact cell_alloc_new w3 _ 53
  have he := fun (w : World) => run_eql_func_nil (P := Try.prog) w 77 Try.underlying77 (.func 71) #[] #[.pointer (some ⟨bx, 0, none⟩)]
  have HK13 : Hid (Keep nob w1 w3) := HK2.out.then_ HK3.out
  have r0 := HK13.out.cell a0 (fun h => h)
  have r1 := (HP1.out.kept HK13.out).c0
  go_upto_region 5 with (go_at_call 42; go_must (refine (all_ok p w3).mono ?_); rintro e w' ⟨rfl, hw⟩; rw [HW4.out] at hw; replace hw := hw.symm; subst hw; rw [HBX.out])
  have HK14 : Hid (Keep nob w1 w4) := HK13.out.then_ HK4.out
  obtain ⟨b7, HB7⟩ : ∃ b7, Hid (w4.heap.size = b7) := ⟨_, Lib.hid rfl⟩
  obtain ⟨W1, HWW⟩ : ∃ W1, Hid (w4.alloc (.cells #[.int .i64 0] 3) = W1) := ⟨_, Lib.hid rfl⟩
  have HK5 : Hid (Keep nob w4 W1) := by unfold Hid; rw [← HWW.out]; exact (Keep.refl nob w4).alloc _
  have HC7 : Hid (W1.cell? ⟨b7, 0, none⟩ = some (.int .i64 0) ∧ W1.there b7 0 1) := by unfold Hid; rw [← HWW.out, ← HB7.out]; exact ⟨cell_alloc_new w4 _ 3, there_alloc_new w4 _ _ 1 (Nat.le_refl _)⟩
  have HS7 : Hid (W1.heap.size = b7 + 1) := by unfold Hid; rw [← HWW.out, World.size_alloc, HB7.out]
  go_wp2_with (fail)
  rw [HWW.out, HB7.out]
  clear q1 q2 q3 r0 r1 a0 a1 a2 a3 a4 a5 t5 HAL
  -- the owners within
  obtain ⟨ownB, HOB⟩ : ∃ ownB, Hid (ownM b2 own (b2 + 1 + 1) b7 i = ownB) := ⟨_, Lib.hid rfl⟩
  have HOBO : Hid (∀ k, k < b2 → ownB k = own k) := fun k hk => by rw [← HOB.out]; unfold ownM; rw [if_pos hk]
  have HB7L : Hid (b2 + 3 ≤ b7) := by unfold Hid; rw [← HB7.out, ← HS1.out]; exact HK14.out.size
  have HOB7 : Hid (ownB b7 = i) := by unfold Hid; rw [← HOB.out]; unfold ownM; rw [if_neg (by have := HB7L.out; omega), if_pos rfl]
  have HOB4 : Hid (ownB (b2 + 1 + 1) = 10) := by unfold Hid; rw [← HOB.out]; unfold ownM; rw [if_neg (by omega), if_neg (by have := HB7L.out; omega), if_pos rfl]
  have HOBL : Hid (ownB bl = 10) := (HOBO.out bl HBLT.out).trans HI.out.2
  have HAG : Hid (Agree own ownB w) := fun k hk => HOBO.out k (by rw [← HB2.out]; exact hk)
  have HK1W : Hid (Keep nob w1 W1) := HK14.out.then_ HK5.out
  have HKWW : Hid (Keep nob w W1) := HK1.out.then_ HK1W.out
  have HPW : Hid (PSt ownB i bl off p th o m cs A Ar cr W1) := (H.out.agree HAG.out).kept HKWW.out
  have HZL : Hid (zl.length = n) := by unfold Hid; rw [HZ.out.perm.length_eq, List.length_map, HN.out]
  have HZ1 : Hid (Sl EI W1 Aw cw zl) := ((HSZ.out.keep HK3.out (nobIn _)).keep HK4.out (nobIn _)).keep HK5.out (nobIn _)
  have HC51 : Hid (W1.cell? ⟨b5, 0, none⟩ = some (.slice Aw n cw)) := HK5.out.cell (HK4.out.cell HC5.out (fun h => h)) (fun h => h)
  obtain ⟨bz, jz, hzj⟩ := H.out.bag.zj (b7 := b7)
  have HZJ := Lib.hid hzj
  clear hzj
  have HA7 : Hid (∀ a, A = some a → a.block ≠ b7) := fun a ha e => by have h1 := (H.out.bag.lt.2 a ha).1; have h2 := HB2.out; have h3 := HB7L.out; omega
  have HG : Hid (Am ownB i bl off p th o b7 n m L zl W1 [] W1) := ⟨⟨ownB, m, cs, A, Ar, cr, Agree.refl _ _, HPW.out, by unfold more; rw [if_pos rfl, HN.out]; exact Nat.le_refl _, by unfold more; rw [if_pos rfl]; exact Nat.le_refl _, HA7.out, fun _ => HPW.out.lts.2.2.1, fun _ => by rw [HN.out]; exact Nat.le_refl _⟩, PK.of_kept (Keep.refl _ _), HC7.out.1, HC7.out.2, List.nil_prefix⟩
  have HBZ : Hid (bz < W1.heap.size) := by
    rcases HZJ.out with ⟨_, z2, _⟩ | ⟨_, z2, _⟩
    · exact HPW.out.lts.2.1 _ z2
    · unfold Hid; rw [z2, HS7.out]; exact Nat.lt_succ_self _
  have HSTOP : Hid (SeqStopsK Fence.wide 8 Try.prog 71 #[.pointer (some ⟨bx, 0, none⟩)] (fun x : Item => #[EI.val x]) (RW (Tm bl b7 p) bz jz) (fun ys => ys = zl) (fun pre => pre <+: zl) zl.length W1) := by
    refine HPW.out.bag.stops 8 zl (Tm bl b7 p) bz jz (by have := HB.out; omega) (by have := HB.out; have := HN.out; omega) (HK5.out.cell HCX.out (fun h => h)) HZ.out (fun k hw => ?_) HBZ.out
    obtain ⟨l0, l1, l2, -⟩ := HPW.out.lts
    rcases hw with (hw | hw | ⟨a, ha, e⟩) | ⟨A2, n2, c2, g1, a, ha, e⟩
    · rw [hw]; exact l0
    · rw [hw, HS7.out]; exact Nat.lt_succ_self _
    · rw [← e]; exact l1 a ha
    · obtain rfl := HPW.out.bag.heap HZJ.out HC7.out.1 g1
      rw [← e]; exact l2 a ha
  generalize hAC : (Act.mk _ _) = ac
  refine wp_of_wide 9 (wpIn_rangeFunc_ownH (F := Fence.wide) (encs := fun x : Item => #[EI.val x]) rfl (by decide) (gf := 71) (lb := #[.pointer (some ⟨bx, 0, none⟩)]) (by rw [← hAC]; rfl) trivial (enters_of Try.func71 (by kernel_rfl) rfl) HSTOP.out
    RW.trans (fun W l o o' hl h h1 h2 => RW.putObj HBZ.out W l o o' hl h h1 h2) (Below.refl _ _) (fun _ => rfl)
    (Am ownB i bl off p th o b7 n m L zl W1) (fun _ pre _ => ¬ (pre <+: zl)) Am.own (fun _ _ _ _ _ h _ _ => h) HG.out
    (fun x a' W => ∃ by_, a' = { tmps := (ac.tmps.setIfInBounds 22 (EI.val x)).setIfInBounds 8 (.pointer (some ⟨by_, 0, none⟩)), defers := [] } ∧ W1.heap.size ≤ by_ ∧ W.cell? ⟨by_, 0, none⟩ = some (.int .i64 x.1) ∧ W.cell? ⟨by_, 1, none⟩ = some (.int .i64 x.2))
    ?ax ?assign ?body ?done ?stop)
  case ax =>
    rintro x a' _ W W' row ⟨by_, e, h0, h1, h2⟩ hg hr
    have hck := CK.of_grown hg (fun r e => (hr r e).2)
    exact ⟨by_, e, h0, (hck _ _ h1).1, (hck _ _ h2).1⟩
  case assign =>
    rintro l pre ⟨xk, xn⟩ W K hI hK
    subst hAC
    simp only [EI]
    gi_wp2
    have k1 : Keep (fun _ => False) W (W.alloc (.cells #[.int .i64 xk, .int .i64 xn] 27)) := (Keep.refl _ W).alloc _
    exact hK _ _ ((KeepsOthers.alloc W _).from _) (RW.of_kept k1 (Nat.lt_of_lt_of_le HBZ.out hI.pk.keep.size)) (Am.own.alloc _ hI) ⟨W.heap.size, rfl, hI.pk.keep.size, by simp, by simp⟩
  case stop => exact fun _ _ _ _ _ hSp hIx _ => absurd hSp hIx
  case body =>
    rintro l pre ⟨xk, xn⟩ a' W - - hI ⟨by_, rfl, hby, h1, h2⟩ hlen
    have HI0 := Lib.hid hI
    obtain ⟨own1, m1, cs1, A1, Ar1, cr1, hag, hps, hcl1, hml1, hA7, hAB, hnl1⟩ := hI.ex
    have HAG1 := Lib.hid hag
    have HPS := Lib.hid hps
    have HBD := Lib.hid (And.intro hcl1 hml1)
    have HA1 := Lib.hid (And.intro hA7 (And.intro hAB hnl1))
    clear hag hps hcl1 hml1 hA7 hAB hnl1
    obtain ⟨j, HJ⟩ : ∃ j, Hid (pre.length = j) := ⟨_, Lib.hid rfl⟩
    have hc := hI.cnt
    rw [HJ.out] at hc hlen
    rw [HZL.out] at hlen
    have hj0 : (0 : Int) ≤ (j : Int) := by omega
    have hj1 : (j : Int) < (n : Int) := by omega
    have hj2 : ¬ ((n : Int) ≤ (j : Int)) := by omega
    have hj3 : ¬ (n ≤ j) := by omega
    have HOX : Hid (∀ k, b2 ≤ k → k ≠ b7 → ¬ (ownB k = i ∨ k = bl)) := fun k hk hne h => by
      have h1 := HBLT.out
      have h2 := HI.out.1
      rcases h with h | h
      · rw [← HOB.out] at h
        unfold ownM at h
        rw [if_neg (by omega), if_neg hne] at h
        split at h <;> omega
      · omega
    have hb7l := HB7L.out
    have HKWX : Hid (Keep (fun k => ownB k = i ∨ k = bl) w1 W) := (HK1W.out.mono (fun _ _ h => h.elim)).then_ hI.pk.keep
    obtain ⟨e0, e1, e2, e3, e4, e5, e6⟩ := HCW.out W _ HKWX.out (fun k h1 h2 => HOX.out k h1 (by omega))
    have hb5 : b2 + 3 ≤ b5 ∧ b5 < b7 := by
      have h1 := World.block_lt_of_cell? w3 _ HC5.out
      have h2 := HK4.out.size
      have h3 := HK2.out.size
      have h4 := HB5.out
      have h5 := HS1.out
      have h6 := HB7.out
      have h7 : b5 < w3.heap.size := h1
      omega
    have d5 := hI.pk.keep.cell HC51.out (HOX.out b5 (by omega) (by omega))
    have hfz : W.frozen? ⟨b7, 0, none⟩ = false := (hI.th7 0 (by decide)).2
    have HZW : Hid (Sl EI W Aw cw zl) := HZ1.out.keep2 hI.pk.keep (fun hne ⟨a, ha, hs⟩ => by
      have g1 := HWF.out hne a ha
      have g2 := ((HSZ.out.keep HK3.out (nobIn _)).keep HK4.out (nobIn _)).lt hne a ha
      have g3 := HS1.out
      have g4 := HB7.out
      exact HOX.out a.block (by omega) (by omega) hs)
    obtain ⟨bw, ow, hAw, hy⟩ := HZW.out.elem (i := j) (by rw [HZL.out]; exact hlen)
    obtain ⟨⟨yk, yn⟩, HY⟩ : ∃ y, Hid (zl[j]'(by rw [HZL.out]; exact hlen) = y) := ⟨_, Lib.hid rfl⟩
    have HYE : Hid (zl[pre.length]? = some (yk, yn)) := by unfold Hid; rw [HJ.out, ← HY.out]; exact List.getElem?_eq_getElem _
    rw [HY.out] at hy
    have hy1 := hy 0 _ rfl
    have hy2 := hy 1 _ rfl
    simp only [EI, Nat.add_zero] at hy1 hy2
    have hcw := HZ1.out.cap
    have hcl := HZ1.out.le
    rw [HZL.out] at hcl
    have HPX := Lib.hid (prefix_snoc (x := (xk, xn)) hI.pre HYE.out)
    have HIPK : Hid (PK ownB i bl off W1 W) := hI.pk
    clear hI hy HY hb7l
    subst hAw
    subst hAC
    simp only [EI]
    by_cases hyx : (yk, yn) = (xk, xn)
    · have hneq : ∀ w, (binOp .neq 27 (.agg #[.int .i64 yk, .int .i64 yn]) (.agg #[.int .i64 xk, .int .i64 xn])).run Try.prog w = .ok (.bool false) w := fun w => by rw [run_neq_items (yk, yn) (xk, xn) w, decide_eq_true hyx]; rfl
      gi_wp2_with (fail)
      refine wpIn_region_still_tail 11 (by kernel_rfl) (by kernel_rfl) (by kernel_rfl) (fun ⟨_, _, h⟩ => h.elim) ?_
      simp only [List.take_succ_cons, List.take_zero, List.drop_succ_cons, List.drop_zero]
      repeat still_step
      refine wpStill_nil ?_
      go_wp2_with (fail)
      have HPRE : Hid (pre ++ [(xk, xn)] <+: zl) := HPX.out.2 hyx
      clear hyx hneq hy1 hy2 h1 h2 d5 HPX
      obtain ⟨Wd, HWD⟩ : ∃ Wd, Hid (W.drew = Wd) := ⟨_, Lib.hid rfl⟩
      have HKD : Hid (Keep nob W Wd) := by unfold Hid; rw [← HWD.out]; exact (Keep.refl nob W).drew
      rw [HWD.out]
      have HPSD : Hid (PSt own1 i bl off p th o m1 cs1 A1 Ar1 cr1 Wd) := HPS.out.kept HKD.out
      have HSZD : Hid (Wd.heap.size = W.heap.size) := by unfold Hid; rw [← HWD.out]; rfl
      have p0 := HKD.out.cell e0 (fun h => h)
      have p1 := HKD.out.cell e1 (fun h => h)
      have p2 := HKD.out.cell e2 (fun h => h)
      have p3 := HKD.out.cell e3 (fun h => h)
      have p4 := HKD.out.cell e4 (fun h => h)
      have pc := HKD.out.cell hc (fun h => h)
      have pz : Wd.frozen? ⟨b7, 0, none⟩ = false := by rw [← HWD.out]; exact hfz
      have hb7n : ¬ (Fp p A1 b7 ∨ b7 = bl) := by
        rintro ((⟨a, ha, e⟩ | ⟨a, ha, e⟩) | e)
        · have h1 := H.out.lts.2.1 a ha; have h2 := HB2.out; have h3 := HB7L.out; omega
        · exact HA1.out.1 a ha e
        · have h1 := HBLT.out; have h3 := HB7L.out; omega
      have hb2n : ¬ (Fp p A1 b2 ∨ b2 = bl) := fun h => HOX.out b2 (Nat.le_refl _) (by have := HB7L.out; omega) (by
        have h0 : b2 < W1.heap.size := by have := HB7L.out; have := HS7.out; omega
        rcases h with (⟨a, ha, e⟩ | ⟨a, ha, e⟩) | e
        · exact .inl (by rw [← HAG1.out b2 h0, ← e]; exact HPS.out.obag.1 a ha)
        · exact .inl (by rw [← HAG1.out b2 h0, ← e]; exact HPS.out.obag.2 a ha)
        · exact .inr e)
      have HRND : Hid (∀ (own2 : Nat → Nat) (m2 cr2 : Nat) (cs2 : List (Held Item)) (A2 Ar2 : Option Addr) (W2 : World), Keep (fun k => Fp p A1 k ∨ k = bl) Wd W2 → Agree own1 own2 Wd → PSt own2 i bl off p th o m2 cs2 A2 Ar2 cr2 W2 → PK own1 i bl off Wd W2 → (∀ a, A2 = some a → AtB A1 a.block ∨ Wd.heap.size ≤ a.block) → cs2.length ≤ n + L → m2 ≤ m + L → (pre = [] → n ≤ cs2.length) → ((∀ a, A1 = some a → W1.heap.size ≤ a.block → ∃ o : Obj, W.heap[a.block]? = some o ∧ o.isCells = true) ∨ Keep nob Wd W2) →
          KeepsFrom W1.heap.size W (W2.setCell ⟨b7, 0, none⟩ (.int .i64 ((j : Int) + 1))) ∧ RW (Tm bl b7 p) bz jz W (W2.setCell ⟨b7, 0, none⟩ (.int .i64 ((j : Int) + 1))) ∧ Am ownB i bl off p th o b7 n m L zl W1 (pre ++ [(xk, xn)]) (W2.setCell ⟨b7, 0, none⟩ (.int .i64 ((j : Int) + 1)))) := fun own2 m2 cr2 cs2 A2 Ar2 W2 k0 hag2 hps2 pk hA2 g1 g2 g3 g4 => by
        have := am_round (x := (xk, xn)) (w1 := W1) HI0.out HAG1.out HPS.out HA1.out.1 HI.out.1 HOB7.out (by rw [HS7.out]; exact Nat.lt_succ_self _) (fun e => hb7n (.inr e)) (fun a ha => ⟨HPW.out.lts.2.1 a ha, fun e => hb7n (.inl (.inl ⟨a, ha, e⟩))⟩) HPW.out.lts.1 HZJ.out
          ((HKD.out.mono (fun _ _ h => h.elim)).then_ k0) (fun k hk => hag2 k (by rw [HSZD.out]; exact hk)) hps2 ((PK.of_kept HKD.out).trans (Agree.refl _ _) pk) (fun a ha => (hA2 a ha).imp id (fun h => by rw [HSZD.out] at h; exact h)) g1 g2 g3 (g4.imp id (fun h => HKD.out.then_ h)) HPRE.out
        rw [HJ.out] at this
        exact this
      clear e0 e1 e2 e3 e4 hc hfz HI0 HKWX
      have HFZ7 : Hid (∀ W2, Keep (fun k => Fp p A1 k ∨ k = bl) Wd W2 → W2.cell? ⟨b7, 0, none⟩ = some (.int .i64 (j : Int)) ∧ W2.frozen? ⟨b7, 0, none⟩ = false ∧ W2.cell? ⟨b2, 0, none⟩ = some (.pointer (some ⟨bl, off, none⟩))) := fun W2 k => ⟨k.cell pc hb7n, (World.frozen?_of_block (w := Wd) (k.block b7 (World.block_lt_of_cell? Wd _ pc) hb7n)).trans pz, k.cell p0 hb2n⟩
      have hnb2 : n ≤ 100000000 := by omega
      rcases Nat.lt_trichotomy j 1 with hj | hj | hj
      · have hj0' : j = 0 := by omega
        subst hj0'
        have HCS1 : Hid (cs1.length ≤ n ∧ m1 ≤ m) := by
          have h1 := HBD.out
          have hp0 : pre = [] := List.eq_nil_of_length_eq_zero HJ.out
          unfold more at h1
          rw [if_pos hp0] at h1
          exact ⟨by omega, by omega⟩
        have HXD : Hid (Sl EI Wd X cx xs ∧ (xs ≠ [] → ∀ a, X = some a → own1 a.block = 9)) := by
          have hxb : xs ≠ [] → ∀ a, X = some a → a.block < b2 := fun hne a ha => by have := HXS.out.lt hne a ha; rw [HB2.out] at this; exact this
          have ho1 : ∀ k, k < b2 → own1 k = own k := fun k hk => (HAG1.out k (by have := HB7L.out; have := HS7.out; omega)).trans (HOBO.out k hk)
          refine ⟨((HXS.out.keep HKWW.out (nobIn _)).keep2 HIPK.out.keep (fun hne ⟨a, ha, hs⟩ => ?_)).keep HKD.out (nobIn _), fun hne a ha => (ho1 _ (hxb hne a ha)).trans (HX.out hne a ha)⟩
          have h1 := HX.out hne a ha
          have h2 := HI.out.1
          rcases hs with hs | hs
          · rw [HOBO.out _ (hxb hne a ha)] at hs; omega
          · have h3 := HI.out.2; rw [hs] at h1; omega
        have HADD : Hid (Calls Try.prog 34 #[.pointer (some ⟨bl, off, none⟩), .agg #[.int .i64 on, .int .i64 kd, .int .i64 nn, .slice X L cx]] Wd fun e w' => e = .returned (.bool true) ∧ AddedPost own1 i bl off p th o m1 L cs1 A1 xs Wd w') :=
          added_ok X cx L xs on kd nn Wd HPSD.out HI.out.1 ((HAG1.out bl HPW.out.lts.1).trans HOBL.out) HXL.out HXD.out.1 HXD.out.2 (by have := HCS1.out; have := HB.out; omega) (by have := HCS1.out; have := HB.out; omega)
        gi_wp2_with (first
          | (refine ⟨trivial, ?_⟩; gi_at_call 34; refine CallsIn.inRound l (callsIn_wide.2 (HADD.out.mono ?_)); rintro e W2 ⟨rfl, hpost⟩; dsimp only; have HPO := Lib.hid hpost; clear hpost; obtain ⟨_, _, _, _, _, _, _, _, _, _, hk2⟩ := HPO.out; obtain ⟨y0, y1, y2⟩ := HFZ7.out W2 hk2; clear hk2)
          | (refine ⟨trivial, ?_⟩))
        obtain ⟨own2, m2, A2, Ar2, cr2, g1, g2, g3, g4, g5, g6⟩ := HPO.out
        have hln := comeTo_len th cs1 m1 xs
        rw [HXL.out] at hln
        have hcs1 := HCS1.out
        exact HRND.out own2 m2 cr2 _ A2 Ar2 W2 g6 g1 g2 g4 g5 (by omega) (by omega) (fun _ => by have := HA1.out.2.2 (by rw [HJ.out]; omega); omega) (.inl (fun a ha hB => by
          have := HA1.out.2.1 (List.eq_nil_of_length_eq_zero HJ.out) a ha
          omega))
      · subst hj
        have HNE : Hid (cs1 ≠ []) := fun e => by
          have h1 := HA1.out.2.2 (by rw [HJ.out]; omega)
          rw [e] at h1
          simp only [List.length_nil] at h1
          omega
        have HCS1 : Hid (cs1.length ≤ n + L ∧ m1 ≤ m + L) := by
          have h1 := HBD.out
          have hp0 : pre ≠ [] := fun e => by have := HJ.out; rw [e] at this; simp at this
          unfold more at h1
          rw [if_neg hp0] at h1
          exact h1
        have HTKK : Hid (Calls Try.prog 35 #[.pointer (some ⟨bl, off, none⟩)] Wd fun e w' => e = .returned (.bool true) ∧ TookPost own1 i bl off p th o m1 cs1 A1 Wd w') :=
          took_ok Wd HPSD.out HI.out.1 ((HAG1.out bl HPW.out.lts.1).trans HOBL.out) (by have := HCS1.out; have := HB.out; omega)
        gi_wp2_with (first
          | (refine ⟨trivial, ?_⟩; gi_at_call 35; refine CallsIn.inRound l (callsIn_wide.2 (HTKK.out.mono ?_)); rintro e W2 ⟨rfl, hpost⟩; dsimp only; have HPO := Lib.hid hpost; clear hpost; obtain ⟨_, _, _, _, _, _, _, _, _, hk2⟩ := HPO.out; obtain ⟨y0, y1, y2⟩ := HFZ7.out W2 hk2; clear hk2)
          | (refine ⟨trivial, ?_⟩))
        obtain ⟨own2, cs2, Ar2, cr2, g1, g2, g3, g4, g5, g6⟩ := HPO.out
        have g4' := g4 HNE.out
        have hcs1 := HCS1.out
        exact HRND.out own2 m1 cr2 cs2 A1 Ar2 W2 g6 g1 g2 g5 (fun a ha => .inl ⟨a, ha, rfl⟩) (by omega) (by omega) (fun e => by have := HJ.out; rw [e] at this; simp at this) (.inl (fun a ha _ => HPS.out.bag.cells HNE.out a ha))
      · have z0 : ((j : Int) == 0) = false := by simp; omega
        have z1 : ((j : Int) == 1) = false := by simp; omega
        have z2 : (j == 0) = false := by simp; omega
        have z3 : (j == 1) = false := by simp; omega
        have z4 : ¬ ((j : Int) = 0) := by omega
        have z5 : ¬ ((j : Int) = 1) := by omega
        have HCS1 : Hid (cs1.length ≤ n + L ∧ m1 ≤ m + L) := by
          have h1 := HBD.out
          have hp0 : pre ≠ [] := fun e => by have := HJ.out; rw [e] at this; simp at this; omega
          unfold more at h1
          rw [if_neg hp0] at h1
          exact h1
        gi_wp2_with (refine ⟨trivial, ?_⟩)
        exact HRND.out own1 m1 cr1 cs1 A1 Ar1 Wd (Keep.refl _ _) (Agree.refl _ _) HPSD.out (PK.of_kept (Keep.refl _ _)) (fun a ha => .inl ⟨a, ha, rfl⟩) HCS1.out.1 HCS1.out.2 (fun e => by have := HJ.out; rw [e] at this; simp at this; omega) (.inr (Keep.refl _ _))
    · have hneq : ∀ w, (binOp .neq 27 (.agg #[.int .i64 yk, .int .i64 yn]) (.agg #[.int .i64 xk, .int .i64 xn])).run Try.prog w = .ok (.bool true) w := fun w => by rw [run_neq_items (yk, yn) (xk, xn) w, decide_eq_false hyx]; rfl
      gi_wp2_with (fail)
      refine wpIn_region_still_tail 11 (by kernel_rfl) (by kernel_rfl) (by kernel_rfl) (fun ⟨_, _, h⟩ => h.elim) ?_
      simp only [List.take_succ_cons, List.take_zero, List.drop_succ_cons, List.drop_zero]
      repeat still_step
      refine wpStill_nil ?_
      go_wp2_with (fail)
      have d2' : W.drew.cell? ⟨b2 + 1 + 1, 0, none⟩ = some (.bool false) := e5
      have fz2 : W.drew.frozen? ⟨b2 + 1 + 1, 0, none⟩ = false := e6
      gi_wp2
      have kk : Keep (fun i => i = b2 + 1 + 1) W (W.setCell ⟨b2 + 1 + 1, 0, none⟩ (.bool false)).drew := ((Keep.refl (fun i => i = b2 + 1 + 1) W).setCell (fun _ => rfl) _).drew
      exact ⟨KeepsFrom.of_keep kk (fun i e => by rw [e]; exact cells_of_cell (a := ⟨b2 + 1 + 1, 0, none⟩) e5), fun h => hyx (HPX.out.1 h)⟩
  case done =>
    rintro D xs' W hD rfl hI hDe
    have HDE := Lib.hid hDe
    have HDL := Lib.hid hD
    have HI0 := Lib.hid hI
    have hc := hI.cnt
    rw [HZL.out] at hc
    have HOX : Hid (∀ k, b2 ≤ k → k ≠ b7 → ¬ (ownB k = i ∨ k = bl)) := fun k hk hne h => by
      have h1 := HBLT.out
      have h2 := HI.out.1
      rcases h with h | h
      · rw [← HOB.out] at h
        unfold ownM at h
        rw [if_neg (by omega), if_neg hne] at h
        split at h <;> omega
      · omega
    have hb7l := HB7L.out
    have HKWX : Hid (Keep (fun k => ownB k = i ∨ k = bl) w1 W) := (HK1W.out.mono (fun _ _ h => h.elim)).then_ hI.pk.keep
    obtain ⟨-, -, -, -, -, e5, e6⟩ := HCW.out W _ HKWX.out (fun k h1 h2 => HOX.out k h1 (by omega))
    have hb5 : b2 + 3 ≤ b5 ∧ b5 < b7 := by
      have h1 := World.block_lt_of_cell? w3 _ HC5.out
      have h2 := HK4.out.size
      have h3 := HK2.out.size
      have h4 := HB5.out
      have h5 := HS1.out
      have h6 := HB7.out
      have h7 : b5 < w3.heap.size := h1
      omega
    have d5 := hI.pk.keep.cell HC51.out (HOX.out b5 (by omega) (by omega))
    clear hI hDe hD
    subst hAC
    go_wp2_with (fail)
    have kk : Keep (fun k => k = b2 + 1 + 1) W (W.setCell ⟨b2 + 1 + 1, 0, none⟩ (.bool true)) := (Keep.refl (fun k => k = b2 + 1 + 1) W).setCell (fun _ => rfl) _
    have kc : (W.setCell ⟨b2 + 1 + 1, 0, none⟩ (.bool true)).cell? ⟨b2 + 1 + 1, 0, none⟩ = some (.bool true) := World.cell?_setCell_same _ _ _ e5
    obtain ⟨own1, m1, cs1, A1, Ar1, cr1, hag, hps, hcl1, hml1, -, -, -⟩ := HI0.out.ex
    have hlm : more xs' L ≤ L := by unfold more; split <;> omega
    have hbl : bl < b2 := HBLT.out
    have hb2 := HB2.out
    have hD := HDL.out
    have hs7 := HS7.out
    have hD4 : ∀ D', D' ∈ [D] → b2 + 3 ≤ D' := fun D' h => by
      obtain rfl := List.mem_singleton.1 h
      omega
    have ho4 : own1 (b2 + 1 + 1) = 10 := (hag _ (by omega)).trans HOB4.out
    have hi9 := HI.out.1
    have pk0 : PK own i bl off w W := (PK.of_kept HKWW.out).trans HAG.out HI0.out.pk
    have hne4 : ¬ (bl = b2 + 1 + 1) := by omega
    refine leaves_marks [D] _ (by simp) (fun D' hD' => ?_) (fun W' k1 k2 => ⟨.bool true, (results_cell1 rfl _ _ _).trans ?_, rfl, own1, m1, cs1, A1, Ar1, cr1, HAG.out.trans hag HKWW.out.size, ?_, by omega, by omega, ?_⟩)
    · have h4 := hD4 D' hD'
      obtain rfl := List.mem_singleton.1 hD'
      rw [kk.block D' (Array.getElem?_eq_some_iff.1 HDE.out).1 (by show ¬ D' = b2 + 1 + 1; omega)]
      exact HDE.out
    · have kc' := (k2 _ _ kc).1
      clear kc kk e5 e6 d5 hc
      go_simp
    · exact (hps.away kk hne4 (fun n hn => by rw [show n = b2 + 1 + 1 from hn, ho4]; omega)).ck k2 k1.size
    · refine ⟨(pk0.keep.trans kk (fun k h1 h2 => ?_)).trans k1 (fun k h1 h2 => ?_), fun j v hj hcj => (k2 _ _ (kk.cell (pk0.rest j v hj hcj) hne4)).1, fun o n ht => k2.there (kk.there (pk0.there o n ht) hne4)⟩
      · have h3 : k = b2 + 1 + 1 := h2
        omega
      · have h3 := hD4 k h2
        omega
end Go.Proofs.Ytnofckgnnpmiiaa

/- The four pairs of OrderBags; steps of its script. -/
namespace Go.Proofs.Ytnofckgnnpmiiaa
open Go.RowKit Go.Shelf

theorem mask3 (x : Int) : ∃ a : Nat, a < 4 ∧ bits .and .i64 x 3 = (a : Int) := by
  refine ⟨(BitVec.ofInt 64 x).toNat % 4, Nat.mod_lt _ (by decide), ?_⟩
  have h : (BitVec.ofInt 64 x &&& BitVec.ofInt 64 3).toNat = (BitVec.ofInt 64 x).toNat % 4 := by
    rw [BitVec.toNat_and, show (BitVec.ofInt 64 3).toNat = 3 from rfl]
    exact Nat.and_two_pow_sub_one_eq_mod _ 2
  show IntKind.i64.wrap (((BitVec.ofInt 64 x &&& BitVec.ofInt 64 3).toNat : Nat) : Int) = _
  rw [h, IntWalk.i64_left]
  exact IntWalk.wrap64_in _ ⟨by omega, by omega⟩

/-- a step of the script as it lies in memory -/
structure OpD where
  on : Int
  kd : Int
  nn : Int
  X : Option Addr
  L : Nat
  cx : Nat
def EOp : El OpD where
  sz := 4
  pos := by decide
  cells := fun d => [.int .i64 d.on, .int .i64 d.kd, .int .i64 d.nn, .slice d.X d.L d.cx]
  len := fun _ => rfl
  one := fun x v h => by simp at h; rcases h with rfl | rfl | rfl | rfl <;> rfl
  val := fun d => .agg #[.int .i64 d.on, .int .i64 d.kd, .int .i64 d.nn, .slice d.X d.L d.cx]
/-- the script: its steps, and the lists that they bring -/
structure Scr (w : World) (SA : Option Addr) (sc : Nat) (ops : List OpD) : Prop where
  sl : Sl EOp w SA sc ops
  ls : ∀ d ∈ ops, ∃ xs : List Item, xs.length = d.L ∧ Sl EI w d.X d.cx xs
def sumTo (ops : List OpD) (k : Nat) : Nat := ((ops.take k).map (·.L)).sum
theorem sumTo_succ {ops : List OpD} {k : Nat} {d : OpD} (h : ops[k]? = some d) : sumTo ops (k + 1) = sumTo ops k + d.L := by
  unfold sumTo
  rw [List.take_add_one, h, Option.toList, List.map_append, List.sum_append]
  simp
theorem sumTo_le (ops : List OpD) (k : Nat) : sumTo ops k ≤ (ops.map (·.L)).sum := by
  unfold sumTo
  have h : ops.map (·.L) = (ops.take k).map (·.L) ++ (ops.drop k).map (·.L) := by rw [← List.map_append, List.take_append_drop]
  rw [h, List.sum_append]
  omega

/-- all four pairs -/
structure OBS (bl : Nat) (P : Nat → Option Addr) (T : Nat → Bool) (O : Nat → Int) (M : Nat) (own : Nat → Nat) (we w : World) : Prop where
  st : ∀ a, a < 4 → ∃ m cs A Ar cr, PSt own a bl (a * 4) (P a) (T a) (O a) m cs A Ar cr w ∧ m ≤ M ∧ cs.length ≤ M
  blo : own bl = 10
  old : ∀ k, k < we.heap.size → own k = 9
  keep : Keep (fun _ => False) we w
  bln : we.heap.size ≤ bl
section
variable {bl M M' : Nat} {P : Nat → Option Addr} {T : Nat → Bool} {O : Nat → Int} {own own' : Nat → Nat} {we w w' : World}
theorem OBS.step (h : OBS bl P T O M own we w) {a : Nat} (ha : a < 4) (hag : Agree own own' w) {m' cr' : Nat} {cs' : List (Held Item)} {A' Ar' : Option Addr} (hps : PSt own' a bl (a * 4) (P a) (T a) (O a) m' cs' A' Ar' cr' w') (pk : PK own a bl (a * 4) w w')
   (h1 : m' ≤ M') (h2 : cs'.length ≤ M') (h3 : M ≤ M') : OBS bl P T O M' own' we w' := by
  obtain ⟨m0, cs0, A0, Ar0, cr0, hp0, _⟩ := h.st a ha
  refine ⟨fun b hb => ?_, (hag _ hp0.lts.1).trans h.blo, fun k hk => (hag _ (Nat.lt_of_lt_of_le hk h.keep.size)).trans (h.old k hk), h.keep.trans pk.keep (fun k hk hs => ?_), h.bln⟩
  · by_cases e : b = a
    · subst e
      exact ⟨m', cs', A', Ar', cr', hps, h1, h2⟩
    · obtain ⟨m, cs, A, Ar, cr, hp, g1, g2⟩ := h.st b hb
      exact ⟨m, cs, A, Ar, cr, hp.other pk hag (fun e' => e e'.symm) (by omega) (by omega) h.blo (by omega), by omega, by omega⟩
  · rcases hs with hs | hs
    · have := h.old k hk
      omega
    · have := h.bln
      omega
theorem OBS.kept (h : OBS bl P T O M own we w) (k : Keep (fun _ => False) w w') : OBS bl P T O M own we w' :=
  ⟨fun a ha => let ⟨m, cs, A, Ar, cr, hp, g⟩ := h.st a ha; ⟨m, cs, A, Ar, cr, hp.kept k, g⟩, h.blo, h.old, h.keep.then_ k, h.bln⟩
theorem OBS.more (h : OBS bl P T O M own we w) (hm : M ≤ M') : OBS bl P T O M' own we w :=
  ⟨fun a ha => let ⟨m, cs, A, Ar, cr, hp, g1, g2⟩ := h.st a ha; ⟨m, cs, A, Ar, cr, hp, by omega, by omega⟩, h.blo, h.old, h.keep, h.bln⟩
end
/-- the length of the reference's list -/
def lenP (bl j : Nat) (w : World) : Nat := match w.cell? ⟨bl, j, none⟩ with
  | some (.slice _ n _) => n
  | _ => 0
end Go.Proofs.Ytnofckgnnpmiiaa

/- OrderBags answers true, and keeps all memory that there was. -/
namespace Go.Proofs.Ytnofckgnnpmiiaa
open Go.RowKit Go.Shelf
attribute [local go_sem ↓] Go.wp_at_zero Go.wp_at_succ

/-- the four bags -/
def bP (b0 : Nat) : Nat → Option Addr
  | 0 => some ⟨b0, 0, none⟩
  | 1 => some ⟨b0 + 1, 0, none⟩
  | 2 => none
  | _ => some ⟨b0 + 2, 0, none⟩
def bT : Nat → Bool
  | 0 => true
  | 1 => true
  | _ => false
def bO (o1 o2 : Int) : Nat → Int
  | 0 => o1
  | 1 => o2
  | _ => 0
def bOwn (b0 k : Nat) : Nat := if k < b0 then 9 else if k = b0 then 0 else if k = b0 + 1 then 1 else if k = b0 + 2 then 3 else if k = b0 + 3 then 10 else 9
theorem obs_start (o1 o2 : Int) (b0 : Nat) (w w1 w2 w3 w4 : World) (h0 : w.heap.size = b0) (h1 : w.alloc (.cells #[byV o1, .slice none 0 0, .int .i64 0] 61) = w1) (h2 : w1.alloc (.cells #[byV o2, .slice none 0 0, .int .i64 0] 61) = w2)
   (h3 : w2.alloc (.cells #[.nilFunc, .slice none 0 0, .int .i64 0] 61) = w3) (h4 : w3.alloc (.cells #[.pointer (some ⟨b0, 0, none⟩), .bool true, .int .i64 o1, .slice none 0 0, .pointer (some ⟨b0 + 1, 0, none⟩), .bool true, .int .i64 o2, .slice none 0 0, .pointer none, .bool false, .int .i64 0, .slice none 0 0, .pointer (some ⟨b0 + 2, 0, none⟩), .bool false, .int .i64 0, .slice none 0 0] 58) = w4) :
    OBS (b0 + 3) (bP b0) bT (bO o1 o2) 0 (bOwn b0) w w4 := by
  have z1 : w1.heap.size = b0 + 1 := by rw [← h1, World.size_alloc, h0]
  have z2 : w2.heap.size = b0 + 2 := by rw [← h2, World.size_alloc, z1]
  have z3 : w3.heap.size = b0 + 3 := by rw [← h3, World.size_alloc, z2]
  have k1 : Keep nob w w1 := by rw [← h1]; exact (Keep.refl nob w).alloc _
  have k2 : Keep nob w1 w2 := by rw [← h2]; exact (Keep.refl nob w1).alloc _
  have k3 : Keep nob w2 w3 := by rw [← h3]; exact (Keep.refl nob w2).alloc _
  have k4 : Keep nob w3 w4 := by rw [← h4]; exact (Keep.refl nob w3).alloc _
  have g0 : BL o1 b0 none 0 [] w4 := by
    have : BL o1 b0 none 0 [] w1 := by rw [← h1, ← h0]; exact BL.new w
    exact ((this.keep k2 (fun h => h) (nobIn _)).keep k3 (fun h => h) (nobIn _)).keep k4 (fun h => h) (nobIn _)
  have g1 : BL o2 (b0 + 1) none 0 [] w4 := by
    have : BL o2 (b0 + 1) none 0 [] w2 := by rw [← h2, ← z1]; exact BL.new w1
    exact (this.keep k3 (fun h => h) (nobIn _)).keep k4 (fun h => h) (nobIn _)
  have g3 : w4.cell? ⟨b0 + 2, 0, none⟩ = some .nilFunc := by
    have : w3.cell? ⟨b0 + 2, 0, none⟩ = some .nilFunc := by rw [← h3, ← z2]; simp
    exact k4.cell this (fun h => h)
  have row := range_alloc_new w3 #[.pointer (some ⟨b0, 0, none⟩), .bool true, .int .i64 o1, .slice none 0 0, .pointer (some ⟨b0 + 1, 0, none⟩), .bool true, .int .i64 o2, .slice none 0 0, .pointer none, .bool false, .int .i64 0, .slice none 0 0, .pointer (some ⟨b0 + 2, 0, none⟩), .bool false, .int .i64 0, .slice none 0 0] 58
    [.pointer (some ⟨b0, 0, none⟩), .bool true, .int .i64 o1, .slice none 0 0, .pointer (some ⟨b0 + 1, 0, none⟩), .bool true, .int .i64 o2, .slice none 0 0, .pointer none, .bool false, .int .i64 0, .slice none 0 0, .pointer (some ⟨b0 + 2, 0, none⟩), .bool false, .int .i64 0, .slice none 0 0] (fun j v hv => by simpa using hv)
  rw [h4, z3] at row
  have rt := there_alloc_new w3 #[.pointer (some ⟨b0, 0, none⟩), .bool true, .int .i64 o1, .slice none 0 0, .pointer (some ⟨b0 + 1, 0, none⟩), .bool true, .int .i64 o2, .slice none 0 0, .pointer none, .bool false, .int .i64 0, .slice none 0 0, .pointer (some ⟨b0 + 2, 0, none⟩), .bool false, .int .i64 0, .slice none 0 0] 58 16 (Nat.le_refl _)
  rw [h4, z3] at rt
  have cell : ∀ j v, [Value.pointer (some ⟨b0, 0, none⟩), .bool true, .int .i64 o1, .slice none 0 0, .pointer (some ⟨b0 + 1, 0, none⟩), .bool true, .int .i64 o2, .slice none 0 0, .pointer none, .bool false, .int .i64 0, .slice none 0 0, .pointer (some ⟨b0 + 2, 0, none⟩), .bool false, .int .i64 0, .slice none 0 0][j]? = some v → w4.cell? ⟨b0 + 3, j, none⟩ = some v := fun j v hv => by
    have := row j v hv
    rwa [Nat.zero_add] at this
  have hs : Sl EI w4 none 0 (([] : List (Held Item)).map (·.1)) := Sl.nil_ EI w4 none (by decide)
  refine ⟨fun a ha => ?_, ?_, fun k hk => ?_, ((k1.then_ k2).then_ k3).then_ k4, by omega⟩
  · match a, ha with
    | 0, _ => exact ⟨0, [], none, none, 0, ⟨cell 0 _ rfl, cell 1 _ rfl, cell 2 _ rfl, cell 3 _ rfl, there_sub rt (by omega) (by omega), hs, fun h => absurd rfl h, .inl ⟨rfl, b0, rfl, g0⟩, ⟨fun a ha => by obtain rfl := Option.some.inj ha; simp [bOwn], fun a h => by cases h⟩⟩, Nat.le_refl _, Nat.le_refl _⟩
    | 1, _ => exact ⟨0, [], none, none, 0, ⟨cell 4 _ rfl, cell 5 _ rfl, cell 6 _ rfl, cell 7 _ rfl, there_sub rt (by omega) (by omega), hs, fun h => absurd rfl h, .inl ⟨rfl, b0 + 1, rfl, g1⟩, ⟨fun a ha => by obtain rfl := Option.some.inj ha; simp [bOwn], fun a h => by cases h⟩⟩, Nat.le_refl _, Nat.le_refl _⟩
    | 2, _ => exact ⟨0, [], none, none, 0, ⟨cell 8 _ rfl, cell 9 _ rfl, cell 10 _ rfl, cell 11 _ rfl, there_sub rt (by omega) (by omega), hs, fun h => absurd rfl h, .inr ⟨rfl, rfl, rfl, .inl rfl⟩, ⟨fun a h => (by cases h), fun a h => (by cases h)⟩⟩, Nat.le_refl _, Nat.le_refl _⟩
    | 3, _ => exact ⟨0, [], none, none, 0, ⟨cell 12 _ rfl, cell 13 _ rfl, cell 14 _ rfl, cell 15 _ rfl, there_sub rt (by omega) (by omega), hs, fun h => absurd rfl h, .inr ⟨rfl, rfl, rfl, .inr ⟨b0 + 2, rfl, g3⟩⟩, ⟨fun a ha => by obtain rfl := Option.some.inj ha; simp [bOwn], fun a h => by cases h⟩⟩, Nat.le_refl _, Nat.le_refl _⟩
  · simp [bOwn]
  · rw [h0] at hk
    simp [bOwn, hk]

set_option maxRecDepth 100000 in
set_option maxHeartbeats 16000000 in
theorem bags_ok (o1 o2 : Int) (SA : Option Addr) (sc : Nat) (ops : List OpD) (w : World) (hs : Scr w SA sc ops) (hlen : ops.length ≤ 10000000) (hsum : (ops.map (·.L)).sum ≤ 10000000) :
    Calls Try.prog 7 #[.int .i64 o1, .int .i64 o2, .slice SA ops.length sc] w (fun e w' => e = .returned (.bool true) ∧ Keep nob w w') := by
  have HS := Lib.hid hs
  have HSUM := Lib.hid hsum
  have hlc := hs.sl.le
  have hcc := hs.sl.cap
  obtain ⟨N, HN⟩ : ∃ N, Hid (ops.length = N) := ⟨_, Lib.hid rfl⟩
  rw [HN.out] at hlc hlen ⊢
  have hNb : (N : Int) ≤ 10000000 := by omega
  clear hs hsum
  have HF1 := Lib.hid (by_ok o1)
  have HF2 := Lib.hid (by_ok o2)
  obtain ⟨b0, HB0⟩ : ∃ b, Hid (w.heap.size = b) := ⟨_, Lib.hid rfl⟩
  obtain ⟨w1, HW1⟩ : ∃ w1, Hid (w.alloc (.cells #[byV o1, .slice none 0 0, .int .i64 0] 61) = w1) := ⟨_, Lib.hid rfl⟩
  have HZ1 : Hid (w1.heap.size = b0 + 1) := by unfold Hid; rw [← HW1.out, World.size_alloc, HB0.out]
  obtain ⟨w2, HW2⟩ : ∃ w2, Hid (w1.alloc (.cells #[byV o2, .slice none 0 0, .int .i64 0] 61) = w2) := ⟨_, Lib.hid rfl⟩
  have HZ2 : Hid (w2.heap.size = b0 + 2) := by unfold Hid; rw [← HW2.out, World.size_alloc, HZ1.out]
  have tok1 := Lib.hid True.intro
  have tok2 := Lib.hid True.intro
  go_enter Try.func7, Try.ntmps7
  go_upto_region 3 with (first
    | (go_at_call 15; have _t := tok1; go_must (refine (HF1.out _).mono ?_); rintro e w' ⟨rfl, hw⟩; replace hw := hw.symm; subst hw; clear _t tok1)
    | (go_at_call 33; have _t := tok2; go_must (refine (new_ok (byF o1) #[] #[] w).mono ?_); rintro e w' ⟨rfl, hw⟩; rw [HW1.out] at hw; replace hw := hw.symm; subst hw; rw [HB0.out]; clear _t tok2)
    | (go_at_call 15; go_must (refine (HF2.out _).mono ?_); rintro e w' ⟨rfl, hw⟩; replace hw := hw.symm; subst hw)
    | (go_at_call 33; go_must (refine (new_ok (byF o2) #[] #[] w1).mono ?_); rintro e w' ⟨rfl, hw⟩; rw [HW2.out] at hw; replace hw := hw.symm; subst hw; rw [HZ1.out]))
  obtain ⟨w3, HW3⟩ : ∃ w3, Hid (w2.alloc (.cells #[.nilFunc, .slice none 0 0, .int .i64 0] 61) = w3) := ⟨_, Lib.hid rfl⟩
  obtain ⟨w4, HW4⟩ : ∃ w4, Hid (w3.alloc (.cells #[.pointer (some ⟨b0, 0, none⟩), .bool true, .int .i64 o1, .slice none 0 0, .pointer (some ⟨b0 + 1, 0, none⟩), .bool true, .int .i64 o2, .slice none 0 0, .pointer none, .bool false, .int .i64 0, .slice none 0 0, .pointer (some ⟨b0 + 2, 0, none⟩), .bool false, .int .i64 0, .slice none 0 0] 58) = w4) := ⟨_, Lib.hid rfl⟩
  rw [HW3.out, HZ2.out, HW4.out]
  have HOS : Hid (OBS (b0 + 2 + 1) (bP b0) bT (bO o1 o2) 0 (bOwn b0) w w4) := obs_start o1 o2 b0 w w1 w2 w3 w4 HB0.out HW1.out HW2.out HW3.out HW4.out
  obtain ⟨bl, HBL⟩ : ∃ bl, Hid (b0 + 2 + 1 = bl) := ⟨_, Lib.hid rfl⟩
  rw [HBL.out] at HOS ⊢
  obtain ⟨_, _, _, _, _, hp0, -⟩ := HOS.out.st 0 (by decide)
  obtain ⟨_, _, _, _, _, hp1, -⟩ := HOS.out.st 1 (by decide)
  have q0 := hp0.c0
  have q1 := hp1.c0
  simp only [bP, Nat.zero_mul, Nat.one_mul] at q0 q1
  clear hp0 hp1
  go_upto_region 5 with (go_at_call 33; go_must (refine (new_nil w4).mono ?_); rintro e w' ⟨rfl, hw⟩; replace hw := hw.symm; subst hw)
  clear q0 q1
  have HSW : Hid (∀ w', Keep nob w w' → Scr w' SA sc ops) := fun w' hk => ⟨HS.out.sl.keep hk (nobIn _), fun d hd => let ⟨xs, g1, g2⟩ := HS.out.ls d hd; ⟨xs, g1, g2.keep hk (nobIn _)⟩⟩
  go_wp2_with (fail)
  go_loopw [9] (fun u9 wr => ∃ (k : Nat) (own : Nat → Nat), k ≤ N ∧ u9 = .int .i64 (k : Int) ∧ Hid (OBS bl (bP b0) bT (bO o1 o2) (sumTo ops k) own w wr)) (fun u9 _ => ((N : Int) - intOf u9).toNat)
  case atStart => exact ⟨0, bOwn b0, Nat.zero_le _, rfl, HOS⟩
  case round =>
    obtain ⟨k, own, hk, rfl, HOB⟩ := hrel
    by_cases hlt : k < N
    · have hk0 : (0 : Int) ≤ (k : Int) := by omega
      have hk1 : (k : Int) < (N : Int) := by omega
      obtain ⟨bs, os, rfl, hx⟩ := (HSW.out wr HOB.out.keep).sl.elem (i := k) (by rw [HN.out]; exact hlt)
      obtain ⟨d, HD⟩ : ∃ d, Hid (ops[k]'(by rw [HN.out]; exact hlt) = d) := ⟨_, Lib.hid rfl⟩
      have HDE : Hid (ops[k]? = some d) := by unfold Hid; rw [← HD.out]; exact List.getElem?_eq_getElem _
      obtain ⟨on, kd, nn, X, L, cx⟩ := d
      rw [HD.out] at hx
      have hx0 := hx 0 _ rfl
      have hx1 := hx 1 _ rfl
      have hx2 := hx 2 _ rfl
      have hx3 := hx 3 _ rfl
      simp only [EOp, Nat.add_zero] at hx0 hx1 hx2 hx3
      clear hx HD
      have HSK : Hid (sumTo ops (k + 1) = sumTo ops k + L) := sumTo_succ HDE.out
      have HSM : Hid (sumTo ops k + L ≤ 10000000) := by have h1 := sumTo_le ops (k + 1); rw [HSK.out] at h1; have := HSUM.out; unfold Hid; omega
      obtain ⟨a, ha, hmask⟩ := mask3 on
      obtain ⟨bo, HBO⟩ : ∃ b, Hid (wr.heap.size = b) := ⟨_, Lib.hid rfl⟩
      obtain ⟨W, HW⟩ : ∃ W, Hid (wr.alloc (.cells #[.int .i64 on, .int .i64 kd, .int .i64 nn, .slice X L cx] 64) = W) := ⟨_, Lib.hid rfl⟩
      have HKW : Hid (Keep nob wr W) := by unfold Hid; rw [← HW.out]; exact (Keep.refl nob wr).alloc _
      have HRO : Hid (W.cell? ⟨bo, 0, none⟩ = some (.int .i64 on) ∧ W.cell? ⟨bo, 1, none⟩ = some (.int .i64 kd) ∧ W.cell? ⟨bo, 2, none⟩ = some (.int .i64 nn) ∧ W.cell? ⟨bo, 3, none⟩ = some (.slice X L cx)) := by unfold Hid; rw [← HW.out, ← HBO.out]; exact ⟨by simp, by simp, by simp, by simp⟩
      go_upto_region 9 with (fail)
      rw [HW.out, HBO.out]
      obtain ⟨r0, r1, r2, r3⟩ := HRO.out
      clear hx0 hx1 hx2 hx3
      have ha0 : (0 : Int) ≤ (a : Int) := by omega
      have ha1 : (a : Int) < 4 := by omega
      go_upto_block 2 with (fail)
      have HOW : Hid (OBS bl (bP b0) bT (bO o1 o2) (sumTo ops k) own w W) := HOB.out.kept HKW.out
      have HXL : Hid (∃ xs : List Item, xs.length = L ∧ Sl EI w X cx xs) := HS.out.ls _ (List.mem_of_getElem? HDE.out)
      have hsm := HSM.out
      have hsk := HSK.out
      go_cut [12] from 63 to 91 (fun u12 wc => u12 = .bool true ∧ ∃ own', Hid (OBS bl (bP b0) bT (bO o1 o2) (sumTo ops (k + 1)) own' w wc))
      case first =>
        obtain ⟨m, cs, A, Ar, cr, hp, hm, hc⟩ := HOW.out.st a ha
        have HP := Lib.hid hp
        have HMC := Lib.hid (And.intro hm hc)
        have HDR : Hid (Keep nob W W.drew) := (Keep.refl nob W).drew
        have HOD : Hid (OBS bl (bP b0) bT (bO o1 o2) (sumTo ops k) own w W.drew) := HOW.out.kept HDR.out
        clear hp hm hc
        by_cases h1 : kd = 1
        · subst h1
          go_wp2_with (fail)
          refine wp_region_mid 4 _ rfl rfl (by kernel_rfl) (by kernel_rfl) ?_
          simp only [List.take_succ_cons, List.take_zero]
          repeat still_step
          refine wpStill_nil ?_
          intro K hK
          go_simp
          obtain ⟨xs, hxl, hxs⟩ := HXL.out
          refine (added_ok X cx L xs on 1 nn W.drew (HP.out.kept HDR.out) (by omega) HOD.out.blo hxl ((hxs.keep HOB.out.keep (nobIn _)).keep (HKW.out.then_ HDR.out) (nobIn _)) (fun hne b hb => HOD.out.old _ (hxs.lt hne b hb)) (by have := HMC.out; omega) (by have := HMC.out; omega)).mono ?_
          rintro e w5 ⟨rfl, hpost⟩
          have HPO := Lib.hid hpost
          clear hpost
          have HNX : Hid (∃ own', OBS bl (bP b0) bT (bO o1 o2) (sumTo ops (k + 1)) own' w w5) := by
            obtain ⟨own', m', A', Ar', cr', g1, g2, g3, g4, -⟩ := HPO.out
            have hcl := (comeTo_len (bT a) cs m xs).2
            have hmc := HMC.out
            exact ⟨own', HOD.out.step ha g1 g2 g4 (by omega) (by omega) (by omega)⟩
          refine hK _ _ ?_
          clear hK K
          simp only [List.drop_succ_cons, List.drop_zero]
          refine Veil.out ?_
          repeat (refine veil_step (fun K hK => ?_); go_simp; refine hK _ ?_; clear hK K)
          refine ⟨wpStill_nil ?_⟩
          go_wp2_with (fail)
          go_meet
          case rel =>
            obtain ⟨own', h⟩ := HNX.out
            exact ⟨rfl, own', h⟩
        · have z1 : ((kd : Int) == 1) = false := by simpa using h1
          by_cases h2 : kd = 2
          · subst h2
            have HTK : Hid (Calls Try.prog 35 #[.pointer (some ⟨bl, a * 4, none⟩)] W fun e w' => e = .returned (.bool true) ∧ TookPost own a bl (a * 4) (bP b0 a) (bT a) (bO o1 o2 a) m cs A W w') :=
              took_ok W HP.out (by omega) HOW.out.blo (by have := HMC.out; omega)
            go_wp2_with (go_at_call 35; go_must (refine HTK.out.mono ?_); rintro e w5 ⟨rfl, hpost⟩; have HPO := Lib.hid hpost; clear hpost)
            have HNX : Hid (∃ own', OBS bl (bP b0) bT (bO o1 o2) (sumTo ops (k + 1)) own' w w5) := by
              obtain ⟨own', cs', Ar', cr', g1, g2, g3, g4, g5, -⟩ := HPO.out
              have hmc := HMC.out
              have hcl : cs'.length ≤ cs.length := by
                by_cases e : cs = []
                · rw [g3 e]; exact Nat.zero_le _
                · have := g4 e; omega
              exact ⟨own', HOW.out.step ha g1 g2 g5 (by omega) (by omega) (by omega)⟩
            go_meet
            case rel =>
              obtain ⟨own', h⟩ := HNX.out
              exact ⟨rfl, own', h⟩
          · have z2 : ((kd : Int) == 2) = false := by simpa using h2
            by_cases h4 : kd = 4
            · subst h4
              obtain ⟨n, HCN⟩ : ∃ n, Hid (cs.length = n) := ⟨_, Lib.hid rfl⟩
              have q0 := HP.out.c0
              have q1 := HP.out.c1
              have q2 := HP.out.c2
              have q3 := HP.out.c3
              rw [HCN.out] at q3
              go_wp2_with (fail)
              refine wp_region_mid 6 _ rfl rfl (by kernel_rfl) (by kernel_rfl) ?_
              simp only [List.take_succ_cons, List.take_zero]
              repeat still_step
              refine wpStill_nil ?_
              intro K hK
              go_simp
              refine (told_ok nn W.drew (HP.out.kept HDR.out).bag (HP.out.kept HDR.out).sl HCN.out (by have := HMC.out; have := HCN.out; omega) (by have := HMC.out; omega)).mono ?_
              rintro e w5 ⟨rfl, hkt⟩
              have HNX : Hid (OBS bl (bP b0) bT (bO o1 o2) (sumTo ops (k + 1)) own w w5) := (HOD.out.kept hkt).more (by omega)
              clear hkt
              refine hK _ _ ?_
              clear hK K
              simp only [List.drop_succ_cons, List.drop_zero]
              refine Veil.out ?_
              repeat (refine veil_step (fun K hK => ?_); go_simp; refine hK _ ?_; clear hK K)
              refine ⟨wpStill_nil ?_⟩
              go_wp2_with (fail)
              go_meet
              case rel => exact ⟨rfl, own, HNX⟩
            · have z4 : ((kd : Int) == 4) = false := by simpa using h4
              by_cases h5 : kd = 5
              · subst h5
                go_wp2_with (fail)
                refine wp_region_mid 4 _ rfl rfl (by kernel_rfl) (by kernel_rfl) ?_
                simp only [List.take_succ_cons, List.take_zero]
                repeat still_step
                refine wpStill_nil ?_
                intro K hK
                go_simp
                obtain ⟨xs, hxl, hxs⟩ := HXL.out
                refine (amid_ok X cx L xs on 5 nn W.drew (HP.out.kept HDR.out) (by omega) HOD.out.blo rfl hxl ((hxs.keep HOB.out.keep (nobIn _)).keep (HKW.out.then_ HDR.out) (nobIn _)) (fun hne b hb => HOD.out.old _ (hxs.lt hne b hb)) (by have := HMC.out; omega) (by have := HMC.out; omega)).mono ?_
                rintro e w5 ⟨rfl, hpost⟩
                have HPO := Lib.hid hpost
                clear hpost
                have HNX : Hid (∃ own', OBS bl (bP b0) bT (bO o1 o2) (sumTo ops (k + 1)) own' w w5) := by
                  obtain ⟨own', m', cs', A', Ar', cr', g1, g2, g3, g4, g5⟩ := HPO.out
                  have hmc := HMC.out
                  exact ⟨own', HOD.out.step ha g1 g2 g5 (by omega) (by omega) (by omega)⟩
                refine hK _ _ ?_
                clear hK K
                simp only [List.drop_succ_cons, List.drop_zero]
                refine Veil.out ?_
                repeat (refine veil_step (fun K hK => ?_); go_simp; refine hK _ ?_; clear hK K)
                refine ⟨wpStill_nil ?_⟩
                go_wp2_with (fail)
                go_meet
                case rel =>
                  obtain ⟨own', h⟩ := HNX.out
                  exact ⟨rfl, own', h⟩
              · have z5 : ((kd : Int) == 5) = false := by simpa using h5
                go_wp2_with (fail)
                go_meet
                case rel => exact ⟨rfl, own, HOW.out.more (by omega)⟩
      case rest =>
        obtain ⟨rfl, own', HOC⟩ := hcut
        obtain ⟨m, cs, A, Ar, cr, hp, hm, hc⟩ := HOC.out.st a ha
        have HP := Lib.hid hp
        obtain ⟨n, HCN⟩ : ∃ n, Hid (cs.length = n) := ⟨_, Lib.hid rfl⟩
        have hcr := hp.sl.cap
        have hcl := hp.sl.le
        rw [List.length_map, HCN.out] at hcl
        clear hp
        have HFX : Hid (∀ w', Keep (fun _ => False) wc w' → w'.cell? ⟨bl, a * 4, none⟩ = some (.pointer (bP b0 a)) ∧ w'.cell? ⟨bl, a * 4 + 3, none⟩ = some (.slice Ar n cr)) := fun w' hk => ⟨(HP.out.kept hk).c0, by rw [← HCN.out]; exact (HP.out.kept hk).c3⟩
        have HLN : Hid (∀ w', Keep (fun _ => False) wc w' → Calls Try.prog 38 #[.pointer (bP b0 a)] w' fun e w'' => e = .returned (.int .i64 (n : Int)) ∧ Keep (fun _ => False) w' w'') := fun w' hk => by
          have h := (HP.out.kept hk).bag.len
          rw [HCN.out] at h
          exact h.mono fun e w'' ⟨g1, g2⟩ => ⟨g1, by rw [g2]; exact Keep.refl _ _⟩
        have hnb : (n : Int) ≤ 10000000 := by have := HCN.out; omega
        clear r0 r1 r2 r3
        go_upto_region 20 with (fail)
        refine wp_region_kept (by kernel_rfl) (by kernel_rfl) (QV.out ?_)
        repeat (first
          | (refine kq_skip (by rfl) (fun K hK => ?_); go_simp; refine hK _ ?_; clear hK K)
          | (refine kq_want (by rfl) (fun K hK => ?_); first
              | (refine BigFrame.quiet_move _ rfl ?_; go_simp; refine hK _ ?_; clear hK K)
              | (refine kq_still ?_ (fun w' hw' => ?_) ?_; rotate_left; (obtain ⟨c1', c2'⟩ := HFX.out w' hw'; go_simp; first | done | exact rfl); go_simp; refine hK _ ?_; clear hK K)
              | (go_simp; apply Exists.intro; refine ⟨fun w' hw' => ?_, hK _ ?_⟩; (first | (refine (HLN.out w' hw').mono ?_)); rintro e w'' ⟨rfl, hk''⟩; exact ⟨rfl, hw'.then_ hk''⟩; clear hK K)))
        refine ⟨wpQuiet_nil ?_⟩
        intro wq hkq
        have HOQ := Lib.hid (HOC.out.kept hkq)
        clear hkq
        go_wp2_with (fail)
        exact ⟨⟨k + 1, own', hlt, by go_num, HOQ⟩, by simp [intOf]; omega⟩
    · obtain ⟨wx, HWX⟩ : ∃ wx, Hid (wr = wx) := ⟨_, Lib.hid rfl⟩
      rw [HWX.out] at HOB ⊢
      clear HWX wr
      obtain ⟨M, HM⟩ : ∃ M, Hid (sumTo ops k = M) := ⟨_, Lib.hid rfl⟩
      rw [HM.out] at HOB
      have HMB : Hid (M ≤ 10000000) := by have h1 := sumTo_le ops k; rw [HM.out] at h1; have := HSUM.out; unfold Hid; omega
      go_wp2_with (fail)
      go_loopw [13] (fun u13 wr => ∃ (a : Nat) (own : Nat → Nat), a ≤ 4 ∧ u13 = .int .i64 (a : Int) ∧ Hid (OBS bl (bP b0) bT (bO o1 o2) M own w wr)) (fun u13 _ => ((4 : Int) - intOf u13).toNat)
      case atStart => exact ⟨0, own, by omega, rfl, HOB⟩
      case round =>
        obtain ⟨a, own1, ha4, rfl, HO1⟩ := hrel
        by_cases ha : a < 4
        · have ha0 : (0 : Int) ≤ (a : Int) := by omega
          have ha1 : (a : Int) < 4 := by omega
          have HTD : Hid (∃ (n cr : Nat) (Ar : Option Addr), wr.cell? ⟨bl, a * 4, none⟩ = some (.pointer (bP b0 a)) ∧ wr.cell? ⟨bl, a * 4 + 1, none⟩ = some (.bool (bT a)) ∧ wr.cell? ⟨bl, a * 4 + 2, none⟩ = some (.int .i64 (bO o1 o2 a)) ∧ wr.cell? ⟨bl, a * 4 + 3, none⟩ = some (.slice Ar n cr) ∧
              Calls Try.prog 36 #[.agg #[.pointer (bP b0 a), .bool (bT a), .int .i64 (bO o1 o2 a), .slice Ar n cr], .int .i64 (-1)] wr fun e w' => e = .returned (.bool true) ∧ Keep nob wr w') := by
            obtain ⟨m, cs, A, Ar, cr, hp, hm, hc⟩ := HO1.out.st a ha
            exact ⟨cs.length, cr, Ar, hp.c0, hp.c1, hp.c2, hp.c3, told_ok (-1) wr hp.bag hp.sl rfl (by have := HMB.out; omega) (by have := HMB.out; omega)⟩
          obtain ⟨n0, cr0, Ar0, q0, q1, q2, q3, htd⟩ := HTD.out
          have HTC := Lib.hid htd
          clear htd HTD
          go_wp2_with (go_at_call 36; go_must (refine HTC.out.mono ?_); rintro e w5 ⟨rfl, hk⟩; have HK5 := Lib.hid hk; clear hk)
          have HO5 : Hid (OBS bl (bP b0) bT (bO o1 o2) M own1 w w5) := HO1.out.kept HK5.out
          clear q0 q1 q2 q3 HTC
          go_loopw [120] (fun _ wz => ∃ own, Hid (OBS bl (bP b0) bT (bO o1 o2) M own w wz)) (fun _ wz => lenP bl (a * 4 + 3) wz)
          case atStart => exact ⟨own1, HO5⟩
          case round =>
            obtain ⟨own2, HO2⟩ := hrel
            obtain ⟨m, cs, A, Ar, cr, hp, hm, hc⟩ := HO2.out.st a ha
            have HP := Lib.hid hp
            have HMC := Lib.hid (And.intro hm hc)
            obtain ⟨n, HCN⟩ : ∃ n, Hid (cs.length = n) := ⟨_, Lib.hid rfl⟩
            have q0 := hp.c0
            have q3 := hp.c3
            rw [HCN.out] at q3
            clear hp hm hc
            have HTK : Hid (Calls Try.prog 35 #[.pointer (some ⟨bl, a * 4, none⟩)] wr fun e w' => e = .returned (.bool true) ∧ TookPost own2 a bl (a * 4) (bP b0 a) (bT a) (bO o1 o2 a) m cs A wr w') :=
              took_ok wr HP.out (by omega) HO2.out.blo (by have := HMC.out; have := HMB.out; omega)
            by_cases hn : 0 < n
            · have hn1 : (0 : Int) < (n : Int) := by omega
              have HNE : Hid (cs ≠ []) := fun e => by have := HCN.out; rw [e] at this; simp at this; omega
              go_wp2_with (go_at_call 35; go_must (refine HTK.out.mono ?_); rintro e w6 ⟨rfl, hpost⟩; have HPO := Lib.hid hpost; clear hpost)
              obtain ⟨own', cs', Ar', cr', g1, g2, g3, g4, g5, -⟩ := HPO.out
              have g4' := g4 HNE.out
              have hmc := HMC.out
              have hcn := HCN.out
              refine ⟨⟨own', HO2.out.step ha g1 g2 g5 (by omega) (by omega) (Nat.le_refl _)⟩, ?_⟩
              have e1 : lenP bl (a * 4 + 3) w6 = cs'.length := by unfold lenP; rw [g2.c3]
              have e2 : lenP bl (a * 4 + 3) wr = cs.length := by unfold lenP; rw [HP.out.c3]
              omega
            · have hn0 : n = 0 := by omega
              subst hn0
              have hcs : cs = [] := List.eq_nil_of_length_eq_zero HCN.out
              have hn1 : ¬ ((0 : Int) < ((0 : Nat) : Int)) := by omega
              have HLN : Hid (∀ w6, TookPost own2 a bl (a * 4) (bP b0 a) (bT a) (bO o1 o2 a) m cs A wr w6 → w6.cell? ⟨bl, a * 4, none⟩ = some (.pointer (bP b0 a)) ∧ Calls Try.prog 38 #[.pointer (bP b0 a)] w6 fun e w' => e = .returned (.int .i64 0) ∧ w' = w6) := fun w6 hpost => by
                obtain ⟨own', cs', Ar', cr', g1, g2, g3, g4, g5, -⟩ := hpost
                have h := g2.bag.len
                rw [g3 hcs] at h
                exact ⟨g2.c0, h⟩
              go_wp2_with (first
                | (go_at_call 35; go_must (refine HTK.out.mono ?_); rintro e w6 ⟨rfl, hpost⟩; have HPO := Lib.hid hpost; obtain ⟨y0, hln⟩ := HLN.out w6 hpost; have HL6 := Lib.hid hln; clear hpost hln)
                | (go_at_call 38; go_must (refine HL6.out.mono ?_); rintro e w' ⟨rfl, hw⟩; replace hw := hw.symm; subst hw))
              obtain ⟨own', cs', Ar', cr', g1, g2, g3, g4, g5, -⟩ := HPO.out
              have g3' := g3 hcs
              have hmc := HMC.out
              have HN6 : Hid (OBS bl (bP b0) bT (bO o1 o2) M own' w w6) := HO2.out.step ha g1 g2 g5 (by omega) (by rw [g3']; exact Nat.zero_le _) (Nat.le_refl _)
              go_roundw
              case rel => exact ⟨a + 1, own', ha, by go_num, HN6⟩
              case measure => simp [intOf]; omega
        · have HLV := Lib.hid lives_ok
          go_wp2_with (go_at_call 20; go_must (refine (HLV.out _).mono ?_); rintro e wl ⟨rfl, hk⟩; have HKL := Lib.hid hk; clear hk)
          go_ret
          exact ⟨rfl, HO1.out.keep.then_ HKL.out⟩
end Go.Proofs.Ytnofckgnnpmiiaa

/- What is proved: for every input of bulk at most 1048576 the law OrderBags returns true, and its arguments read as before. -/
namespace Go.Proofs.Ytnofckgnnpmiiaa.OrderBags
open Go.ChangeShapes Go.WideShapes Go.ChangeAt Go.RowKit Go.Deep Go.Joins

theorem cells64 : Try.prog.cellsOf 64 = 4 := by kernel_rfl
section
variable {H : Type} {enc : TypeId × Value → H}
theorem bulk_all_at : ∀ (l : List (DataW H)) (d : DataW H), d ∈ l → Rows.uptoBulk d ≤ Rows.uptoBulkAll l
  | [], _, h => by simp at h
  | x :: l, d, h => by
    simp only [Rows.uptoBulkAll]
    rcases List.mem_cons.1 h with rfl | h
    · omega
    · have := bulk_all_at l d h
      omega
theorem bulk_sum (D : Nat → DataW H) (f : Nat → Nat) : ∀ n, (∀ i, i < n → f i ≤ Rows.uptoBulk (D i)) → ((List.range n).map f).sum ≤ Rows.uptoBulkAll ((List.range n).map D) := by
  have app : ∀ (a b : List (DataW H)), Rows.uptoBulkAll (a ++ b) = Rows.uptoBulkAll a + Rows.uptoBulkAll b := fun a b => by
    induction a with
    | nil => simp [Rows.uptoBulkAll]
    | cons x a ih => simp only [List.cons_append, Rows.uptoBulkAll, ih]; omega
  intro n
  induction n with
  | zero => intro _; simp [Rows.uptoBulkAll]
  | succ n ih =>
    intro h
    rw [List.range_succ, List.map_append, List.map_append, List.sum_append, app]
    have h1 := ih (fun i hi => h i (by omega))
    have h2 := h n (by omega)
    simp only [List.map_cons, List.map_nil, List.sum_cons, List.sum_nil, Rows.uptoBulkAll]
    omega
set_option maxRecDepth 100000 in
theorem open_script {W : World} {base : Nat} {v : Value} {d : DataW H} {ps : List MemPlace} (hval : Value.okWide Try.prog W .any base 52 v) (h : DataW.Trod enc Try.prog W 0 (fun _ => true) true 52 v d ps) :
    ∃ SA sc, ∃ ops : List OpD, v = .slice SA ops.length sc ∧ Scr W SA sc ops ∧ ops.length ≤ Rows.uptoBulk d ∧ (ops.map (·.L)).sum ≤ Rows.uptoBulk d := by
  obtain ⟨A, len0, cap0, rfl⟩ := okWide_slice Try.underlying52 hval
  obtain ⟨n0, hn⟩ := h
  rcases open_slice Try.underlying52 hn with ⟨hcs, hx⟩ | ⟨a, len, cap, m, n, D, Pl, hcs, _, hl, hc, hm, hx, hcell⟩
  · simp only [Value.cells, List.cons.injEq, Value.slice.injEq, and_true] at hcs
    obtain ⟨rfl, rfl, rfl⟩ := hcs
    exact ⟨none, 0, [], rfl, ⟨Sl.nil_ EOp W none (by decide), fun d h => by simp at h⟩, Nat.zero_le _, Nat.zero_le _⟩
  · simp only [Value.cells, List.cons.injEq, Value.slice.injEq, and_true] at hcs
    obtain ⟨rfl, rfl, rfl⟩ := hcs
    have hlm : len0 ≤ m := by rw [hm]; split <;> omega
    have each : ∀ i, i < len0 → ∃ q : OpD, (∀ j v, (EOp.cells q)[j]? = some v → W.cell? (a.add (i * 4 + j)) = some v) ∧ (∃ xs : List Item, xs.length = q.L ∧ Sl EI W q.X q.cx xs) ∧ q.L ≤ Rows.uptoBulk (D i) := by
      intro i hi
      obtain ⟨cs', h1, h2⟩ := hcell i (by omega)
      rw [cells64] at h1
      obtain ⟨_, hlen, hcl⟩ := World.cells?_some h1
      obtain ⟨y0, y1, y2, y3, k, e, hl4, t0, t1, t2, t3⟩ := trod_struct4 Try.underlying64 h2
      match cs', hlen with
      | [v0, v1, v2, v3], _ =>
        simp only [cells22, cells3, List.drop, List.take] at t0 t1 t2 t3
        obtain ⟨z0, x0, _⟩ := DataW.trod_int Try.underlying3 t0
        obtain ⟨z1, x1, _⟩ := DataW.trod_int Try.underlying3 t1
        obtain ⟨z2, x2, _⟩ := DataW.trod_int Try.underlying3 t2
        obtain ⟨X, cx, xs, x3, s3, b3⟩ := open_items_cells t3
        simp only [List.cons.injEq, and_true] at x0 x1 x2 x3
        subst x0 x1 x2 x3
        refine ⟨⟨z0, z1, z2, X, xs.length, cx⟩, fun j v hj => ?_, ⟨xs, rfl, s3⟩, ?_⟩
        · have hj4 : j < 4 := (List.getElem?_eq_some_iff.1 hj).1
          have g := hcl j (by omega)
          rw [add_add] at g
          rw [g]
          match j, hj4, hj with
          | 0, _, hj => exact hj
          | 1, _, hj => exact hj
          | 2, _, hj => exact hj
          | 3, _, hj => exact hj
        · simp only [Prod.mk.injEq] at e
          rw [e.1]
          simp only [Rows.uptoBulk, Rows.uptoBulkAll]
          omega
    haveI : Inhabited OpD := ⟨⟨0, 0, 0, none, 0, 0⟩⟩
    obtain ⟨Y, hY⟩ := choose_lt (α := OpD) each
    have hlen : ((List.range len0).map Y).length = len0 := by simp
    have hd : d = .slice ((List.range len0).map D) ((List.range (m - len0)).map fun j => D (len0 + j)) := by
      simp only [Prod.mk.injEq] at hx
      exact hx.1
    refine ⟨some a, cap0, (List.range len0).map Y, by rw [hlen], ⟨⟨by rw [hlen]; exact hl, by unfold maxLen at hc; omega, fun hne => ?_⟩, fun q hq => ?_⟩, ?_, ?_⟩
    · have hpos : 0 < len0 := Nat.pos_of_ne_zero (fun e => by subst e; simp at hne)
      obtain ⟨b, o, e⟩ := a
      have he : e = none := by
        have := (hY 0 hpos).1 0 _ rfl
        cases e with
        | none => rfl
        | some z =>
          simp [World.cell?, Addr.add] at this
          try split at this <;> simp at this
      subst he
      refine ⟨b, o, rfl, ?_⟩
      have : ∀ k, k ≤ len0 → W.rangeAt b o (EOp.flat ((List.range k).map Y)) := by
        intro k
        induction k with
        | zero => intro _; exact range_nil _ _ _
        | succ k ih =>
          intro hk
          rw [List.range_succ, List.map_append, El.flat_app, range_app, El.flat_len]
          refine ⟨ih (by omega), ?_⟩
          intro j v hj
          simp only [List.length_map, List.length_range, List.map_cons, List.map_nil, El.flat_cons, El.flat_nil, List.append_nil] at hj ⊢
          have := (hY k (by omega)).1 j v hj
          rw [add_plain] at this
          rw [← this, Nat.add_assoc]
          rfl
      exact this len0 (Nat.le_refl _)
    · obtain ⟨i, hi, rfl⟩ := List.mem_map.1 hq
      exact (hY i (List.mem_range.1 hi)).2.1
    · rw [hlen, hd]
      have := bulk_slice ((List.range len0).map D) ((List.range (m - len0)).map fun j => D (len0 + j))
      simp only [List.length_map, List.length_range] at this
      omega
    · rw [hd, List.map_map]
      have := bulk_sum D (fun i => (Y i).L) len0 (fun i hi => (hY i hi).2.2)
      simp only [Rows.uptoBulk]
      have e : ((List.range len0).map ((fun x => x.L) ∘ Y)) = (List.range len0).map (fun i => (Y i).L) := rfl
      rw [e]
      omega
end

theorem own : ownKnob Try.prog.godebug = none := by kernel_rfl

set_option maxRecDepth 100000 in
theorem contract (H : Type) (enc : TypeId × Value → H) (W : World) (base : Nat) (args : Array Value) (ds gs : List (DataW H)) (before : List MemPlace)
    (hval : ∀ (j : Nat) t v, Try.f7.params[j]? = some t → args[j]? = some v → Value.okWide Try.prog W .any base t v)
    (hW : DataW.Whole enc Try.prog Try.f7.params.toList Rows.orderBagsSpec.vars false W args.toList ds gs before) (hk : Rows.uptoSmall H (ds ++ gs) = true) :
    Calls Try.prog 7 args W fun e W' => ∃ v, e = .returned v ∧ Rows.orderBagsSpec.post enc Try.prog Try.f7 false true false false W args v W' := by
  have hW' := hW
  obtain ⟨p, q, hA0, hV, rfl, hfz, hnd⟩ := hW
  have hA : DataW.TrodAll enc Try.prog W 0 (fun _ => true) true Try.f7.params.toList args.toList ds p := hA0
  rw [Try.params7] at hA hval
  obtain ⟨v0, vs0, d0, ds0, p0, q0, hargs, rfl, rfl, h0, r0⟩ := trodAll_cons hA
  obtain ⟨v1, vs1, d1, ds1, p1, q1, rfl, rfl, rfl, h1, r1⟩ := trodAll_cons r0
  obtain ⟨v2, vs2, d2, ds2, p2, q2, rfl, rfl, rfl, h2, r2⟩ := trodAll_cons r1
  obtain ⟨rfl, rfl, rfl⟩ := trodAll_nil r2
  obtain rfl : args = #[v0, v1, v2] := Array.toList_inj.1 hargs
  obtain ⟨o0, rfl, rfl, rfl, w0⟩ := open_int Try.underlying3 (hval 0 3 v0 rfl rfl) h0
  obtain ⟨o1, rfl, rfl, rfl, w1⟩ := open_int Try.underlying3 (hval 1 3 v1 rfl rfl) h1
  obtain ⟨SA, sc, ops, rfl, hscr, hb1, hb2⟩ := open_script (hval 2 52 v2 rfl rfl) h2
  have hb := bulk_bound hk
  obtain ⟨rfl, rfl⟩ := trodVars_none hV
  simp only [List.append_nil, Rows.uptoBulkAll] at hb
  clear hA0 hA
  refine (bags_ok o0 o1 SA sc ops W hscr (by omega) (by omega)).mono fun e W' ⟨he, hk'⟩ => ?_
  subst he
  exact ⟨_, rfl, law_post hW' rfl rfl rfl rfl rfl (by decide +kernel) (hk'.below (Nat.le_refl _) (fun _ _ h => h))⟩

set_option maxRecDepth 100000 in
theorem lifted (os : Os) (started : os.Started) (H : Type) (enc : TypeId × Value → H) (F : Stop.Interp) :
    ReturnsInHanded {} Try.checked os 7 .any ((Rows.OpenSpec.upto Rows.orderBagsSpec).pre6 enc Try.prog Try.f7 Rows.orderBagsUptoRow.domain false) (((Rows.OpenSpec.upto Rows.orderBagsSpec).at F).post enc Try.prog Try.f7 false true false false) := by
  refine returnsInHanded_of_cond (C := Try.checked) (s := Rows.OpenSpec.upto Rows.orderBagsSpec) (k := Rows.uptoSmall) rfl own started (by kernel_rfl) Try.func7
    (OpenSpec.witness (enc := enc) (C := Try.checked) (s := Rows.OpenSpec.upto Rows.orderBagsSpec) (k := Rows.uptoSmall) rfl false ⟨#[], #[.int .i64 0, .int .i64 0, .slice none 0 0], []⟩ 8 (by kernel_rfl) (by kernel_rfl) (by kernel_rfl)
      (x := ([.lit (.int .i64 0), .lit (.int .i64 0), .nil], [], [])) (by kernel_rfl) rfl (by kernel_rfl)) ?_
  intro W base args ds gs before hval hW _ hk _
  exact contract H enc W base args ds gs before hval hW hk

theorem over : Rows.orderBagsUptoRow.holds Try.pinned (Rows.OpenSpec.upto Rows.orderBagsSpec) :=
  OpenClaim.holds_of_cond 7 Try.f7 rfl rfl rfl rfl rfl rfl rfl ⟨rfl, rfl, rfl, rfl, rfl⟩ rfl rfl rfl rfl rfl (by kernel_rfl) Try.func7 (by kernel_rfl)
    (of_decide_eq_true (by kernel_rfl)) (by unfold Func.isWrapper; first | (rw [if_pos (by decide +kernel)]; kernel_rfl) | (rw [if_neg (by decide +kernel)]; exact ⟨rfl, rfl⟩))
    (fun os started H enc _ F => lifted os started H enc F)

theorem proved : Rows.OrderBagsUptoSaid :=
  over
end Go.Proofs.Ytnofckgnnpmiiaa.OrderBags
