/- A bag of Items: Take. -/
import Derived.Test.YtnofckgnnpmiiaaBg
import Derived.Test.YtnofckgnnpmiiaaFg
import Derived.Deep.Cut
import Derived.Laws.ResultCell
namespace Go.Proofs.Ytnofckgnnpmiiaa
open Go.RowKit Go.Shelf
attribute [local go_sem ↓] Go.wp_at_zero Go.wp_at_succ

/-- what Add and Take may write: the order's own, the bag, its heap -/
def MayB' (S : Nat → Prop) (b : Nat) (A : Option Addr) : Nat → Prop := fun k => S k ∨ k = b ∨ AtB A k

def TakePost (c : Item → Item → Int) (S : Nat → Prop) (I : Nat → World → Prop) (f : Value) (b n m D : Nat) (A : Option Addr) (ca : Nat) (hs : List (Held Item)) (w : World) (e : Ending) (w' : World) : Prop :=
  (∃ h0 hr, hs = h0 :: hr ∧ e = .returned (.tuple #[EI.val h0.1, .bool true])) ∧ Bg w' b f A ca (takeL c hs) m ∧ Keep (MayB' S b A) w w' ∧ ∃ q, q ≤ 2 * D ∧ I (n + q) w'

set_option maxRecDepth 100000 in
set_option maxHeartbeats 8000000 in
theorem take_ok {c : Item → Item → Int} {f : Value} {B : Nat} {S : Nat → Prop} {I : Nat → World → Prop} (hcmp : CmpOk Try.prog EI f c B S I)
   (b n m D : Nat) (A : Option Addr) (ca : Nat) (hs : List (Held Item)) (w : World) (hB : B ≤ w.heap.size) (h : Bg w b f A ca hs m) (hb : B ≤ b) (hA : ∀ a, A = some a → B ≤ a.block)
   (hne : 0 < hs.length) (hI : I n w) (hl : hs.length ≤ 1000000000) (hD : hs.length ≤ 2 ^ D) :
    Calls Try.prog 41 #[.pointer (some ⟨b, 0, none⟩)] w (TakePost c S I f b n m D A ca hs w) := by
  obtain ⟨k, first, cap, rfl, -, -⟩ := hcmp.fn
  have HC := Lib.hid hcmp
  have H := Lib.hid h
  have HI := Lib.hid hI
  have HS := Lib.hid (And.intro hb hA)
  have HL := Lib.hid (And.intro hl hD)
  obtain ⟨L, HLL⟩ : ∃ L, Hid (hs.length = L + 1) := ⟨hs.length - 1, by unfold Hid; omega⟩
  have hhp := h.heap
  rw [HLL.out] at hhp
  -- two results' cells
  obtain ⟨w1, HW1⟩ : ∃ w1, Hid (w1 = (w.alloc (.cells #[.int .i64 0, .int .i64 0] 27)).alloc (.cells #[.int .i64 0, .int .i64 0] 27)) := ⟨_, Lib.hid rfl⟩
  have hk1 : Keep (fun _ => False) w w1 := by rw [HW1.out]; exact ((Keep.refl _ _).alloc _).alloc _
  have HT := Lib.hid (there_ok k first cap b w1 (hk1.cell h.cmp (fun h => h)))
  have hp1 := hk1.cell hhp (fun h => h)
  have hL1 : L ≤ 1000000000 := by have := HLL.out; omega
  have hca := h.ow.sl.cap
  have hcl : L + 1 ≤ ca := by have := h.ow.sl.le; rw [HLL.out] at this; exact this
  have HB1 := Lib.hid (h.keep hk1 (fun h => h) (fun ⟨_, _, h⟩ => h))
  have g0 : 0 < hs.length := hne
  have gL : L < hs.length := by rw [HLL.out]; omega
  obtain ⟨ba, oa, rfl, hp0⟩ := HB1.out.ow.sl.elem g0
  obtain ⟨ba', oa', e', hpl⟩ := HB1.out.ow.sl.elem gL
  simp only [Option.some.injEq, Addr.mk.injEq, and_true] at e'
  obtain ⟨rfl, rfl⟩ := e'
  obtain ⟨x0, HX0⟩ : ∃ x, Hid (hs[0] = x) := ⟨_, Lib.hid rfl⟩
  obtain ⟨xl, HXL⟩ : ∃ x, Hid (hs[L] = x) := ⟨_, Lib.hid rfl⟩
  rw [HX0.out] at hp0
  rw [HXL.out] at hpl
  have HX0' : Hid (hs[0]? = some x0) := by unfold Hid; rw [List.getElem?_eq_getElem g0, HX0.out]
  have HXL' : Hid (hs[L]? = some xl) := by unfold Hid; rw [List.getElem?_eq_getElem gL, HXL.out]
  clear HX0 HXL
  obtain ⟨⟨x0k, x0n⟩, x0o⟩ := x0
  obtain ⟨⟨xlk, xln⟩, xlo⟩ := xl
  have h00 := hp0 0 _ rfl
  have h01 := hp0 1 _ rfl
  have h02 := hp0 2 _ rfl
  have hl0 := hpl 0 _ rfl
  have hl1 := hpl 1 _ rfl
  have hl2 := hpl 2 _ rfl
  simp only [EHI, Nat.add_zero, Nat.zero_mul] at h00 h01 h02 hl0 hl1 hl2
  have hL0 : (0 : Int) ≤ (L : Int) := by omega
  have hLL : (L : Int) < (L : Int) + 1 := by omega
  have hLp : ((L : Int) + 1 == 0) = false := by simp; omega
  have ha1 : ∀ o1 : Obj, (w1.alloc o1).cell? ⟨b, 1, none⟩ = some (.slice (some ⟨ba, oa, none⟩) (L + 1) ca) := fun o1 => ((Keep.refl (fun _ => False) _).alloc _).cell hp1 (fun h => h)
  clear hcmp h hI hb hA hl hD hhp hk1 hne hp0 hpl g0 gL
  have HT2 := HT.out
  rw [HW1.out] at HT2
  have HT3 := Lib.hid HT2
  clear HT2 HT
  go_enter Try.func41, Try.ntmps41
  go_wp2_with (go_at_call 69; go_must (refine HT3.out.mono ?_); rintro e w2 ⟨rfl, hw2⟩; rw [← HW1.out] at hw2; replace hw2 := hw2.symm; subst hw2)
  obtain ⟨w3, HW3⟩ : ∃ w3, Hid (w3 = w1.alloc (.cells #[.int .i64 x0k, .int .i64 x0n] 27)) := ⟨_, Lib.hid rfl⟩
  have hk3 : Keep (fun _ => False) w1 w3 := by rw [HW3.out]; exact (Keep.refl _ _).alloc _
  have HB3 := Lib.hid (HB1.out.keep hk3 (fun h => h) (fun ⟨_, _, h⟩ => h))
  have i1 := hk3.cell hp1 (fun h => h)
  have il0 := hk3.cell hl0 (fun h => h)
  have il1 := hk3.cell hl1 (fun h => h)
  have il2 := hk3.cell hl2 (fun h => h)
  rw [← HW3.out]
  clear ha1 hp1 h00 h01 h02 hl0 hl1 hl2 hk3
  go_still_tail 11, (by kernel_rfl)
  obtain ⟨ba', oa', e', hth⟩ := HB3.out.ow.room (by omega)
  simp only [Option.some.injEq, Addr.mk.injEq, and_true] at e'
  obtain ⟨rfl, rfl⟩ := e'
  have ht1 : w3.drew.there ba oa 3 := there_sub (Keep.there ((Keep.refl (fun _ => False) _).drew) hth (fun h => h)) (by omega) (by simp only [EHI]; omega)
  (refine wpList_step (fun K hK => ?_); go_simp; refine hK _ _ ?_; clear hK K)
  refine wpList_store_mid rfl 114 _ _ rfl ba oa #[.int .i64 xlk, .int .i64 xln, .int .i64 xlo] rfl rfl ht1 (by kernel_rfl) (all_oneCell_toArray (EHI.one ((xlk, xln), xlo))) ?_
  simp only [Act.put]
  refine wpList_nil ?_
  obtain ⟨w4, HW4⟩ : ∃ w4, Hid (w4 = w3.drew.setCells ba oa [.int .i64 xlk, .int .i64 xln, .int .i64 xlo]) := ⟨_, Lib.hid rfl⟩
  rw [show (w3.drew.setCells ba oa (#[Value.int .i64 xlk, .int .i64 xln, .int .i64 xlo] : Array Value).toList) = w4 from HW4.out.symm]
  have HB4 : Hid (Bg w4 b (.func (.func k) first cap) (some ⟨ba, oa, none⟩) ca (hs.set 0 ((xlk, xln), xlo)) m) := by
    have := Bg.put (i := 0) (HB3.out.keep (Keep.drew (Keep.refl (fun _ => False) _)) (fun h => h) (fun ⟨_, _, h⟩ => h)) (by rw [HLL.out]; omega) ((xlk, xln), xlo)
    simp only [EHI, Nat.zero_mul, Nat.add_zero] at this
    rw [HW4.out]; exact this
  have HK4 : Hid (Keep (fun kk => kk = ba) w3 w4) := by
    rw [HW4.out]; exact Keep.setCells _ _ ((Keep.refl _ w3).drew) (fun _ => rfl)
  have j1 := HB4.out.heap
  rw [List.length_set, HLL.out] at j1
  obtain ⟨ba', oa', e', hth4⟩ := HB4.out.ow.room (by omega)
  simp only [Option.some.injEq, Addr.mk.injEq, and_true] at e'
  obtain ⟨rfl, rfl⟩ := e'
  have ht4 : w4.there ba (oa + L * 3) 3 := there_sub hth4 (by omega) (by simp only [EHI]; omega)
  clear i1 il0 il1 il2 ht1 hth hth4
  go_upto_region 8 with (refine wpList_store_mid rfl 114 _ _ rfl ba (oa + L * 3) #[.int .i64 0, .int .i64 0, .int .i64 0] rfl rfl ht4 (by kernel_rfl) (all_oneCell_toArray (EHI.one ((0, 0), 0))) ?_; simp only [Act.put])
  obtain ⟨w5, HW5⟩ : ∃ w5, Hid (w5 = w4.setCells ba (oa + L * 3) [.int .i64 0, .int .i64 0, .int .i64 0]) := ⟨_, Lib.hid rfl⟩
  have HB5 : Hid (Bg w5 b (.func (.func k) first cap) (some ⟨ba, oa, none⟩) ca ((hs.set 0 ((xlk, xln), xlo)).set L ((0, 0), 0)) m) := by
    rw [HW5.out]
    exact Bg.put (i := L) HB4.out (by rw [List.length_set, HLL.out]; omega) ((0, 0), 0)
  have HK5 : Hid (Keep (fun kk => kk = ba) w4 w5) := by
    rw [HW5.out]; exact Keep.setCells _ _ (Keep.refl _ w4) (fun _ => rfl)
  have k1 := HB5.out.heap
  rw [List.length_set, List.length_set, HLL.out] at k1
  have kf := (HB5.out.th 1 (by omega)).2
  rw [Nat.zero_add] at kf
  have hslice := fun w => run_slice_h (P := Try.prog) w 59 114 3 Try.underlying59 (by kernel_rfl) (some ⟨ba, oa, none⟩) (L + 1) ca L (L : Int) rfl (by omega)
  try rw [show w4.setCells ba (oa + L * 3) (#[Value.int .i64 0, .int .i64 0, .int .i64 0] : Array Value).toList = w5 from HW5.out.symm]
  clear j1 ht4
  go_wp2_with (fail)
  obtain ⟨w6, HW6⟩ : ∃ w6, Hid (w6 = w5.setCell ⟨b, 1, none⟩ (.slice (some ⟨ba, oa, none⟩) L ca)) := ⟨_, Lib.hid rfl⟩
  rw [← HW6.out]
  have hnb : ¬ (ba = b) := HB5.out.apart _ rfl
  have hkb : Keep (fun kk => kk = b) w5 w6 := by rw [HW6.out]; exact (Keep.refl (fun kk => kk = b) _).setCell (fun _ => rfl) _
  have HB6 : Hid (Bg w6 b (.func (.func k) first cap) (some ⟨ba, oa, none⟩) ca ((hs.set 0 ((xlk, xln), xlo)).take L) m) := by
    have hlen : ((hs.set 0 ((xlk, xln), xlo)).take L).length = L := by rw [List.length_take, List.length_set, HLL.out]; omega
    have hcut : ((hs.set 0 ((xlk, xln), xlo)).set L ((0, 0), 0)).take L = (hs.set 0 ((xlk, xln), xlo)).take L := by
      rw [List.take_set_of_le (Nat.le_refl L)]
    refine ⟨?_, ?_, ?_, ?_, ?_, HB5.out.apart, fun a ha => Nat.lt_of_lt_of_le (HB5.out.old a ha) hkb.size⟩
    · rw [HW6.out, World.cell?_setCell_other _ _ _ _ (by simp)]; exact HB5.out.cmp
    · rw [HW6.out, World.cell?_setCell_same _ _ _ HB5.out.heap, hlen]
    · rw [HW6.out, World.cell?_setCell_other _ _ _ _ (by simp)]; exact HB5.out.next
    · rw [HW6.out]; exact there_setCell HB5.out.th _ _
    · have h1 := HB5.out.ow.keep hkb (fun ⟨a, ha, h⟩ => HB5.out.apart a ha h)
      rw [← hcut]
      exact ⟨h1.sl.take L, h1.room⟩
  have HK6 : Hid (Keep (MayB' S b (some ⟨ba, oa, none⟩)) w3 w6) :=
    (((HK4.out.mono (fun _ _ h => .inr (.inr ⟨_, rfl, h.symm⟩))).then_ (HK5.out.mono (fun _ _ h => .inr (.inr ⟨_, rfl, h.symm⟩)))).then_ (hkb.mono (fun _ _ h => .inr (.inl h))))
  have hk13 : Keep (fun _ => False) w w3 := by rw [HW3.out, HW1.out]; exact (((Keep.refl _ _).alloc _).alloc _).alloc _
  have HBS : Hid (∀ kk, MayB' S b (some ⟨ba, oa, none⟩) kk → ¬ S kk → B ≤ kk) := fun kk h hn => by
    rcases h with h | h | ⟨a, ha, h⟩
    · exact absurd h hn
    · have := HS.out.1; omega
    · have := HS.out.2 a ha; omega
  have HI6 : Hid (I n w6) := by
    have h1 := HC.out.stable _ _ _ HI.out (hk13.below hB (fun _ _ h => h))
    have h3 : Keep (fun kk => kk = ba ∨ kk = b) w3 w6 := ((HK4.out.mono (fun _ _ h => .inl h)).then_ (HK5.out.mono (fun _ _ h => .inl h))).then_ (hkb.mono (fun _ _ h => .inr h))
    refine HC.out.stable _ _ _ h1 (h3.below (Nat.le_trans hB hk13.size) (fun kk hk h => ?_))
    rcases h with h | h
    · have := HS.out.2 _ rfl; simp only at this; omega
    · have := HS.out.1; omega
  have HTK : Hid (takeL c hs = downL c (L - 0) ((hs.set 0 ((xlk, xln), xlo)).take L) 0) := by
    unfold Hid takeL
    rw [show hs.length - 1 = L by rw [HLL.out]; rfl, HXL'.out, Nat.sub_zero]
  have HK13 := Lib.hid hk13
  have HR : Hid (w3.cell? ⟨w1.heap.size, 0, none⟩ = some (.int .i64 x0k) ∧ w3.cell? ⟨w1.heap.size, 1, none⟩ = some (.int .i64 x0n) ∧ w3.there w.heap.size 0 2 ∧
      ¬ MayB' S b (some ⟨ba, oa, none⟩) w1.heap.size ∧ ¬ MayB' S b (some ⟨ba, oa, none⟩) w.heap.size) := by
    have hr := range_alloc_new w1 #[.int .i64 x0k, .int .i64 x0n] 27 [.int .i64 x0k, .int .i64 x0n] (fun j v h => by simpa using h)
    rw [← HW3.out] at hr
    have hb' := World.block_lt_of_cell? _ _ H.out.cmp
    have ha' := H.out.old _ rfl
    have h1 : w.heap.size ≤ w1.heap.size := by rw [HW1.out]; simp; omega
    refine ⟨hr 0 _ rfl, hr 1 _ rfl, ?_, ?_, ?_⟩
    · have h2 := there_alloc_new w #[.int .i64 0, .int .i64 0] 27 2 (by decide)
      rw [HW3.out, HW1.out]
      exact ((((Keep.refl (fun _ => False) _).alloc _).alloc _).there h2 (fun h => h))
    · rintro (h | h | ⟨a, ha, h⟩)
      · have := HC.out.old _ h; omega
      · simp only at hb'; omega
      · cases ha; simp only at h ha'; omega
    · rintro (h | h | ⟨a, ha, h⟩)
      · have := HC.out.old _ h; omega
      · simp only at hb'; omega
      · cases ha; simp only at h ha'; omega
  have HFIN : Hid (∀ (wz : World) (q' : Nat), Bg wz b (.func (.func k) first cap) (some ⟨ba, oa, none⟩) ca (takeL c hs) m → q' ≤ 2 * D → I (n + q') wz → Keep (MayB' S b (some ⟨ba, oa, none⟩)) w3 wz →
      TakePost c S I (.func (.func k) first cap) b n m D (some ⟨ba, oa, none⟩) ca hs w (.returned (.tuple #[.agg #[.int .i64 x0k, .int .i64 x0n], .bool true]))
        ((wz.setCell ⟨w.heap.size, 0, none⟩ (.int .i64 x0k)).setCell ⟨w.heap.size, 1, none⟩ (.int .i64 x0n))) := fun wz q' hbg hq hi hk => by
    have hz : Keep (fun kk => kk = w.heap.size) wz ((wz.setCell ⟨w.heap.size, 0, none⟩ (.int .i64 x0k)).setCell ⟨w.heap.size, 1, none⟩ (.int .i64 x0n)) := ((Keep.refl (fun kk => kk = w.heap.size) _).setCell (fun _ => rfl) _).setCell (fun _ => rfl) _
    have hz1 := HR.out.2.2.2.2
    have hw3 : w.heap.size ≤ wz.heap.size := Nat.le_trans HK13.out.size hk.size
    refine ⟨?_, hbg.keep hz (fun h => hz1 (.inr (.inl h.symm))) (fun ⟨a, ha, h⟩ => hz1 (.inr (.inr ⟨a, ha, h⟩))), ?_, q', hq, ?_⟩
    · have h0 := HX0'.out
      cases hs with
      | nil => simp at h0
      | cons h0' hr =>
        simp only [List.getElem?_cons_zero, Option.some.injEq] at h0
        subst h0
        exact ⟨_, _, rfl, rfl⟩
    · refine ((HK13.out.mono (fun _ _ h => h.elim)).then_ hk).trans hz (fun kk h1 h2 => by omega)
    · exact HC.out.stable _ _ _ hi (hz.below (Nat.le_trans hB hw3) (fun kk h1 h2 => by omega))
  clear k1 kf hslice hkb hk13
  obtain ⟨wo, rfl⟩ : ∃ wo : World, wo = w6 := ⟨_, rfl⟩
  go_loopw [7] (fun u7 wv => ∃ (i a q : Nat) (hs1 : List (Held Item)), i ≤ L ∧ u7 = .int .i64 (i : Int) ∧ Hid (Bg wv b (.func (.func k) first cap) (some ⟨ba, oa, none⟩) ca hs1 m) ∧ Hid (hs1.length = L) ∧
      Hid (downL c (L - i) hs1 i = takeL c hs) ∧ Hid (I (n + q) wv) ∧ Hid (q ≤ 2 * a ∧ 2 ^ a ≤ i + 1) ∧ Hid (Keep (MayB' S b (some ⟨ba, oa, none⟩)) w3 wv)) (fun u7 _ => L - (intOf u7).toNat)
  case atStart =>
    refine ⟨0, 0, 0, _, Nat.zero_le _, rfl, HB6, ?_, ?_, HI6, ⟨Nat.zero_le _, by decide⟩, HK6⟩
    · unfold Hid; rw [List.length_take, List.length_set, HLL.out]; omega
    · unfold Hid; rw [HTK.out]
  case round =>
    obtain ⟨i, a, q, hs1, hi, rfl, HB7, HL7, HD7, HI7, HQ7, HK7⟩ := hrel
    have hii : (i : Int) ≤ 1000000000 := by omega
    have hi0 : (0 : Int) ≤ (i : Int) := by omega
    have r1 := HK7.out.cell HR.out.1 HR.out.2.2.2.1
    have r2 := HK7.out.cell HR.out.2.1 HR.out.2.2.2.1
    have rth := HK7.out.there HR.out.2.2.1 HR.out.2.2.2.2
    obtain ⟨v0, r3⟩ := Option.isSome_iff_exists.1 (rth 0 (by decide)).1
    obtain ⟨v1, r4⟩ := Option.isSome_iff_exists.1 (rth 1 (by decide)).1
    have r5 := (rth 0 (by decide)).2
    have r6 := (rth 1 (by decide)).2
    simp only [Nat.zero_add] at r3 r4 r5 r6
    clear rth
    by_cases hdn : L ≤ 2 * i + 1
    · have hdnI : (L : Int) ≤ 2 * (i : Int) + 1 := by omega
      go_wp2_with (fail)
      refine bodyPost_ret (v := .tuple #[.agg #[.int .i64 x0k, .int .i64 x0n], .bool true]) ((results_cell_tmp rfl _ _ _).trans ?_) rfl ?_
      · have q1 : ((wr.setCell ⟨w.heap.size, 0, none⟩ (.int .i64 x0k)).setCell ⟨w.heap.size, 1, none⟩ (.int .i64 x0n)).cell? ⟨w.heap.size, 0, none⟩ = some (.int .i64 x0k) := by
          rw [World.cell?_setCell_other _ _ _ _ (by simp), World.cell?_setCell_same _ _ _ r3]
        have q2 : ((wr.setCell ⟨w.heap.size, 0, none⟩ (.int .i64 x0k)).setCell ⟨w.heap.size, 1, none⟩ (.int .i64 x0n)).cell? ⟨w.heap.size, 1, none⟩ = some (.int .i64 x0n) :=
          World.cell?_setCell_same _ _ _ (by rw [World.cell?_setCell_other _ _ _ _ (by simp)]; exact r4)
        generalize ((wr.setCell ⟨w.heap.size, 0, none⟩ (.int .i64 x0k)).setCell ⟨w.heap.size, 1, none⟩ (.int .i64 x0n)) = wq at q1 q2 ⊢
        clear r1 r2 r3 r4 r5 r6
        go_simp
      · refine HFIN.out wr q ?_ ?_ HI7.out HK7.out
        · have h1 := HD7.out
          rw [downL_none (by rw [HL7.out]; omega)] at h1
          rw [← h1]; exact HB7.out
        · have h1 := HQ7.out
          have h2 : 2 ^ a ≤ 2 ^ D := Nat.le_trans h1.2 (Nat.le_trans (Nat.succ_le_succ hi) (by have h3 := HL.out.2; rw [HLL.out] at h3; exact h3))
          have h3 := (Nat.pow_le_pow_iff_right (by decide : 1 < 2)).1 h2
          omega
    · obtain ⟨d, hd⟩ : ∃ d : Nat, d = 2 * i + 1 := ⟨_, rfl⟩
      have hdi : 2 * (i : Int) + 1 = (d : Int) := by omega
      have hd1 : (d : Int) < (L : Int) := by omega
      have hdle : ¬ ((L : Int) ≤ (d : Int)) := by omega
      have hd0 : (0 : Int) ≤ (d : Int) := by omega
      have hdm : (d : Int) ≤ 1000000000 := by omega
      have hm1 := HB7.out.heap
      rw [HL7.out] at hm1
      by_cases hrt : d + 1 < L
      · have hrtI : (d : Int) + 1 < (L : Int) := by omega
        have hwr2 : IntKind.i64.wrap ((d : Int) + 1) = (d : Int) + 1 := IntWalk.i64_in _ (by omega)
        have hd2 : (0 : Int) ≤ (d : Int) + 1 := by omega
        have gk1 : d + 1 < hs1.length := by rw [HL7.out]; omega
        have gk0 : d < hs1.length := by rw [HL7.out]; omega
        obtain ⟨ba1, oa1, e1, hpx⟩ := HB7.out.ow.sl.elem gk1
        simp only [Option.some.injEq, Addr.mk.injEq, and_true] at e1
        obtain ⟨rfl, rfl⟩ := e1
        obtain ⟨ba1, oa1, e1, hpy⟩ := HB7.out.ow.sl.elem gk0
        simp only [Option.some.injEq, Addr.mk.injEq, and_true] at e1
        obtain ⟨rfl, rfl⟩ := e1
        obtain ⟨fx, HFX⟩ : ∃ ex, Hid (hs1[d + 1] = ex) := ⟨_, Lib.hid rfl⟩
        obtain ⟨fy, HFY⟩ : ∃ ey, Hid (hs1[d] = ey) := ⟨_, Lib.hid rfl⟩
        rw [HFX.out] at hpx
        rw [HFY.out] at hpy
        have HFX' : Hid (hs1[d + 1]? = some fx) := by unfold Hid; rw [List.getElem?_eq_getElem gk1, HFX.out]
        have HFY' : Hid (hs1[d]? = some fy) := by unfold Hid; rw [List.getElem?_eq_getElem gk0, HFY.out]
        obtain ⟨⟨fxk, fxn⟩, fxo⟩ := fx
        obtain ⟨⟨fyk, fyn⟩, fyo⟩ := fy
        have hx0 := hpx 0 _ rfl
        have hx1 := hpx 1 _ rfl
        have hx2 := hpx 2 _ rfl
        have hy0 := hpy 0 _ rfl
        have hy1 := hpy 1 _ rfl
        have hy2 := hpy 2 _ rfl
        simp only [EHI, Nat.add_zero] at hx0 hx1 hx2 hy0 hy1 hy2
        have HCALL0 := Lib.hid (ahead_ok HC.out b (n + q) ((fxk, fxn), fxo) ((fyk, fyn), fyo) wr.drew (Nat.le_trans hB (Nat.le_trans HK13.out.size HK7.out.size)) HB7.out.cmp (HC.out.stable _ _ wr.drew HI7.out (Below.drew (Below.refl _ _))))
        have HDC := Lib.hid hd
        clear hd hpx hpy HFX HFY gk0 gk1
        go_wp2_with (fail)
        refine wp_region_midW 21 _ rfl (by kernel_rfl) (by kernel_rfl) ?_
        simp only [List.take_succ_cons, List.take_zero]
        repeat still_step
        refine wpStill_nil ?_
        refine ⟨by rfl, fun K hK => ?_⟩
        go_simp
        refine HCALL0.out.mono ?_
        rintro e w5' ⟨rfl, hI5, hk5⟩
        refine hK _ _ ?_
        clear hK K
        simp only [List.drop_succ_cons, List.drop_zero]
        have hSb : ¬ S b := fun h => by have := HC.out.old _ h; have := HS.out.1; omega
        have hSa : ¬ S ba := fun h => by have h1 := HC.out.old _ h; have h2 := HS.out.2 _ rfl; simp only at h2; omega
        have HBQ : Hid (Bg w5' b (.func (.func k) first cap) (some ⟨ba, oa, none⟩) ca hs1 m) := HB7.out.keep hk5.of_drew hSb (fun ⟨a, ha, h⟩ => by cases ha; exact hSa h)
        have HKQ : Hid (Keep (MayB' S b (some ⟨ba, oa, none⟩)) w3 w5') := HK7.out.then_ (hk5.of_drew.mono (fun _ _ h => .inl h))
        have HIQ : Hid (I (n + (q + 1)) w5') := hI5
        clear hI5 hk5 hx0 hx1 hx2 hy0 hy1 hy2
        cases hkid : aheadB c ((fxk, fxn), fxo) ((fyk, fyn), fyo)
        · refine Veil.out ?_
          repeat (refine veil_step (fun K hK => ?_); go_simp; refine hK _ ?_; clear hK K)
          refine ⟨wpStill_nil ?_⟩
          go_wp2_with (fail)
          have gk : d < hs1.length := by rw [HL7.out]; omega
          have gi : i < hs1.length := by rw [HL7.out]; omega
          obtain ⟨ba1, oa1, e1, hpx⟩ := HBQ.out.ow.sl.elem gk
          simp only [Option.some.injEq, Addr.mk.injEq, and_true] at e1
          obtain ⟨rfl, rfl⟩ := e1
          obtain ⟨ba1, oa1, e1, hpy⟩ := HBQ.out.ow.sl.elem gi
          simp only [Option.some.injEq, Addr.mk.injEq, and_true] at e1
          obtain ⟨rfl, rfl⟩ := e1
          obtain ⟨ex, HEX⟩ : ∃ ex, Hid (hs1[d] = ex) := ⟨_, Lib.hid rfl⟩
          obtain ⟨ey, HEY⟩ : ∃ ey, Hid (hs1[i] = ey) := ⟨_, Lib.hid rfl⟩
          rw [HEX.out] at hpx
          rw [HEY.out] at hpy
          have HEX' : Hid (hs1[d]? = some ex) := by unfold Hid; rw [List.getElem?_eq_getElem gk, HEX.out]
          have HEY' : Hid (hs1[i]? = some ey) := by unfold Hid; rw [List.getElem?_eq_getElem gi, HEY.out]
          obtain ⟨⟨exk, exn⟩, exo⟩ := ex
          obtain ⟨⟨eyk, eyn⟩, eyo⟩ := ey
          have hx0 := hpx 0 _ rfl
          have hx1 := hpx 1 _ rfl
          have hx2 := hpx 2 _ rfl
          have hy0 := hpy 0 _ rfl
          have hy1 := hpy 1 _ rfl
          have hy2 := hpy 2 _ rfl
          simp only [EHI, Nat.add_zero] at hx0 hx1 hx2 hy0 hy1 hy2
          have hqh := HBQ.out.heap
          rw [HL7.out] at hqh
          have hiL : (i : Int) < (L : Int) := by omega
          have HCALL := Lib.hid (ahead_ok HC.out b (n + (q + 1)) ((exk, exn), exo) ((eyk, eyn), eyo) w5'.drew (Nat.le_trans hB (Nat.le_trans HK13.out.size HKQ.out.size)) HBQ.out.cmp (HC.out.stable _ _ w5'.drew HIQ.out (Below.drew (Below.refl _ _))))
          clear hpx hpy HEX HEY gk gi
          refine wp_region_mid 15 _ rfl rfl (by kernel_rfl) (by kernel_rfl) ?_
          simp only [List.take_succ_cons, List.take_zero]
          repeat still_step
          refine wpStill_nil ?_
          intro K hK
          go_simp
          refine HCALL.out.mono ?_
          rintro e w7 ⟨rfl, hI8, hk8⟩
          refine hK _ _ ?_
          clear hK K
          simp only [List.drop_succ_cons, List.drop_zero]
          have hSb : ¬ S b := fun h => by have := HC.out.old _ h; have := HS.out.1; omega
          have hSa : ¬ S ba := fun h => by have h1 := HC.out.old _ h; have h2 := HS.out.2 _ rfl; simp only at h2; omega
          have HB8 : Hid (Bg w7 b (.func (.func k) first cap) (some ⟨ba, oa, none⟩) ca hs1 m) := HBQ.out.keep hk8.of_drew hSb (fun ⟨a, ha, h⟩ => by cases ha; exact hSa h)
          have HK8 : Hid (Keep (MayB' S b (some ⟨ba, oa, none⟩)) w3 w7) := HKQ.out.then_ (hk8.of_drew.mono (fun _ _ h => .inl h))
          have HQ8 : Hid (q + (2) ≤ 2 * (a + 1) ∧ 2 ^ (a + 1) ≤ d + 1 ∧ a + 1 ≤ D) := by
            have h1 := HQ7.out
            have h0 : 2 ^ (a + 1) ≤ d + 1 := by rw [Nat.pow_succ]; omega
            have h2 : 2 ^ (a + 1) ≤ 2 ^ D := Nat.le_trans h0 (by have h3 := HL.out.2; rw [HLL.out] at h3; omega)
            exact ⟨by omega, h0, (Nat.pow_le_pow_iff_right (by decide : 1 < 2)).1 h2⟩
          cases hab : aheadB c ((exk, exn), exo) ((eyk, eyn), eyo)
          · have r1 := HK8.out.cell HR.out.1 HR.out.2.2.2.1
            have r2 := HK8.out.cell HR.out.2.1 HR.out.2.2.2.1
            have rth := HK8.out.there HR.out.2.2.1 HR.out.2.2.2.2
            obtain ⟨v0, r3⟩ := Option.isSome_iff_exists.1 (rth 0 (by decide)).1
            obtain ⟨v1, r4⟩ := Option.isSome_iff_exists.1 (rth 1 (by decide)).1
            have r5 := (rth 0 (by decide)).2
            have r6 := (rth 1 (by decide)).2
            simp only [Nat.zero_add] at r3 r4 r5 r6
            clear rth
            refine Veil.out ?_
            repeat (refine veil_step (fun K hK => ?_); go_simp; refine hK _ ?_; clear hK K)
            refine ⟨wpStill_nil ?_⟩
            go_wp2_with (fail)
            refine bodyPost_ret (v := .tuple #[.agg #[.int .i64 x0k, .int .i64 x0n], .bool true]) ((results_cell_tmp rfl _ _ _).trans ?_) rfl ?_
            · have q1 : ((w7.setCell ⟨w.heap.size, 0, none⟩ (.int .i64 x0k)).setCell ⟨w.heap.size, 1, none⟩ (.int .i64 x0n)).cell? ⟨w.heap.size, 0, none⟩ = some (.int .i64 x0k) := by
                rw [World.cell?_setCell_other _ _ _ _ (by simp), World.cell?_setCell_same _ _ _ r3]
              have q2 : ((w7.setCell ⟨w.heap.size, 0, none⟩ (.int .i64 x0k)).setCell ⟨w.heap.size, 1, none⟩ (.int .i64 x0n)).cell? ⟨w.heap.size, 1, none⟩ = some (.int .i64 x0n) :=
                World.cell?_setCell_same _ _ _ (by rw [World.cell?_setCell_other _ _ _ _ (by simp)]; exact r4)
              generalize ((w7.setCell ⟨w.heap.size, 0, none⟩ (.int .i64 x0k)).setCell ⟨w.heap.size, 1, none⟩ (.int .i64 x0n)) = wq at q1 q2 ⊢
              clear r1 r2 r3 r4 r5 r6
              go_simp
            · refine HFIN.out w7 (q + (2)) ?_ ?_ hI8 HK8.out
              · have h1 := HD7.out
                rw [downL_stay (by rw [kid_two (x := ((fxk, fxn), fxo)) (y := ((fyk, fyn), fyo)) (by rw [show 2 * i + 2 = d + 1 by have := HDC.out; omega]; exact HFX'.out) (by rw [show 2 * i + 1 = d by have := HDC.out; omega]; exact HFY'.out), hkid]; have := HDC.out; simp; omega) HEX'.out HEY'.out hab] at h1
                rw [← h1]; exact HB8.out
              · have h1 := HQ8.out; omega
          · refine Veil.out ?_
            repeat (refine veil_step (fun K hK => ?_); go_simp; refine hK _ ?_; clear hK K)
            refine ⟨wpStill_nil ?_⟩
            have k5h := HB8.out.heap
            rw [HL7.out] at k5h
            have kx0 := hk8.of_drew.cell hx0 hSa
            have kx1 := hk8.of_drew.cell hx1 hSa
            have kx2 := hk8.of_drew.cell hx2 hSa
            have ky0 := hk8.of_drew.cell hy0 hSa
            have ky1 := hk8.of_drew.cell hy1 hSa
            have ky2 := hk8.of_drew.cell hy2 hSa
            clear hx0 hx1 hx2 hy0 hy1 hy2 hk8 hqh r1 r2 r3 r4 r5 r6 hm1
            go_wp2_with (fail)
            refine wp_region_grow1 9 _ rfl (.int .i64 (d : Int)) [(true, 0), (true, 1), (true, 2), (true, 3), (true, 4), (true, 5), (true, 6), (true, 7), (true, 8), (true, 10), (true, 11), (true, 12), (true, 13), (true, 14), (true, 15), (true, 16), (true, 17), (true, 18), (true, 19), (true, 20), (true, 21), (true, 22), (true, 23)] 24 #[true, true, true, true, true, true, true, true, true, true, true, true, true, true, true, true, true, true, true, true, true, true, true, true, false, false, false, false]
              (fun w' => w' = w7.drew) (by kernel_rfl) (by kernel_rfl) (by kernel_rfl) (by rfl) (fun _ _ _ _ _ h => h) (by rfl) (fun w' => by go_simp) rfl ?_
            simp only [List.take_succ_cons, List.take_zero, List.drop_succ_cons, List.drop_zero, Nat.reduceAdd, Nat.reduceSub, List.cons_append, List.nil_append, List.map_cons, List.map_nil, Act.put, List.setIfInBounds_toArray]
            repeat
              (refine veilG_take ?_ (by rfl) ?_ ?_
               rotate_left
               · intro w' hS; subst hS; go_simp; try (with_reducible rfl)
               simp only [Act.put])
            refine veilG_nil ?_
            refine wpAny_forced (n := 24) (by kernel_rfl) ?_
            simp only [List.drop_succ_cons, List.drop_zero]
            obtain ⟨ba1, oa1, e1, hth⟩ := HB8.out.ow.room (by omega)
            simp only [Option.some.injEq, Addr.mk.injEq, and_true] at e1
            obtain ⟨rfl, rfl⟩ := e1
            have ht1 : w7.drew.there ba (oa + i * 3) 3 := there_sub (Keep.there ((Keep.refl (fun _ => False) _).drew) hth (fun h => h)) (by omega) (by simp only [EHI]; omega)
            have ht2 : (w7.drew.setCells ba (oa + i * 3) [.int .i64 exk, .int .i64 exn, .int .i64 exo]).there ba (oa + (d) * 3) 3 :=
              World.there_setCells (there_sub (Keep.there ((Keep.refl (fun _ => False) _).drew) hth (fun h => h)) (by omega) (by simp only [EHI]; omega)) _ _ _
            (refine wpList_step (fun K hK => ?_); go_simp; refine hK _ _ ?_; clear hK K)
            refine wpList_store_mid rfl 114 _ _ rfl ba (oa + i * 3) #[.int .i64 exk, .int .i64 exn, .int .i64 exo] rfl rfl ht1 (by kernel_rfl) (all_oneCell_toArray (EHI.one ((exk, exn), exo))) ?_
            simp only [Act.put]
            (refine wpList_step (fun K hK => ?_); go_simp; refine hK _ _ ?_; clear hK K)
            refine wpList_store_mid rfl 114 _ _ rfl ba (oa + (d) * 3) #[.int .i64 eyk, .int .i64 eyn, .int .i64 eyo] rfl rfl ht2 (by kernel_rfl) (all_oneCell_toArray (EHI.one ((eyk, eyn), eyo))) ?_
            simp only [Act.put]
            have HB9 := Lib.hid (Bg.put (i := d) (Bg.put (i := i) (HB8.out.keep (Keep.drew (Keep.refl (fun _ => False) _)) (fun h => h) (fun ⟨_, _, h⟩ => h)) (by rw [HL7.out]; omega) ((exk, exn), exo)) (by rw [List.length_set, HL7.out]; omega) ((eyk, eyn), eyo))
            have HK9 : Hid (Keep (fun kk => kk = ba) w7 ((w7.drew.setCells ba (oa + i * 3) [.int .i64 exk, .int .i64 exn, .int .i64 exo]).setCells ba (oa + (d) * 3) [.int .i64 eyk, .int .i64 eyn, .int .i64 eyo])) :=
              Keep.setCells _ _ (Keep.setCells _ _ ((Keep.refl _ w7).drew) (fun _ => rfl)) (fun _ => rfl)
            obtain ⟨w8, HW8⟩ : ∃ w8, Hid (w8 = ((w7.drew.setCells ba (oa + i * 3) [.int .i64 exk, .int .i64 exn, .int .i64 exo]).setCells ba (oa + (d) * 3) [.int .i64 eyk, .int .i64 eyn, .int .i64 eyo])) := ⟨_, Lib.hid rfl⟩
            rw [← HW8.out] at HK9
            have HBX : Hid (Bg w8 b (.func (.func k) first cap) (some ⟨ba, oa, none⟩) ca ((hs1.set i ((exk, exn), exo)).set (d) ((eyk, eyn), eyo)) m) := by rw [HW8.out]; exact HB9
            clear HB9 ht1 ht2 hth k5h kx0 kx1 kx2 ky0 ky1 ky2
            refine wpList_nil ?_
            rw [show ((w7.drew.setCells ba (oa + i * 3) (#[Value.int .i64 exk, .int .i64 exn, .int .i64 exo] : Array Value).toList).setCells ba (oa + (d) * 3) (#[Value.int .i64 eyk, .int .i64 eyn, .int .i64 eyo] : Array Value).toList) = w8 from HW8.out.symm]
            go_wp2
            go_roundw
            case rel =>
              refine ⟨d, a + 1, q + (2), _, by omega, by first | rfl | go_num, HBX, ?_, ?_, ?_, ⟨HQ8.out.1, HQ8.out.2.1⟩, ?_⟩
              · unfold Hid; simp [HL7.out]
              · unfold Hid
                rw [← HD7.out]
                have h1 := downL_go (hs := hs1) (by rw [kid_two (x := ((fxk, fxn), fxo)) (y := ((fyk, fyn), fyo)) (by rw [show 2 * i + 2 = d + 1 by have := HDC.out; omega]; exact HFX'.out) (by rw [show 2 * i + 1 = d by have := HDC.out; omega]; exact HFY'.out), hkid]; have := HDC.out; simp; omega) HEX'.out HEY'.out hab
                rw [HL7.out] at h1
                exact h1.symm
              · refine HC.out.stable _ _ _ hI8 (HK9.out.below (Nat.le_trans hB (Nat.le_trans HK13.out.size HK8.out.size)) (fun kk h1 h2 => ?_))
                have := HS.out.2 _ rfl; simp only at this; omega
              · exact HK8.out.then_ (HK9.out.mono (fun _ _ h => .inr (.inr ⟨_, rfl, h.symm⟩)))
            case measure => simp [intOf]; omega
        · refine Veil.out ?_
          repeat (refine veil_step (fun K hK => ?_); go_simp; refine hK _ ?_; clear hK K)
          refine ⟨wpStill_nil ?_⟩
          go_wp2_with (fail)
          have gk : d + 1 < hs1.length := by rw [HL7.out]; omega
          have gi : i < hs1.length := by rw [HL7.out]; omega
          obtain ⟨ba1, oa1, e1, hpx⟩ := HBQ.out.ow.sl.elem gk
          simp only [Option.some.injEq, Addr.mk.injEq, and_true] at e1
          obtain ⟨rfl, rfl⟩ := e1
          obtain ⟨ba1, oa1, e1, hpy⟩ := HBQ.out.ow.sl.elem gi
          simp only [Option.some.injEq, Addr.mk.injEq, and_true] at e1
          obtain ⟨rfl, rfl⟩ := e1
          obtain ⟨ex, HEX⟩ : ∃ ex, Hid (hs1[d + 1] = ex) := ⟨_, Lib.hid rfl⟩
          obtain ⟨ey, HEY⟩ : ∃ ey, Hid (hs1[i] = ey) := ⟨_, Lib.hid rfl⟩
          rw [HEX.out] at hpx
          rw [HEY.out] at hpy
          have HEX' : Hid (hs1[d + 1]? = some ex) := by unfold Hid; rw [List.getElem?_eq_getElem gk, HEX.out]
          have HEY' : Hid (hs1[i]? = some ey) := by unfold Hid; rw [List.getElem?_eq_getElem gi, HEY.out]
          obtain ⟨⟨exk, exn⟩, exo⟩ := ex
          obtain ⟨⟨eyk, eyn⟩, eyo⟩ := ey
          have hx0 := hpx 0 _ rfl
          have hx1 := hpx 1 _ rfl
          have hx2 := hpx 2 _ rfl
          have hy0 := hpy 0 _ rfl
          have hy1 := hpy 1 _ rfl
          have hy2 := hpy 2 _ rfl
          simp only [EHI, Nat.add_zero] at hx0 hx1 hx2 hy0 hy1 hy2
          have hqh := HBQ.out.heap
          rw [HL7.out] at hqh
          have hiL : (i : Int) < (L : Int) := by omega
          have HCALL := Lib.hid (ahead_ok HC.out b (n + (q + 1)) ((exk, exn), exo) ((eyk, eyn), eyo) w5'.drew (Nat.le_trans hB (Nat.le_trans HK13.out.size HKQ.out.size)) HBQ.out.cmp (HC.out.stable _ _ w5'.drew HIQ.out (Below.drew (Below.refl _ _))))
          clear hpx hpy HEX HEY gk gi
          refine wp_region_mid 15 _ rfl rfl (by kernel_rfl) (by kernel_rfl) ?_
          simp only [List.take_succ_cons, List.take_zero]
          repeat still_step
          refine wpStill_nil ?_
          intro K hK
          go_simp
          refine HCALL.out.mono ?_
          rintro e w7 ⟨rfl, hI8, hk8⟩
          refine hK _ _ ?_
          clear hK K
          simp only [List.drop_succ_cons, List.drop_zero]
          have hSb : ¬ S b := fun h => by have := HC.out.old _ h; have := HS.out.1; omega
          have hSa : ¬ S ba := fun h => by have h1 := HC.out.old _ h; have h2 := HS.out.2 _ rfl; simp only at h2; omega
          have HB8 : Hid (Bg w7 b (.func (.func k) first cap) (some ⟨ba, oa, none⟩) ca hs1 m) := HBQ.out.keep hk8.of_drew hSb (fun ⟨a, ha, h⟩ => by cases ha; exact hSa h)
          have HK8 : Hid (Keep (MayB' S b (some ⟨ba, oa, none⟩)) w3 w7) := HKQ.out.then_ (hk8.of_drew.mono (fun _ _ h => .inl h))
          have HQ8 : Hid (q + (2) ≤ 2 * (a + 1) ∧ 2 ^ (a + 1) ≤ d + 1 + 1 ∧ a + 1 ≤ D) := by
            have h1 := HQ7.out
            have h0 : 2 ^ (a + 1) ≤ d + 1 + 1 := by rw [Nat.pow_succ]; omega
            have h2 : 2 ^ (a + 1) ≤ 2 ^ D := Nat.le_trans h0 (by have h3 := HL.out.2; rw [HLL.out] at h3; omega)
            exact ⟨by omega, h0, (Nat.pow_le_pow_iff_right (by decide : 1 < 2)).1 h2⟩
          cases hab : aheadB c ((exk, exn), exo) ((eyk, eyn), eyo)
          · have r1 := HK8.out.cell HR.out.1 HR.out.2.2.2.1
            have r2 := HK8.out.cell HR.out.2.1 HR.out.2.2.2.1
            have rth := HK8.out.there HR.out.2.2.1 HR.out.2.2.2.2
            obtain ⟨v0, r3⟩ := Option.isSome_iff_exists.1 (rth 0 (by decide)).1
            obtain ⟨v1, r4⟩ := Option.isSome_iff_exists.1 (rth 1 (by decide)).1
            have r5 := (rth 0 (by decide)).2
            have r6 := (rth 1 (by decide)).2
            simp only [Nat.zero_add] at r3 r4 r5 r6
            clear rth
            refine Veil.out ?_
            repeat (refine veil_step (fun K hK => ?_); go_simp; refine hK _ ?_; clear hK K)
            refine ⟨wpStill_nil ?_⟩
            go_wp2_with (fail)
            refine bodyPost_ret (v := .tuple #[.agg #[.int .i64 x0k, .int .i64 x0n], .bool true]) ((results_cell_tmp rfl _ _ _).trans ?_) rfl ?_
            · have q1 : ((w7.setCell ⟨w.heap.size, 0, none⟩ (.int .i64 x0k)).setCell ⟨w.heap.size, 1, none⟩ (.int .i64 x0n)).cell? ⟨w.heap.size, 0, none⟩ = some (.int .i64 x0k) := by
                rw [World.cell?_setCell_other _ _ _ _ (by simp), World.cell?_setCell_same _ _ _ r3]
              have q2 : ((w7.setCell ⟨w.heap.size, 0, none⟩ (.int .i64 x0k)).setCell ⟨w.heap.size, 1, none⟩ (.int .i64 x0n)).cell? ⟨w.heap.size, 1, none⟩ = some (.int .i64 x0n) :=
                World.cell?_setCell_same _ _ _ (by rw [World.cell?_setCell_other _ _ _ _ (by simp)]; exact r4)
              generalize ((w7.setCell ⟨w.heap.size, 0, none⟩ (.int .i64 x0k)).setCell ⟨w.heap.size, 1, none⟩ (.int .i64 x0n)) = wq at q1 q2 ⊢
              clear r1 r2 r3 r4 r5 r6
              go_simp
            · refine HFIN.out w7 (q + (2)) ?_ ?_ hI8 HK8.out
              · have h1 := HD7.out
                rw [downL_stay (by rw [kid_two (x := ((fxk, fxn), fxo)) (y := ((fyk, fyn), fyo)) (by rw [show 2 * i + 2 = d + 1 by have := HDC.out; omega]; exact HFX'.out) (by rw [show 2 * i + 1 = d by have := HDC.out; omega]; exact HFY'.out), hkid]; have := HDC.out; simp; omega) HEX'.out HEY'.out hab] at h1
                rw [← h1]; exact HB8.out
              · have h1 := HQ8.out; omega
          · refine Veil.out ?_
            repeat (refine veil_step (fun K hK => ?_); go_simp; refine hK _ ?_; clear hK K)
            refine ⟨wpStill_nil ?_⟩
            have k5h := HB8.out.heap
            rw [HL7.out] at k5h
            have kx0 := hk8.of_drew.cell hx0 hSa
            have kx1 := hk8.of_drew.cell hx1 hSa
            have kx2 := hk8.of_drew.cell hx2 hSa
            have ky0 := hk8.of_drew.cell hy0 hSa
            have ky1 := hk8.of_drew.cell hy1 hSa
            have ky2 := hk8.of_drew.cell hy2 hSa
            clear hx0 hx1 hx2 hy0 hy1 hy2 hk8 hqh r1 r2 r3 r4 r5 r6 hm1
            go_wp2_with (fail)
            refine wp_region_grow1 9 _ rfl (.int .i64 ((d : Int) + 1)) [(true, 0), (true, 1), (true, 2), (true, 3), (true, 4), (true, 5), (true, 6), (true, 7), (true, 8), (true, 10), (true, 11), (true, 12), (true, 13), (true, 14), (true, 15), (true, 16), (true, 17), (true, 18), (true, 19), (true, 20), (true, 21), (true, 22), (true, 23)] 24 #[true, true, true, true, true, true, true, true, true, true, true, true, true, true, true, true, true, true, true, true, true, true, true, true, false, false, false, false]
              (fun w' => w' = w7.drew) (by kernel_rfl) (by kernel_rfl) (by kernel_rfl) (by rfl) (fun _ _ _ _ _ h => h) (by rfl) (fun w' => by go_simp) rfl ?_
            simp only [List.take_succ_cons, List.take_zero, List.drop_succ_cons, List.drop_zero, Nat.reduceAdd, Nat.reduceSub, List.cons_append, List.nil_append, List.map_cons, List.map_nil, Act.put, List.setIfInBounds_toArray]
            repeat
              (refine veilG_take ?_ (by rfl) ?_ ?_
               rotate_left
               · intro w' hS; subst hS; go_simp; try (with_reducible rfl)
               simp only [Act.put])
            refine veilG_nil ?_
            refine wpAny_forced (n := 24) (by kernel_rfl) ?_
            simp only [List.drop_succ_cons, List.drop_zero]
            obtain ⟨ba1, oa1, e1, hth⟩ := HB8.out.ow.room (by omega)
            simp only [Option.some.injEq, Addr.mk.injEq, and_true] at e1
            obtain ⟨rfl, rfl⟩ := e1
            have ht1 : w7.drew.there ba (oa + i * 3) 3 := there_sub (Keep.there ((Keep.refl (fun _ => False) _).drew) hth (fun h => h)) (by omega) (by simp only [EHI]; omega)
            have ht2 : (w7.drew.setCells ba (oa + i * 3) [.int .i64 exk, .int .i64 exn, .int .i64 exo]).there ba (oa + (d + 1) * 3) 3 :=
              World.there_setCells (there_sub (Keep.there ((Keep.refl (fun _ => False) _).drew) hth (fun h => h)) (by omega) (by simp only [EHI]; omega)) _ _ _
            (refine wpList_step (fun K hK => ?_); go_simp; refine hK _ _ ?_; clear hK K)
            refine wpList_store_mid rfl 114 _ _ rfl ba (oa + i * 3) #[.int .i64 exk, .int .i64 exn, .int .i64 exo] rfl rfl ht1 (by kernel_rfl) (all_oneCell_toArray (EHI.one ((exk, exn), exo))) ?_
            simp only [Act.put]
            (refine wpList_step (fun K hK => ?_); go_simp; refine hK _ _ ?_; clear hK K)
            refine wpList_store_mid rfl 114 _ _ rfl ba (oa + (d + 1) * 3) #[.int .i64 eyk, .int .i64 eyn, .int .i64 eyo] rfl rfl ht2 (by kernel_rfl) (all_oneCell_toArray (EHI.one ((eyk, eyn), eyo))) ?_
            simp only [Act.put]
            have HB9 := Lib.hid (Bg.put (i := d + 1) (Bg.put (i := i) (HB8.out.keep (Keep.drew (Keep.refl (fun _ => False) _)) (fun h => h) (fun ⟨_, _, h⟩ => h)) (by rw [HL7.out]; omega) ((exk, exn), exo)) (by rw [List.length_set, HL7.out]; omega) ((eyk, eyn), eyo))
            have HK9 : Hid (Keep (fun kk => kk = ba) w7 ((w7.drew.setCells ba (oa + i * 3) [.int .i64 exk, .int .i64 exn, .int .i64 exo]).setCells ba (oa + (d + 1) * 3) [.int .i64 eyk, .int .i64 eyn, .int .i64 eyo])) :=
              Keep.setCells _ _ (Keep.setCells _ _ ((Keep.refl _ w7).drew) (fun _ => rfl)) (fun _ => rfl)
            obtain ⟨w8, HW8⟩ : ∃ w8, Hid (w8 = ((w7.drew.setCells ba (oa + i * 3) [.int .i64 exk, .int .i64 exn, .int .i64 exo]).setCells ba (oa + (d + 1) * 3) [.int .i64 eyk, .int .i64 eyn, .int .i64 eyo])) := ⟨_, Lib.hid rfl⟩
            rw [← HW8.out] at HK9
            have HBX : Hid (Bg w8 b (.func (.func k) first cap) (some ⟨ba, oa, none⟩) ca ((hs1.set i ((exk, exn), exo)).set (d + 1) ((eyk, eyn), eyo)) m) := by rw [HW8.out]; exact HB9
            clear HB9 ht1 ht2 hth k5h kx0 kx1 kx2 ky0 ky1 ky2
            refine wpList_nil ?_
            rw [show ((w7.drew.setCells ba (oa + i * 3) (#[Value.int .i64 exk, .int .i64 exn, .int .i64 exo] : Array Value).toList).setCells ba (oa + (d + 1) * 3) (#[Value.int .i64 eyk, .int .i64 eyn, .int .i64 eyo] : Array Value).toList) = w8 from HW8.out.symm]
            go_wp2
            go_roundw
            case rel =>
              refine ⟨d + 1, a + 1, q + (2), _, by omega, by first | rfl | go_num, HBX, ?_, ?_, ?_, ⟨HQ8.out.1, HQ8.out.2.1⟩, ?_⟩
              · unfold Hid; simp [HL7.out]
              · unfold Hid
                rw [← HD7.out]
                have h1 := downL_go (hs := hs1) (by rw [kid_two (x := ((fxk, fxn), fxo)) (y := ((fyk, fyn), fyo)) (by rw [show 2 * i + 2 = d + 1 by have := HDC.out; omega]; exact HFX'.out) (by rw [show 2 * i + 1 = d by have := HDC.out; omega]; exact HFY'.out), hkid]; have := HDC.out; simp; omega) HEX'.out HEY'.out hab
                rw [HL7.out] at h1
                exact h1.symm
              · refine HC.out.stable _ _ _ hI8 (HK9.out.below (Nat.le_trans hB (Nat.le_trans HK13.out.size HK8.out.size)) (fun kk h1 h2 => ?_))
                have := HS.out.2 _ rfl; simp only at this; omega
              · exact HK8.out.then_ (HK9.out.mono (fun _ _ h => .inr (.inr ⟨_, rfl, h.symm⟩)))
            case measure => simp [intOf]; omega
      · have hrtI : decide ((d : Int) + 1 < (L : Int)) = false := decide_eq_false (by omega)
        have hwr2 : IntKind.i64.wrap ((d : Int) + 1) = (d : Int) + 1 := IntWalk.i64_in _ (by omega)
        have HDC := Lib.hid hd
        clear hd
        go_wp2_with (fail)
        refine wp_region_still_lit (by kernel_rfl) (by kernel_rfl) ?_
        refine Veil.out ?_
        repeat (refine veil_step (fun K hK => ?_); go_simp; refine hK _ ?_; clear hK K)
        refine ⟨wpStill_nil ?_⟩
        go_wp2_with (fail)
        generalize hWQ : ({ wr with drawn := wr.drawn + 1 } : World) = wq
        have hkq : Keep (fun _ => False) wr wq := by rw [← hWQ]; exact (Keep.refl _ wr).drew
        clear hWQ
        have HBQ := Lib.hid (HB7.out.keep hkq (fun h => h) (fun ⟨_, _, h⟩ => h))
        have HIQ := Lib.hid (HC.out.stable _ _ wq HI7.out (hkq.below (Nat.le_trans hB (Nat.le_trans HK13.out.size HK7.out.size)) (fun _ _ h => h)))
        have HKQ := Lib.hid (HK7.out.then_ (hkq.mono (fun _ _ h => h.elim)))
        clear hkq
        have gk : d < hs1.length := by rw [HL7.out]; omega
        have gi : i < hs1.length := by rw [HL7.out]; omega
        obtain ⟨ba1, oa1, e1, hpx⟩ := HBQ.out.ow.sl.elem gk
        simp only [Option.some.injEq, Addr.mk.injEq, and_true] at e1
        obtain ⟨rfl, rfl⟩ := e1
        obtain ⟨ba1, oa1, e1, hpy⟩ := HBQ.out.ow.sl.elem gi
        simp only [Option.some.injEq, Addr.mk.injEq, and_true] at e1
        obtain ⟨rfl, rfl⟩ := e1
        obtain ⟨ex, HEX⟩ : ∃ ex, Hid (hs1[d] = ex) := ⟨_, Lib.hid rfl⟩
        obtain ⟨ey, HEY⟩ : ∃ ey, Hid (hs1[i] = ey) := ⟨_, Lib.hid rfl⟩
        rw [HEX.out] at hpx
        rw [HEY.out] at hpy
        have HEX' : Hid (hs1[d]? = some ex) := by unfold Hid; rw [List.getElem?_eq_getElem gk, HEX.out]
        have HEY' : Hid (hs1[i]? = some ey) := by unfold Hid; rw [List.getElem?_eq_getElem gi, HEY.out]
        obtain ⟨⟨exk, exn⟩, exo⟩ := ex
        obtain ⟨⟨eyk, eyn⟩, eyo⟩ := ey
        have hx0 := hpx 0 _ rfl
        have hx1 := hpx 1 _ rfl
        have hx2 := hpx 2 _ rfl
        have hy0 := hpy 0 _ rfl
        have hy1 := hpy 1 _ rfl
        have hy2 := hpy 2 _ rfl
        simp only [EHI, Nat.add_zero] at hx0 hx1 hx2 hy0 hy1 hy2
        have hqh := HBQ.out.heap
        rw [HL7.out] at hqh
        have hiL : (i : Int) < (L : Int) := by omega
        have HCALL := Lib.hid (ahead_ok HC.out b (n + (q)) ((exk, exn), exo) ((eyk, eyn), eyo) wq.drew (Nat.le_trans hB (Nat.le_trans HK13.out.size HKQ.out.size)) HBQ.out.cmp (HC.out.stable _ _ wq.drew HIQ.out (Below.drew (Below.refl _ _))))
        clear hpx hpy HEX HEY gk gi
        refine wp_region_mid 15 _ rfl rfl (by kernel_rfl) (by kernel_rfl) ?_
        simp only [List.take_succ_cons, List.take_zero]
        repeat still_step
        refine wpStill_nil ?_
        intro K hK
        go_simp
        refine HCALL.out.mono ?_
        rintro e w7 ⟨rfl, hI8, hk8⟩
        refine hK _ _ ?_
        clear hK K
        simp only [List.drop_succ_cons, List.drop_zero]
        have hSb : ¬ S b := fun h => by have := HC.out.old _ h; have := HS.out.1; omega
        have hSa : ¬ S ba := fun h => by have h1 := HC.out.old _ h; have h2 := HS.out.2 _ rfl; simp only at h2; omega
        have HB8 : Hid (Bg w7 b (.func (.func k) first cap) (some ⟨ba, oa, none⟩) ca hs1 m) := HBQ.out.keep hk8.of_drew hSb (fun ⟨a, ha, h⟩ => by cases ha; exact hSa h)
        have HK8 : Hid (Keep (MayB' S b (some ⟨ba, oa, none⟩)) w3 w7) := HKQ.out.then_ (hk8.of_drew.mono (fun _ _ h => .inl h))
        have HQ8 : Hid (q + (1) ≤ 2 * (a + 1) ∧ 2 ^ (a + 1) ≤ d + 1 ∧ a + 1 ≤ D) := by
          have h1 := HQ7.out
          have h0 : 2 ^ (a + 1) ≤ d + 1 := by rw [Nat.pow_succ]; omega
          have h2 : 2 ^ (a + 1) ≤ 2 ^ D := Nat.le_trans h0 (by have h3 := HL.out.2; rw [HLL.out] at h3; omega)
          exact ⟨by omega, h0, (Nat.pow_le_pow_iff_right (by decide : 1 < 2)).1 h2⟩
        cases hab : aheadB c ((exk, exn), exo) ((eyk, eyn), eyo)
        · have r1 := HK8.out.cell HR.out.1 HR.out.2.2.2.1
          have r2 := HK8.out.cell HR.out.2.1 HR.out.2.2.2.1
          have rth := HK8.out.there HR.out.2.2.1 HR.out.2.2.2.2
          obtain ⟨v0, r3⟩ := Option.isSome_iff_exists.1 (rth 0 (by decide)).1
          obtain ⟨v1, r4⟩ := Option.isSome_iff_exists.1 (rth 1 (by decide)).1
          have r5 := (rth 0 (by decide)).2
          have r6 := (rth 1 (by decide)).2
          simp only [Nat.zero_add] at r3 r4 r5 r6
          clear rth
          refine Veil.out ?_
          repeat (refine veil_step (fun K hK => ?_); go_simp; refine hK _ ?_; clear hK K)
          refine ⟨wpStill_nil ?_⟩
          go_wp2_with (fail)
          refine bodyPost_ret (v := .tuple #[.agg #[.int .i64 x0k, .int .i64 x0n], .bool true]) ((results_cell_tmp rfl _ _ _).trans ?_) rfl ?_
          · have q1 : ((w7.setCell ⟨w.heap.size, 0, none⟩ (.int .i64 x0k)).setCell ⟨w.heap.size, 1, none⟩ (.int .i64 x0n)).cell? ⟨w.heap.size, 0, none⟩ = some (.int .i64 x0k) := by
              rw [World.cell?_setCell_other _ _ _ _ (by simp), World.cell?_setCell_same _ _ _ r3]
            have q2 : ((w7.setCell ⟨w.heap.size, 0, none⟩ (.int .i64 x0k)).setCell ⟨w.heap.size, 1, none⟩ (.int .i64 x0n)).cell? ⟨w.heap.size, 1, none⟩ = some (.int .i64 x0n) :=
              World.cell?_setCell_same _ _ _ (by rw [World.cell?_setCell_other _ _ _ _ (by simp)]; exact r4)
            generalize ((w7.setCell ⟨w.heap.size, 0, none⟩ (.int .i64 x0k)).setCell ⟨w.heap.size, 1, none⟩ (.int .i64 x0n)) = wq at q1 q2 ⊢
            clear r1 r2 r3 r4 r5 r6
            go_simp
          · refine HFIN.out w7 (q + (1)) ?_ ?_ hI8 HK8.out
            · have h1 := HD7.out
              rw [downL_stay (kid_one (by rw [HL7.out]; have := HDC.out; omega) |>.trans HDC.out.symm) HEX'.out HEY'.out hab] at h1
              rw [← h1]; exact HB8.out
            · have h1 := HQ8.out; omega
        · refine Veil.out ?_
          repeat (refine veil_step (fun K hK => ?_); go_simp; refine hK _ ?_; clear hK K)
          refine ⟨wpStill_nil ?_⟩
          have k5h := HB8.out.heap
          rw [HL7.out] at k5h
          have kx0 := hk8.of_drew.cell hx0 hSa
          have kx1 := hk8.of_drew.cell hx1 hSa
          have kx2 := hk8.of_drew.cell hx2 hSa
          have ky0 := hk8.of_drew.cell hy0 hSa
          have ky1 := hk8.of_drew.cell hy1 hSa
          have ky2 := hk8.of_drew.cell hy2 hSa
          clear hx0 hx1 hx2 hy0 hy1 hy2 hk8 hqh r1 r2 r3 r4 r5 r6 hm1
          go_wp2_with (fail)
          refine wp_region_grow1 9 _ rfl (.int .i64 (d : Int)) [(true, 0), (true, 1), (true, 2), (true, 3), (true, 4), (true, 5), (true, 6), (true, 7), (true, 8), (true, 10), (true, 11), (true, 12), (true, 13), (true, 14), (true, 15), (true, 16), (true, 17), (true, 18), (true, 19), (true, 20), (true, 21), (true, 22), (true, 23)] 24 #[true, true, true, true, true, true, true, true, true, true, true, true, true, true, true, true, true, true, true, true, true, true, true, true, false, false, false, false]
            (fun w' => w' = w7.drew) (by kernel_rfl) (by kernel_rfl) (by kernel_rfl) (by rfl) (fun _ _ _ _ _ h => h) (by rfl) (fun w' => by go_simp) rfl ?_
          simp only [List.take_succ_cons, List.take_zero, List.drop_succ_cons, List.drop_zero, Nat.reduceAdd, Nat.reduceSub, List.cons_append, List.nil_append, List.map_cons, List.map_nil, Act.put, List.setIfInBounds_toArray]
          repeat
            (refine veilG_take ?_ (by rfl) ?_ ?_
             rotate_left
             · intro w' hS; subst hS; go_simp; try (with_reducible rfl)
             simp only [Act.put])
          refine veilG_nil ?_
          refine wpAny_forced (n := 24) (by kernel_rfl) ?_
          simp only [List.drop_succ_cons, List.drop_zero]
          obtain ⟨ba1, oa1, e1, hth⟩ := HB8.out.ow.room (by omega)
          simp only [Option.some.injEq, Addr.mk.injEq, and_true] at e1
          obtain ⟨rfl, rfl⟩ := e1
          have ht1 : w7.drew.there ba (oa + i * 3) 3 := there_sub (Keep.there ((Keep.refl (fun _ => False) _).drew) hth (fun h => h)) (by omega) (by simp only [EHI]; omega)
          have ht2 : (w7.drew.setCells ba (oa + i * 3) [.int .i64 exk, .int .i64 exn, .int .i64 exo]).there ba (oa + (d) * 3) 3 :=
            World.there_setCells (there_sub (Keep.there ((Keep.refl (fun _ => False) _).drew) hth (fun h => h)) (by omega) (by simp only [EHI]; omega)) _ _ _
          (refine wpList_step (fun K hK => ?_); go_simp; refine hK _ _ ?_; clear hK K)
          refine wpList_store_mid rfl 114 _ _ rfl ba (oa + i * 3) #[.int .i64 exk, .int .i64 exn, .int .i64 exo] rfl rfl ht1 (by kernel_rfl) (all_oneCell_toArray (EHI.one ((exk, exn), exo))) ?_
          simp only [Act.put]
          (refine wpList_step (fun K hK => ?_); go_simp; refine hK _ _ ?_; clear hK K)
          refine wpList_store_mid rfl 114 _ _ rfl ba (oa + (d) * 3) #[.int .i64 eyk, .int .i64 eyn, .int .i64 eyo] rfl rfl ht2 (by kernel_rfl) (all_oneCell_toArray (EHI.one ((eyk, eyn), eyo))) ?_
          simp only [Act.put]
          have HB9 := Lib.hid (Bg.put (i := d) (Bg.put (i := i) (HB8.out.keep (Keep.drew (Keep.refl (fun _ => False) _)) (fun h => h) (fun ⟨_, _, h⟩ => h)) (by rw [HL7.out]; omega) ((exk, exn), exo)) (by rw [List.length_set, HL7.out]; omega) ((eyk, eyn), eyo))
          have HK9 : Hid (Keep (fun kk => kk = ba) w7 ((w7.drew.setCells ba (oa + i * 3) [.int .i64 exk, .int .i64 exn, .int .i64 exo]).setCells ba (oa + (d) * 3) [.int .i64 eyk, .int .i64 eyn, .int .i64 eyo])) :=
            Keep.setCells _ _ (Keep.setCells _ _ ((Keep.refl _ w7).drew) (fun _ => rfl)) (fun _ => rfl)
          obtain ⟨w8, HW8⟩ : ∃ w8, Hid (w8 = ((w7.drew.setCells ba (oa + i * 3) [.int .i64 exk, .int .i64 exn, .int .i64 exo]).setCells ba (oa + (d) * 3) [.int .i64 eyk, .int .i64 eyn, .int .i64 eyo])) := ⟨_, Lib.hid rfl⟩
          rw [← HW8.out] at HK9
          have HBX : Hid (Bg w8 b (.func (.func k) first cap) (some ⟨ba, oa, none⟩) ca ((hs1.set i ((exk, exn), exo)).set (d) ((eyk, eyn), eyo)) m) := by rw [HW8.out]; exact HB9
          clear HB9 ht1 ht2 hth k5h kx0 kx1 kx2 ky0 ky1 ky2
          refine wpList_nil ?_
          rw [show ((w7.drew.setCells ba (oa + i * 3) (#[Value.int .i64 exk, .int .i64 exn, .int .i64 exo] : Array Value).toList).setCells ba (oa + (d) * 3) (#[Value.int .i64 eyk, .int .i64 eyn, .int .i64 eyo] : Array Value).toList) = w8 from HW8.out.symm]
          go_wp2
          go_roundw
          case rel =>
            refine ⟨d, a + 1, q + (1), _, by omega, by first | rfl | go_num, HBX, ?_, ?_, ?_, ⟨HQ8.out.1, HQ8.out.2.1⟩, ?_⟩
            · unfold Hid; simp [HL7.out]
            · unfold Hid
              rw [← HD7.out]
              have h1 := downL_go (hs := hs1) (kid_one (by rw [HL7.out]; have := HDC.out; omega) |>.trans HDC.out.symm) HEX'.out HEY'.out hab
              rw [HL7.out] at h1
              exact h1.symm
            · refine HC.out.stable _ _ _ hI8 (HK9.out.below (Nat.le_trans hB (Nat.le_trans HK13.out.size HK8.out.size)) (fun kk h1 h2 => ?_))
              have := HS.out.2 _ rfl; simp only at this; omega
            · exact HK8.out.then_ (HK9.out.mono (fun _ _ h => .inr (.inr ⟨_, rfl, h.symm⟩)))
          case measure => simp [intOf]; omega
end Go.Proofs.Ytnofckgnnpmiiaa
