/- The reference's Unique; the orders and what Merge and Unique make by them. -/
import Derived.Test.YtnofckgnnpmiiaaRq
namespace Go.Proofs.Ytnofckgnnpmiiaa
open Go.RowKit Go.Shelf
attribute [local go_sem ↓] Go.wp_at_zero Go.wp_at_succ

theorem mergeL_by (o : Int) (xs ys : List Item) : mergeL (byC o) xs ys = mergeL (cmpR o) xs ys := by
  fun_induction mergeL (byC o) xs ys with
  | case1 => simp [mergeL]
  | case2 => rw [mergeL_nil]
  | case3 x xs y ys h ih => rw [mergeL_y ((byC_neg o y x).1 h), ih]
  | case4 x xs y ys h ih => rw [mergeL_x (fun h' => h ((byC_neg o y x).2 h')), ih]
theorem staysB_by (o : Int) (xs : List Item) (i : Nat) : staysB (byC o) xs i = staysB (cmpR o) xs i := by
  unfold staysB
  congr 1
  split
  · rename_i y x _ _
    rw [Bool.eq_iff_iff]
    simp only [bne_iff_ne, ne_eq, byC_zero]
  · rfl
theorem uniqTo_by (o : Int) (xs : List Item) : ∀ i, uniqTo (byC o) xs i = uniqTo (cmpR o) xs i
  | 0 => rfl
  | i + 1 => by rw [uniqTo, uniqTo, uniqTo_by o xs i, staysB_by]

set_option maxRecDepth 100000 in
set_option maxHeartbeats 8000000 in
theorem refunique_ok (o : Int) (A : Option Addr) (c L : Nat) (xs : List Item) (w : World) (hL : xs.length = L) (h : Sl EI w A c xs) (hl : L ≤ 1000000000) :
    Calls Try.prog 48 #[.slice A L c, .int .i64 o] w fun e w' => ∃ A' c', e = .returned (.slice A' (uniqTo (cmpR o) xs L).length c') ∧ Gro w w' A' c' (uniqTo (cmpR o) xs L) := by
  have H := Lib.hid h
  have HL := Lib.hid hL
  have hlc := h.le
  rw [hL] at hlc
  have hcc := h.cap
  clear h hL
  go_enter Try.func48, Try.ntmps48
  go_wp2_with (fail)
  go_loopw [5, 6] (fun u5 u6 wr => ∃ (i : Nat) (Aq : Option Addr) (cq : Nat), i ≤ L ∧ u6 = .int .i64 (i : Int) ∧ u5 = .slice Aq (uniqTo (cmpR o) xs i).length cq ∧ Hid (Gro w wr Aq cq (uniqTo (cmpR o) xs i))) (fun _ u6 _ => ((L : Int) - intOf u6).toNat)
  case atStart => exact ⟨0, none, 0, Nat.zero_le _, rfl, rfl, Gro.start w⟩
  case round =>
    obtain ⟨i, Aq, cq, hi, rfl, rfl, HG⟩ := hrel
    have hLb : (L : Int) ≤ 1000000000 := by omega
    by_cases hlt : i < L
    · have hi0 : (0 : Int) ≤ (i : Int) := by omega
      have hi1 : (i : Int) < (L : Int) := by omega
      obtain ⟨b1, o1, rfl, hx⟩ := (H.out.keep HG.out.keep (nobIn _)).elem (i := i) (by rw [HL.out]; exact hlt)
      obtain ⟨x, HX⟩ : ∃ x, Hid (xs[i]'(by rw [HL.out]; exact hlt) = x) := ⟨_, Lib.hid rfl⟩
      have HXE : Hid (xs[i]? = some x) := by unfold Hid; rw [← HX.out]; exact List.getElem?_eq_getElem _
      rw [HX.out] at hx
      have hx1 := hx 0 _ rfl
      have hx2 := hx 1 _ rfl
      simp only [EI, Nat.add_zero] at hx1 hx2
      have hlen := uniqTo_le (cmpR o) xs i
      obtain ⟨uq, HUQ⟩ : ∃ uq, Hid (uniqTo (cmpR o) xs i = uq) := ⟨_, Lib.hid rfl⟩
      rw [HUQ.out] at HG hlen ⊢
      have hb16 : (uq.length + 1) * 16 ≤ 140737488355328 := by omega
      by_cases h0 : i = 0
      · have HST : Hid (staysB (cmpR o) xs i = true) := by unfold Hid staysB; rw [h0]; rfl
        subst h0
        simp only [Nat.zero_mul, Nat.add_zero] at hx1 hx2
        have hL0 : 0 < L := hlt
        have HF : Hid (∀ w', Kept wr w' → w'.cell? ⟨b1, o1, none⟩ = some (.int .i64 x.1) ∧ w'.cell? ⟨b1, o1 + 1, none⟩ = some (.int .i64 x.2)) := fun w' hk => ⟨hk.cell hx1 (fun h => h), hk.cell hx2 (fun h => h)⟩
        clear hx hx1 hx2
        go_wp2_with (fail)
        go_quiet (fail)
        obtain ⟨wq, HWQ⟩ : ∃ wq, Hid (wr.drewN nq = wq) := ⟨_, Lib.hid rfl⟩
        have HKq : Hid (Keep nob wr wq) := by rw [← HWQ.out]; exact (Keep.refl _ wr).drewN _
        rw [HWQ.out]
        obtain ⟨c1, c2⟩ := HF.out wq HKq.out
        have HGq : Hid (Gro w wq Aq cq uq) := HG.out.kept HKq.out
        obtain ⟨w3, HW3⟩ : ∃ w3, Hid (w3 = wq.alloc (.cells #[.int .i64 x.1, .int .i64 x.2] 27)) := ⟨_, Lib.hid rfl⟩
        have HK3 : Hid (Keep nob wq w3) := by rw [HW3.out]; exact (Keep.refl _ wq).alloc _
        have HS3 : Hid (Sl EI w3 (some ⟨wq.heap.size, 0, none⟩) 1 [x]) := by rw [HW3.out]; exact Sl.one EI wq _ _ 27 rfl
        have HG3 : Hid (Gro w w3 Aq cq uq) := HGq.out.kept HK3.out
        have HE3 := Lib.hid HW3.out.symm
        go_wp2_with (at_builtin; rw [HE3.out]; refine wpList_append_two EI rfl _ _ 22 rfl 27 _ 16 Try.underlying22 info27 rfl Aq uq.length cq rfl uq rfl HG3.out.ow (some ⟨wq.heap.size, 0, none⟩) 1 1 rfl [x] rfl HS3.out (by decide) hb16 (by omega) ?_; intro A' c' w4 hap; have HAP := Lib.hid hap; clear hap)
        have HU : Hid (uniqTo (cmpR o) xs (0 + 1) = uq ++ [x]) := by unfold Hid; rw [uniqTo_stay HST.out HXE.out, HUQ.out]
        have HG4 : Hid (Gro w w4 A' c' (uniqTo (cmpR o) xs (0 + 1))) := by rw [HU.out]; exact HG3.out.next HAP.out
        have HLL : Hid (uq.length + 1 = (uniqTo (cmpR o) xs (0 + 1)).length) := by unfold Hid; rw [HU.out]; simp
        clear HAP HG3 HS3 HK3 HE3 HW3 HGq
        go_wp2_with (fail)
        rw [HLL.out]
        exact ⟨⟨0 + 1, A', c', hlt, by go_num, rfl, HG4⟩, by simp [intOf]; omega⟩
      · have hi2 : (1 : Int) ≤ (i : Int) := by omega
        have h0j : ¬ ((i : Int) = 0) := by omega
        have hb0 : ((i : Int) == 0) = false := by simpa using h0
        have hb1 : decide ((i : Int) = 0) = false := decide_eq_false h0j
        have hb2 : (i == 0) = false := by simpa using h0
        obtain ⟨p, HP⟩ : ∃ p, Hid (i = p + 1) := ⟨i - 1, by unfold Hid; omega⟩
        have hpi : (i : Int) - 1 = (p : Int) := by have := HP.out; omega
        have hpl : p < L := by have := HP.out; omega
        obtain ⟨b', o', e', hy⟩ := (H.out.keep HG.out.keep (nobIn _)).elem (i := p) (by rw [HL.out]; exact hpl)
        simp only [Option.some.injEq, Addr.mk.injEq, and_true] at e'
        obtain ⟨rfl, rfl⟩ := e'
        obtain ⟨y, HY⟩ : ∃ y, Hid (xs[p]'(by rw [HL.out]; exact hpl) = y) := ⟨_, Lib.hid rfl⟩
        have HYE : Hid (xs[p]? = some y) := by unfold Hid; rw [← HY.out]; exact List.getElem?_eq_getElem _
        rw [HY.out] at hy
        have hy1 := hy 0 _ rfl
        have hy2 := hy 1 _ rfl
        simp only [EI, Nat.add_zero] at hy1 hy2
        have hp0 : (0 : Int) ≤ (p : Int) := by omega
        have hp1 : (p : Int) < (L : Int) := by omega
        have hw2 : IntKind.i64.wrap ((i : Int) - 1) = (p : Int) := by rw [hpi, IntWalk.i64_left]; exact IntWalk.wrap64_in _ ⟨by omega, by omega⟩
        have hw4 : IntKind.i64.wrap (p : Int) = (p : Int) := by rw [IntWalk.i64_left]; exact IntWalk.wrap64_in _ ⟨by omega, by omega⟩
        have HSB : Hid (staysB (cmpR o) xs i = (cmpR o y x != 0)) := by
          unfold Hid staysB
          rw [HP.out, show p + 1 - 1 = p by omega, HYE.out, ← HP.out, HXE.out]
          rw [HP.out]
          rfl
        have HCM := Lib.hid (cmp_ok o y x)
        obtain ⟨cv, HCV⟩ : ∃ cv, Hid (cmpR o y x = cv) := ⟨_, Lib.hid rfl⟩
        rw [HCV.out] at HCM HSB
        have HF : Hid (∀ w', Kept wr w' → w'.cell? ⟨b1, o1 + i * 2, none⟩ = some (.int .i64 x.1) ∧ w'.cell? ⟨b1, o1 + i * 2 + 1, none⟩ = some (.int .i64 x.2) ∧ w'.cell? ⟨b1, o1 + p * 2, none⟩ = some (.int .i64 y.1) ∧ w'.cell? ⟨b1, o1 + p * 2 + 1, none⟩ = some (.int .i64 y.2)) :=
          fun w' hk => ⟨hk.cell hx1 (fun h => h), hk.cell hx2 (fun h => h), hk.cell hy1 (fun h => h), hk.cell hy2 (fun h => h)⟩
        clear hy HY hx hx1 hx2 hy1 hy2
        go_wp2_with (fail)
        refine wp_region_kept (by kernel_rfl) (by kernel_rfl) (QV.out ?_)
        repeat (first
          | (refine kq_skip (by rfl) (fun K hK => ?_); go_simp; refine hK _ ?_; clear hK K)
          | (refine kq_want (by rfl) (fun K hK => ?_); first
              | (refine BigFrame.quiet_move _ rfl ?_; go_simp; refine hK _ ?_; clear hK K)
              | (refine kq_still ?_ (fun w' hw' => ?_) ?_; rotate_left; (obtain ⟨c1, c2, c3, c4⟩ := HF.out w' hw'; go_simp; first | done | exact rfl); go_simp; refine hK _ ?_; clear hK K)
              | (go_simp; apply Exists.intro; refine ⟨fun w' hw' => ?_, hK _ ?_⟩; (first | (refine (HCM.out w').mono ?_)); rintro e w'' ⟨rfl, hk''⟩; exact ⟨rfl, hw'.then_ hk''⟩; clear hK K)))
        refine ⟨wpQuiet_nil ?_⟩
        intro wq hkq
        have HKq : Hid (Keep nob wr wq) := hkq
        obtain ⟨c1, c2, c3, c4⟩ := HF.out wq hkq
        clear hkq
        by_cases hcv : cv = 0
        · have HST : Hid (staysB (cmpR o) xs i = false) := by unfold Hid; rw [HSB.out, hcv]; rfl
          have HU : Hid (uniqTo (cmpR o) xs (i + 1) = uq) := by unfold Hid; rw [uniqTo_go HST.out, HUQ.out]
          have HG4 : Hid (Gro w wq Aq cq (uniqTo (cmpR o) xs (i + 1))) := by rw [HU.out]; exact HG.out.kept HKq.out
          go_wp2_with (fail)
          rw [show uq.length = (uniqTo (cmpR o) xs (i + 1)).length by rw [HU.out]]
          go_roundw
          case rel => exact ⟨i + 1, Aq, cq, hlt, by go_num, rfl, HG4⟩
          case measure => simp [intOf]; omega
        · have HST : Hid (staysB (cmpR o) xs i = true) := by unfold Hid; rw [HSB.out]; simpa using hcv
          have HGq : Hid (Gro w wq Aq cq uq) := HG.out.kept HKq.out
          obtain ⟨w3, HW3⟩ : ∃ w3, Hid (w3 = wq.alloc (.cells #[.int .i64 x.1, .int .i64 x.2] 27)) := ⟨_, Lib.hid rfl⟩
          have HK3 : Hid (Keep nob wq w3) := by rw [HW3.out]; exact (Keep.refl _ wq).alloc _
          have HS3 : Hid (Sl EI w3 (some ⟨wq.heap.size, 0, none⟩) 1 [x]) := by rw [HW3.out]; exact Sl.one EI wq _ _ 27 rfl
          have HG3 : Hid (Gro w w3 Aq cq uq) := HGq.out.kept HK3.out
          have HE3 := Lib.hid HW3.out.symm
          go_wp2_with (at_builtin; rw [HE3.out]; refine wpList_append_two EI rfl _ _ 22 rfl 27 _ 16 Try.underlying22 info27 rfl Aq uq.length cq rfl uq rfl HG3.out.ow (some ⟨wq.heap.size, 0, none⟩) 1 1 rfl [x] rfl HS3.out (by decide) hb16 (by omega) ?_; intro A' c' w4 hap; have HAP := Lib.hid hap; clear hap)
          have HU : Hid (uniqTo (cmpR o) xs (i + 1) = uq ++ [x]) := by unfold Hid; rw [uniqTo_stay HST.out HXE.out, HUQ.out]
          have HG4 : Hid (Gro w w4 A' c' (uniqTo (cmpR o) xs (i + 1))) := by rw [HU.out]; exact HG3.out.next HAP.out
          have HLL : Hid (uq.length + 1 = (uniqTo (cmpR o) xs (i + 1)).length) := by unfold Hid; rw [HU.out]; simp
          clear HAP HG3 HS3 HK3 HE3 HW3 HGq
          go_wp2_with (fail)
          rw [HLL.out]
          exact ⟨⟨i + 1, A', c', hlt, by go_num, rfl, HG4⟩, by simp [intOf]; omega⟩
    · have hiL : i = L := by omega
      subst hiL
      go_wp2_with (fail)
      go_ret
      exact ⟨Aq, cq, rfl, HG.out⟩
end Go.Proofs.Ytnofckgnnpmiiaa
