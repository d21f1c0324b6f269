/- The reference's Merge and Unique. -/
import Derived.Test.YtnofckgnnpmiiaaUq
import Derived.Test.YtnofckgnnpmiiaaRs
namespace Go.Proofs.Ytnofckgnnpmiiaa
open Go.RowKit Go.Shelf
attribute [local go_sem ↓] Go.wp_at_zero Go.wp_at_succ

structure MGI {α : Type} (c : α → α → Int) (xs ys : List α) (i k : Nat) (ms : List α) : Prop where
  all : ms ++ mergeL c (xs.drop i) (ys.drop k) = mergeL c xs ys
  len : ms.length = i + k
theorem MGI.nextY {α : Type} {c : α → α → Int} {xs ys ms : List α} {i k : Nat} {y : α} (h : MGI c xs ys i k ms) (hy : ys[k]? = some y) (hx : xs.length ≤ i ∨ ∃ x, xs[i]? = some x ∧ c y x < 0) : MGI c xs ys i (k + 1) (ms ++ [y]) := by
  obtain ⟨h1, h2⟩ := List.getElem?_eq_some_iff.1 hy
  refine ⟨?_, by simp [h.len]; omega⟩
  rw [← h.all, List.append_assoc]
  congr 1
  rw [List.drop_eq_getElem_cons h1, h2]
  rcases hx with hx | ⟨x, hx, hc⟩
  · rw [List.drop_eq_nil_of_le hx]
    simp [mergeL]
  · obtain ⟨h3, h4⟩ := List.getElem?_eq_some_iff.1 hx
    rw [List.drop_eq_getElem_cons h3, h4, mergeL_y hc]
    rfl
theorem MGI.nextX {α : Type} {c : α → α → Int} {xs ys ms : List α} {i k : Nat} {x : α} (h : MGI c xs ys i k ms) (hx : xs[i]? = some x) (hy : ys.length ≤ k ∨ ∃ y, ys[k]? = some y ∧ ¬ c y x < 0) : MGI c xs ys (i + 1) k (ms ++ [x]) := by
  obtain ⟨h1, h2⟩ := List.getElem?_eq_some_iff.1 hx
  refine ⟨?_, by simp [h.len]; omega⟩
  rw [← h.all, List.append_assoc]
  congr 1
  rw [List.drop_eq_getElem_cons h1, h2]
  rcases hy with hy | ⟨y, hy, hc⟩
  · rw [List.drop_eq_nil_of_le hy, mergeL_nil, mergeL_nil]
    rfl
  · obtain ⟨h3, h4⟩ := List.getElem?_eq_some_iff.1 hy
    rw [List.drop_eq_getElem_cons h3, h4, mergeL_x hc]
    rfl

/-- a list that grows, in memory that was not there in w -/
structure Gro (w wr : World) (Aq : Option Addr) (cq : Nat) (ms : List Item) : Prop where
  ow : Ow EI wr Aq cq ms
  fresh : ∀ a, Aq = some a → w.heap.size ≤ a.block
  keep : Keep nob w wr
theorem Gro.start (w : World) : Gro w w none 0 [] := ⟨Ow.nil_ _ _ _, fun a h => by simp at h, Keep.refl _ _⟩
theorem Gro.kept {w wr w1 : World} {Aq : Option Addr} {cq : Nat} {ms : List Item} (h : Gro w wr Aq cq ms) (k : Keep nob wr w1) : Gro w w1 Aq cq ms := ⟨h.ow.keep k (nobIn _), h.fresh, h.keep.then_ k⟩
theorem Gro.next {w w3 w4 : World} {Aq A' : Option Addr} {cq c' : Nat} {ms zs : List Item} (h : Gro w w3 Aq cq ms) (hap : Appended2 EI w3 Aq cq zs A' c' w4) : Gro w w4 A' c' zs := by
  rcases hap.where_ with ⟨h1, h2, h3, h4⟩ | ⟨h1, h2, h3⟩
  · exact ⟨hap.ow, fun a ha => h.fresh a (by rw [← h1]; exact ha), h.keep.trans h4 (fun k hk ⟨a, ha, e⟩ => by have := h.fresh a ha; omega)⟩
  · exact ⟨hap.ow, fun a ha => by rw [h1 a ha]; exact h.keep.size, h.keep.then_ h3⟩

set_option maxRecDepth 100000 in
set_option maxHeartbeats 8000000 in
theorem refmerge_ok (o : Int) (A1 A2 : Option Addr) (c1 c2 L1 L2 : Nat) (xs ys : List Item) (w : World) (hL1 : xs.length = L1) (hL2 : ys.length = L2) (h1 : Sl EI w A1 c1 xs) (h2 : Sl EI w A2 c2 ys) (hl1 : L1 ≤ 1000000000) (hl2 : L2 ≤ 1000000000) :
    Calls Try.prog 47 #[.slice A1 L1 c1, .slice A2 L2 c2, .int .i64 o] w fun e w' => ∃ A' c', e = .returned (.slice A' (L1 + L2) c') ∧ Gro w w' A' c' (mergeL (cmpR o) xs ys) := by
  have H1 := Lib.hid h1
  have H2 := Lib.hid h2
  have HL1 := Lib.hid hL1
  have HL2 := Lib.hid hL2
  have hlc1 := h1.le
  have hlc2 := h2.le
  rw [hL1] at hlc1
  rw [hL2] at hlc2
  have hcc1 := h1.cap
  have hcc2 := h2.cap
  clear h1 h2 hL1 hL2
  go_enter Try.func47, Try.ntmps47
  go_wp2_with (fail)
  go_loopw [7, 8, 9] (fun u7 u8 u9 wr => ∃ (i k : Nat) (ms : List Item) (Aq : Option Addr) (cq : Nat), i ≤ L1 ∧ k ≤ L2 ∧ u8 = .int .i64 (i : Int) ∧ u9 = .int .i64 (k : Int) ∧ u7 = .slice Aq (i + k) cq ∧ Hid (MGI (cmpR o) xs ys i k ms) ∧ Hid (Gro w wr Aq cq ms))
    (fun _ u8 u9 _ => ((L1 : Int) - intOf u8).toNat + ((L2 : Int) - intOf u9).toNat)
  case atStart => exact ⟨0, 0, [], none, 0, Nat.zero_le _, Nat.zero_le _, rfl, rfl, rfl, ⟨rfl, rfl⟩, Gro.start w⟩
  case round =>
    obtain ⟨i, k, ms, Aq, cq, hi, hk, rfl, rfl, rfl, HM, HG⟩ := hrel
    have hLb1 : (L1 : Int) ≤ 1000000000 := by omega
    have hLb2 : (L2 : Int) ≤ 1000000000 := by omega
    have hi0 : (0 : Int) ≤ (i : Int) := by omega
    have hk0 : (0 : Int) ≤ (k : Int) := by omega
    have hb16 : (i + k + 1) * 16 ≤ 140737488355328 := by omega
    have hb63 : i + k + 1 ≤ 9223372036854775807 := by omega
    by_cases hx : i < L1
    · have hi1 : (i : Int) < (L1 : Int) := by omega
      have hqe : (i == L1) = false := by simp; omega
      have hqi : ((i : Int) == (L1 : Int)) = false := by simp; omega
      have hqd : decide ((i : Int) = (L1 : Int)) = false := decide_eq_false (by omega)
      have hne : ¬ (i = L1) := by omega
      obtain ⟨b1, o1, rfl, hxc⟩ := (H1.out.keep HG.out.keep (nobIn _)).elem (i := i) (by rw [HL1.out]; exact hx)
      obtain ⟨x, HX⟩ : ∃ x, Hid (xs[i]'(by rw [HL1.out]; exact hx) = x) := ⟨_, Lib.hid rfl⟩
      have HXE : Hid (xs[i]? = some x) := by unfold Hid; rw [← HX.out]; exact List.getElem?_eq_getElem _
      rw [HX.out] at hxc
      have hx1 := hxc 0 _ rfl
      have hx2 := hxc 1 _ rfl
      simp only [EI, Nat.add_zero] at hx1 hx2
      clear hxc HX
      by_cases hy : k < L2
      · have hk1 : (k : Int) < (L2 : Int) := by omega
        have hd2 : decide (k < L2) = true := decide_eq_true hy
        obtain ⟨b2, o2, rfl, hyc⟩ := (H2.out.keep HG.out.keep (nobIn _)).elem (i := k) (by rw [HL2.out]; exact hy)
        obtain ⟨y, HY⟩ : ∃ y, Hid (ys[k]'(by rw [HL2.out]; exact hy) = y) := ⟨_, Lib.hid rfl⟩
        have HYE : Hid (ys[k]? = some y) := by unfold Hid; rw [← HY.out]; exact List.getElem?_eq_getElem _
        rw [HY.out] at hyc
        have hy1 := hyc 0 _ rfl
        have hy2 := hyc 1 _ rfl
        simp only [EI, Nat.add_zero] at hy1 hy2
        clear hyc HY
        have HF : Hid (∀ w', Kept wr w' → w'.cell? ⟨b1, o1 + i * 2, none⟩ = some (.int .i64 x.1) ∧ w'.cell? ⟨b1, o1 + i * 2 + 1, none⟩ = some (.int .i64 x.2) ∧ w'.cell? ⟨b2, o2 + k * 2, none⟩ = some (.int .i64 y.1) ∧ w'.cell? ⟨b2, o2 + k * 2 + 1, none⟩ = some (.int .i64 y.2)) :=
          fun w' hk => ⟨hk.cell hx1 (fun h => h), hk.cell hx2 (fun h => h), hk.cell hy1 (fun h => h), hk.cell hy2 (fun h => h)⟩
        have HCM := Lib.hid (cmp_ok o y x)
        obtain ⟨cv, HCV⟩ : ∃ cv, Hid (cmpR o y x = cv) := ⟨_, Lib.hid rfl⟩
        rw [HCV.out] at HCM
        clear hx1 hx2 hy1 hy2
        by_cases hcv : cv < 0
        · have hcd : decide (cv < 0) = true := decide_eq_true hcv
          go_wp2_with (fail)
          refine wp_region_kept (by kernel_rfl) (by kernel_rfl) (QV.out ?_)
          repeat (first
            | (refine kq_skip (by rfl) (fun K hK => ?_); go_simp; refine hK _ ?_; clear hK K)
            | (refine kq_want (by rfl) (fun K hK => ?_); first
                | (refine BigFrame.quiet_move _ rfl ?_; go_simp; refine hK _ ?_; clear hK K)
                | (refine kq_still ?_ (fun w' hw' => ?_) ?_; rotate_left; (obtain ⟨c1, c2, c3, c4⟩ := HF.out w' hw'; go_simp; first | done | exact rfl); go_simp; refine hK _ ?_; clear hK K)
                | (go_simp; apply Exists.intro; refine ⟨fun w' hw' => ?_, hK _ ?_⟩; (first | (refine (HCM.out w').mono ?_)); rintro e w'' ⟨rfl, hk''⟩; exact ⟨rfl, hw'.then_ hk''⟩; clear hK K)))
          refine ⟨wpQuiet_nil ?_⟩
          intro wq hkq
          have HKq : Hid (Keep nob wr wq) := hkq
          obtain ⟨c1, c2, c3, c4⟩ := HF.out wq hkq
          clear hkq
          have HGq : Hid (Gro w wq Aq cq ms) := HG.out.kept HKq.out
          obtain ⟨w3, HW3⟩ : ∃ w3, Hid (w3 = wq.alloc (.cells #[.int .i64 y.1, .int .i64 y.2] 27)) := ⟨_, Lib.hid rfl⟩
          have HK3 : Hid (Keep nob wq w3) := by rw [HW3.out]; exact (Keep.refl _ wq).alloc _
          have HS3 : Hid (Sl EI w3 (some ⟨wq.heap.size, 0, none⟩) 1 [y]) := by rw [HW3.out]; exact Sl.one EI wq _ _ 27 rfl
          have HG3 : Hid (Gro w w3 Aq cq ms) := HGq.out.kept HK3.out
          have HE3 := Lib.hid HW3.out.symm
          go_wp2_with (at_builtin; rw [HE3.out]; refine wpList_append_two EI rfl _ _ 22 rfl 27 _ 16 Try.underlying22 info27 rfl Aq (i + k) cq rfl ms HM.out.len HG3.out.ow (some ⟨wq.heap.size, 0, none⟩) 1 1 rfl [y] rfl HS3.out (by decide) hb16 hb63 ?_; intro A' c' w4 hap; have HAP := Lib.hid hap; clear hap)
          have HG4 := Lib.hid (HG3.out.next HAP.out)
          clear HAP HG3 HS3 HK3 HE3 HW3 HGq
          go_wp2_with (fail)
          exact ⟨⟨i, k + 1, ms ++ [y], A', c', hi, hy, rfl, by go_num, by rw [Nat.add_assoc], HM.out.nextY HYE.out (.inr ⟨x, HXE.out, by rw [HCV.out]; exact hcv⟩), HG4⟩, by simp [intOf]; omega⟩
        · have hcd : decide (cv < 0) = false := decide_eq_false hcv
          go_wp2_with (fail)
          refine wp_region_kept (by kernel_rfl) (by kernel_rfl) (QV.out ?_)
          repeat (first
            | (refine kq_skip (by rfl) (fun K hK => ?_); go_simp; refine hK _ ?_; clear hK K)
            | (refine kq_want (by rfl) (fun K hK => ?_); first
                | (refine BigFrame.quiet_move _ rfl ?_; go_simp; refine hK _ ?_; clear hK K)
                | (refine kq_still ?_ (fun w' hw' => ?_) ?_; rotate_left; (obtain ⟨c1, c2, c3, c4⟩ := HF.out w' hw'; go_simp; first | done | exact rfl); go_simp; refine hK _ ?_; clear hK K)
                | (go_simp; apply Exists.intro; refine ⟨fun w' hw' => ?_, hK _ ?_⟩; (first | (refine (HCM.out w').mono ?_)); rintro e w'' ⟨rfl, hk''⟩; exact ⟨rfl, hw'.then_ hk''⟩; clear hK K)))
          refine ⟨wpQuiet_nil ?_⟩
          intro wq hkq
          have HKq : Hid (Keep nob wr wq) := hkq
          obtain ⟨c1, c2, c3, c4⟩ := HF.out wq hkq
          clear hkq
          have HGq : Hid (Gro w wq Aq cq ms) := HG.out.kept HKq.out
          obtain ⟨w3, HW3⟩ : ∃ w3, Hid (w3 = wq.alloc (.cells #[.int .i64 x.1, .int .i64 x.2] 27)) := ⟨_, Lib.hid rfl⟩
          have HK3 : Hid (Keep nob wq w3) := by rw [HW3.out]; exact (Keep.refl _ wq).alloc _
          have HS3 : Hid (Sl EI w3 (some ⟨wq.heap.size, 0, none⟩) 1 [x]) := by rw [HW3.out]; exact Sl.one EI wq _ _ 27 rfl
          have HG3 : Hid (Gro w w3 Aq cq ms) := HGq.out.kept HK3.out
          have HE3 := Lib.hid HW3.out.symm
          go_wp2_with (at_builtin; rw [HE3.out]; refine wpList_append_two EI rfl _ _ 22 rfl 27 _ 16 Try.underlying22 info27 rfl Aq (i + k) cq rfl ms HM.out.len HG3.out.ow (some ⟨wq.heap.size, 0, none⟩) 1 1 rfl [x] rfl HS3.out (by decide) hb16 hb63 ?_; intro A' c' w4 hap; have HAP := Lib.hid hap; clear hap)
          have HG4 := Lib.hid (HG3.out.next HAP.out)
          clear HAP HG3 HS3 HK3 HE3 HW3 HGq
          go_wp2_with (fail)
          exact ⟨⟨i + 1, k, ms ++ [x], A', c', hx, hk, by go_num, rfl, by rw [Nat.add_right_comm], HM.out.nextX HXE.out (.inr ⟨y, HYE.out, by rw [HCV.out]; omega⟩), HG4⟩, by simp [intOf]; omega⟩
      · have hkL : k = L2 := by omega
        subst hkL
        have HF : Hid (∀ w', Kept wr w' → w'.cell? ⟨b1, o1 + i * 2, none⟩ = some (.int .i64 x.1) ∧ w'.cell? ⟨b1, o1 + i * 2 + 1, none⟩ = some (.int .i64 x.2)) := fun w' hk => ⟨hk.cell hx1 (fun h => h), hk.cell hx2 (fun h => h)⟩
        clear hx1 hx2
        go_wp2_with (fail)
        refine wp_region_kept (by kernel_rfl) (by kernel_rfl) (QV.out ?_)
        repeat (first
          | (refine kq_skip (by rfl) (fun K hK => ?_); go_simp; refine hK _ ?_; clear hK K)
          | (refine kq_want (by rfl) (fun K hK => ?_); first
              | (refine BigFrame.quiet_move _ rfl ?_; go_simp; refine hK _ ?_; clear hK K)
              | (refine kq_still ?_ (fun w' hw' => ?_) ?_; rotate_left; (obtain ⟨c1, c2⟩ := HF.out w' hw'; go_simp; first | done | exact rfl); go_simp; refine hK _ ?_; clear hK K)))
        refine ⟨wpQuiet_nil ?_⟩
        intro wq hkq
        have HKq : Hid (Keep nob wr wq) := hkq
        obtain ⟨c1, c2⟩ := HF.out wq hkq
        clear hkq
        have HGq : Hid (Gro w wq Aq cq ms) := HG.out.kept HKq.out
        obtain ⟨w3, HW3⟩ : ∃ w3, Hid (w3 = wq.alloc (.cells #[.int .i64 x.1, .int .i64 x.2] 27)) := ⟨_, Lib.hid rfl⟩
        have HK3 : Hid (Keep nob wq w3) := by rw [HW3.out]; exact (Keep.refl _ wq).alloc _
        have HS3 : Hid (Sl EI w3 (some ⟨wq.heap.size, 0, none⟩) 1 [x]) := by rw [HW3.out]; exact Sl.one EI wq _ _ 27 rfl
        have HG3 : Hid (Gro w w3 Aq cq ms) := HGq.out.kept HK3.out
        have HE3 := Lib.hid HW3.out.symm
        go_wp2_with (at_builtin; rw [HE3.out]; refine wpList_append_two EI rfl _ _ 22 rfl 27 _ 16 Try.underlying22 info27 rfl Aq (i + k) cq rfl ms HM.out.len HG3.out.ow (some ⟨wq.heap.size, 0, none⟩) 1 1 rfl [x] rfl HS3.out (by decide) hb16 hb63 ?_; intro A' c' w4 hap; have HAP := Lib.hid hap; clear hap)
        have HG4 := Lib.hid (HG3.out.next HAP.out)
        clear HAP HG3 HS3 HK3 HE3 HW3 HGq
        go_wp2_with (fail)
        exact ⟨⟨i + 1, k, ms ++ [x], A', c', hx, hk, by go_num, rfl, by rw [Nat.add_right_comm], HM.out.nextX HXE.out (.inl (by rw [HL2.out]; exact Nat.le_refl _)), HG4⟩, by simp [intOf]; omega⟩
    · have hiL : i = L1 := by omega
      subst hiL
      by_cases hy : k < L2
      · have hk1 : (k : Int) < (L2 : Int) := by omega
        have hd2 : decide (k < L2) = true := decide_eq_true hy
        obtain ⟨b2, o2, rfl, hyc⟩ := (H2.out.keep HG.out.keep (nobIn _)).elem (i := k) (by rw [HL2.out]; exact hy)
        obtain ⟨y, HY⟩ : ∃ y, Hid (ys[k]'(by rw [HL2.out]; exact hy) = y) := ⟨_, Lib.hid rfl⟩
        have HYE : Hid (ys[k]? = some y) := by unfold Hid; rw [← HY.out]; exact List.getElem?_eq_getElem _
        rw [HY.out] at hyc
        have hy1 := hyc 0 _ rfl
        have hy2 := hyc 1 _ rfl
        simp only [EI, Nat.add_zero] at hy1 hy2
        clear hyc HY
        have HF : Hid (∀ w', Kept wr w' → w'.cell? ⟨b2, o2 + k * 2, none⟩ = some (.int .i64 y.1) ∧ w'.cell? ⟨b2, o2 + k * 2 + 1, none⟩ = some (.int .i64 y.2)) := fun w' hk => ⟨hk.cell hy1 (fun h => h), hk.cell hy2 (fun h => h)⟩
        clear hy1 hy2
        go_wp2_with (fail)
        refine wp_region_kept (by kernel_rfl) (by kernel_rfl) (QV.out ?_)
        repeat (first
          | (refine kq_skip (by rfl) (fun K hK => ?_); go_simp; refine hK _ ?_; clear hK K)
          | (refine kq_want (by rfl) (fun K hK => ?_); first
              | (refine BigFrame.quiet_move _ rfl ?_; go_simp; refine hK _ ?_; clear hK K)
              | (refine kq_still ?_ (fun w' hw' => ?_) ?_; rotate_left; (obtain ⟨c1, c2⟩ := HF.out w' hw'; go_simp; first | done | exact rfl); go_simp; refine hK _ ?_; clear hK K)))
        refine ⟨wpQuiet_nil ?_⟩
        intro wq hkq
        have HKq : Hid (Keep nob wr wq) := hkq
        obtain ⟨c1, c2⟩ := HF.out wq hkq
        clear hkq
        have HGq : Hid (Gro w wq Aq cq ms) := HG.out.kept HKq.out
        obtain ⟨w3, HW3⟩ : ∃ w3, Hid (w3 = wq.alloc (.cells #[.int .i64 y.1, .int .i64 y.2] 27)) := ⟨_, Lib.hid rfl⟩
        have HK3 : Hid (Keep nob wq w3) := by rw [HW3.out]; exact (Keep.refl _ wq).alloc _
        have HS3 : Hid (Sl EI w3 (some ⟨wq.heap.size, 0, none⟩) 1 [y]) := by rw [HW3.out]; exact Sl.one EI wq _ _ 27 rfl
        have HG3 : Hid (Gro w w3 Aq cq ms) := HGq.out.kept HK3.out
        have HE3 := Lib.hid HW3.out.symm
        go_wp2_with (at_builtin; rw [HE3.out]; refine wpList_append_two EI rfl _ _ 22 rfl 27 _ 16 Try.underlying22 info27 rfl Aq (i + k) cq rfl ms HM.out.len HG3.out.ow (some ⟨wq.heap.size, 0, none⟩) 1 1 rfl [y] rfl HS3.out (by decide) hb16 hb63 ?_; intro A' c' w4 hap; have HAP := Lib.hid hap; clear hap)
        have HG4 := Lib.hid (HG3.out.next HAP.out)
        clear HAP HG3 HS3 HK3 HE3 HW3 HGq
        go_wp2_with (fail)
        exact ⟨⟨i, k + 1, ms ++ [y], A', c', hi, hy, rfl, by go_num, by rw [Nat.add_assoc], HM.out.nextY HYE.out (.inl (by rw [HL1.out]; exact Nat.le_refl _)), HG4⟩, by simp [intOf]; omega⟩
      · have hkL : k = L2 := by omega
        subst hkL
        clear hi hk hx hy
        go_wp2_with (fail)
        go_ret
        have := HM.out.all
        rw [List.drop_eq_nil_of_le (by rw [HL1.out]; exact Nat.le_refl _), List.drop_eq_nil_of_le (by rw [HL2.out]; exact Nat.le_refl _)] at this
        rw [← this]
        refine ⟨Aq, cq, rfl, ?_⟩
        rw [mergeL_nil, List.append_nil]
        exact HG.out
end Go.Proofs.Ytnofckgnnpmiiaa
