/- The reference's Search and Twice: what they answer; they keep all memory that there was. -/
import Derived.Test.YtnofckgnnpmiiaaOc
import Derived.Test.YtnofckgnnpmiiaaQk
namespace Go.Proofs.Ytnofckgnnpmiiaa
open Go.RowKit Go.Shelf
attribute [local go_sem ↓] Go.wp_at_zero Go.wp_at_succ

set_option maxRecDepth 100000 in
set_option maxHeartbeats 8000000 in
theorem refsearch_ok (o : Int) (A : Option Addr) (c L : Nat) (zs : List Item) (x : Item) (w : World) (hL : zs.length = L) (h : Sl EI w A c zs) (hl : L ≤ 1000000000) : Calls Try.prog 22 #[.slice A L c, EI.val x, .int .i64 o] w
    (fun e w' => ∃ n, e = .returned (.tuple #[.int .i64 ((n : Nat) : Int), .bool (alikeAt (cmpR o) x zs n)]) ∧ n ≤ L ∧ (zs.Pairwise (fun a b => kap o a ≤ kap o b) → FoundAt (cmpR o) x zs n) ∧ Keep nob w w') := by
  have H := Lib.hid h
  have HL := Lib.hid hL
  have hlc := h.le
  rw [hL] at hlc
  have hcc := h.cap
  clear h hL
  show Calls Try.prog 22 #[.slice A L c, .agg #[.int .i64 x.1, .int .i64 x.2], .int .i64 o] w _
  obtain ⟨w1, HW1⟩ : ∃ w1, Hid (w.alloc (.cells #[.int .i64 x.1, .int .i64 x.2] 27) = w1) := ⟨_, Lib.hid rfl⟩
  have HK1 : Hid (Keep nob w w1) := by rw [← HW1.out]; exact (Keep.refl _ w).alloc _
  have x1 : w1.cell? ⟨w.heap.size, 0, none⟩ = some (.int .i64 x.1) := by rw [← HW1.out]; simp
  have x2 : w1.cell? ⟨w.heap.size, 1, none⟩ = some (.int .i64 x.2) := by rw [← HW1.out]; simp
  go_enter Try.func22, Try.ntmps22
  go_wp2_with (fail)
  rw [HW1.out]
  generalize w.heap.size = bx at *
  go_loopw [8] (fun u8 wr => ∃ n : Nat, n ≤ L ∧ u8 = .int .i64 (n : Int) ∧ Hid (∀ i y, i < n → zs[i]? = some y → cmpR o y x < 0) ∧ Hid (Keep nob w wr) ∧ wr.cell? ⟨bx, 0, none⟩ = some (.int .i64 x.1) ∧ wr.cell? ⟨bx, 1, none⟩ = some (.int .i64 x.2)) (fun u8 _ => ((L : Int) - intOf u8).toNat)
  case atStart => exact ⟨0, Nat.zero_le _, rfl, fun i y h => by omega, HK1, x1, x2⟩
  case round =>
    obtain ⟨n, hn, rfl, HB, HKr, x1, x2⟩ := hrel
    have hLb : (L : Int) ≤ 1000000000 := by omega
    by_cases hlt : n < L
    · have hd : decide ((n : Int) < (L : Int)) = true := decide_eq_true (by omega)
      have hn0 : (0 : Int) ≤ (n : Int) := by omega
      have hn1 : (n : Int) < (L : Int) := by omega
      obtain ⟨b1, o1, rfl, hy⟩ := (H.out.keep HKr.out (nobIn _)).elem (i := n) (by rw [HL.out]; exact hlt)
      obtain ⟨y, HY⟩ : ∃ y, Hid (zs[n]'(by rw [HL.out]; exact hlt) = y) := ⟨_, Lib.hid rfl⟩
      rw [HY.out] at hy
      have HYE : Hid (zs[n]? = some y) := by unfold Hid; rw [← HY.out]; exact List.getElem?_eq_getElem _
      have hy1 := hy 0 _ rfl
      have hy2 := hy 1 _ rfl
      simp only [EI, Nat.add_zero] at hy1 hy2
      have HF : Hid (∀ w', Kept wr w' → w'.cell? ⟨b1, o1 + n * 2, none⟩ = some (.int .i64 y.1) ∧ w'.cell? ⟨b1, o1 + n * 2 + 1, none⟩ = some (.int .i64 y.2) ∧ w'.cell? ⟨bx, 0, none⟩ = some (.int .i64 x.1) ∧ w'.cell? ⟨bx, 1, none⟩ = some (.int .i64 x.2)) :=
        fun w' hk => ⟨hk.cell hy1 (fun h => h), hk.cell hy2 (fun h => h), hk.cell x1 (fun h => h), hk.cell x2 (fun h => h)⟩
      have HCM := Lib.hid (cmp_ok o y x)
      obtain ⟨cv, HCV⟩ : ∃ cv, Hid (cmpR o y x = cv) := ⟨_, Lib.hid rfl⟩
      rw [HCV.out] at HCM
      clear hy hy1 hy2 x1 x2
      by_cases hcv : cv < 0
      · go_wp2_with (fail)
        refine wp_region_kept (by kernel_rfl) (by kernel_rfl) (QV.out ?_)
        repeat (first
          | (refine kq_skip (by rfl) (fun K hK => ?_); go_simp; refine hK _ ?_; clear hK K)
          | (refine kq_want (by rfl) (fun K hK => ?_); first
              | (refine BigFrame.quiet_move _ rfl ?_; go_simp; refine hK _ ?_; clear hK K)
              | (refine kq_still ?_ (fun w' hw' => ?_) ?_; rotate_left; (obtain ⟨c1, c2, c3, c4⟩ := HF.out w' hw'; go_simp; first | done | exact rfl); go_simp; refine hK _ ?_; clear hK K)
              | (go_simp; apply Exists.intro; refine ⟨fun w' hw' => ?_, hK _ ?_⟩; (first | (refine (HCM.out w').mono ?_)); rintro e w'' ⟨rfl, hk''⟩; exact ⟨rfl, hw'.then_ hk''⟩; clear hK K)))
        refine ⟨wpQuiet_nil ?_⟩
        intro w1 hk1
        have HK2 : Hid (Keep nob w w1) := HKr.out.then_ hk1
        go_wp2_with (fail)
        refine ⟨⟨n + 1, hlt, by go_num, ?_, HK2, (HF.out w1 hk1).2.2.1, (HF.out w1 hk1).2.2.2⟩, by simp [intOf]; omega⟩
        intro i y' hi hy'
        by_cases e : i = n
        · subst e
          rw [HYE.out] at hy'
          obtain rfl := Option.some.inj hy'
          rw [HCV.out]
          exact hcv
        · exact HB.out i y' (by omega) hy'
      · go_wp2_with (fail)
        refine wp_region_kept (by kernel_rfl) (by kernel_rfl) (QV.out ?_)
        repeat (first
          | (refine kq_skip (by rfl) (fun K hK => ?_); go_simp; refine hK _ ?_; clear hK K)
          | (refine kq_want (by rfl) (fun K hK => ?_); first
              | (refine BigFrame.quiet_move _ rfl ?_; go_simp; refine hK _ ?_; clear hK K)
              | (refine kq_still ?_ (fun w' hw' => ?_) ?_; rotate_left; (obtain ⟨c1, c2, c3, c4⟩ := HF.out w' hw'; go_simp; first | done | exact rfl); go_simp; refine hK _ ?_; clear hK K)
              | (go_simp; apply Exists.intro; refine ⟨fun w' hw' => ?_, hK _ ?_⟩; (first | (refine (HCM.out w').mono ?_)); rintro e w'' ⟨rfl, hk''⟩; exact ⟨rfl, hw'.then_ hk''⟩; clear hK K)))
        refine ⟨wpQuiet_nil ?_⟩
        intro w2 hk2
        have HK2 : Hid (Keep nob w w2) := HKr.out.then_ hk2
        have HF2 : Hid (∀ w', Kept w2 w' → w'.cell? ⟨b1, o1 + n * 2, none⟩ = some (.int .i64 y.1) ∧ w'.cell? ⟨b1, o1 + n * 2 + 1, none⟩ = some (.int .i64 y.2) ∧ w'.cell? ⟨bx, 0, none⟩ = some (.int .i64 x.1) ∧ w'.cell? ⟨bx, 1, none⟩ = some (.int .i64 x.2)) :=
          fun w' hk => HF.out w' (hk2.then_ hk)
        clear hk2
        go_wp2_with (fail)
        refine wp_region_kept (by kernel_rfl) (by kernel_rfl) (QV.out ?_)
        repeat (first
          | (refine kq_skip (by rfl) (fun K hK => ?_); go_simp; refine hK _ ?_; clear hK K)
          | (refine kq_want (by rfl) (fun K hK => ?_); first
              | (refine BigFrame.quiet_move _ rfl ?_; go_simp; refine hK _ ?_; clear hK K)
              | (refine kq_still ?_ (fun w' hw' => ?_) ?_; rotate_left; (obtain ⟨c1, c2, c3, c4⟩ := HF2.out w' hw'; go_simp; first | done | exact rfl); go_simp; refine hK _ ?_; clear hK K)
              | (go_simp; apply Exists.intro; refine ⟨fun w' hw' => ?_, hK _ ?_⟩; (first | (refine (HCM.out w').mono ?_)); rintro e w'' ⟨rfl, hk''⟩; exact ⟨rfl, hw'.then_ hk''⟩; clear hK K)))
        refine ⟨wpQuiet_nil ?_⟩
        intro w3 hk3
        have HK3 : Hid (Keep nob w w3) := HK2.out.then_ hk3
        have HAL : Hid (alikeAt (cmpR o) x zs n = (cv == 0)) := by unfold Hid alikeAt; rw [HYE.out]; simp only [HCV.out]
        go_wp2_with (fail)
        go_ret2
        refine ⟨n, ?_, hn, fun hz => ⟨by rw [HL.out]; exact hn, HB.out, fun i y' hi hy' => ?_⟩, HK3.out⟩
        · rw [HAL.out]; rfl
        · rw [(cmpR_keyed o).lt]
          have h1 : ¬ kap o y < kap o x := by rw [← (cmpR_keyed o).lt, HCV.out]; omega
          have h2 : kap o y ≤ kap o y' := by
            by_cases e : n = i
            · subst e
              rw [HYE.out] at hy'
              obtain rfl := Option.some.inj hy'
              exact Int.le_refl _
            · obtain ⟨g1, g2⟩ := List.getElem?_eq_some_iff.1 hy'
              obtain ⟨g3, g4⟩ := List.getElem?_eq_some_iff.1 HYE.out
              have := List.pairwise_iff_getElem.1 hz n i g3 g1 (by omega)
              rw [g2, g4] at this
              exact this
          show ¬ kap o y' < kap o x
          omega
    · have hnL : n = L := by omega
      subst hnL
      have hd : decide ((n : Int) < (n : Int)) = false := decide_eq_false (by omega)
      have HAL : Hid (alikeAt (cmpR o) x zs n = false) := by unfold Hid alikeAt; rw [List.getElem?_eq_none (by rw [HL.out]; exact Nat.le_refl _)]
      go_wp2_with (fail)
      go_quiet (fail)
      go_wp2_with (fail)
      go_quiet (fail)
      go_wp2_with (fail)
      go_ret2
      refine ⟨n, ?_, Nat.le_refl _, fun hz => ⟨by rw [HL.out]; exact Nat.le_refl _, HB.out, fun i y' hi hy' => ?_⟩, (HKr.out.drewN _).drewN _⟩
      · rw [HAL.out]; rfl
      · have := (List.getElem?_eq_some_iff.1 hy').1
        rw [HL.out] at this
        omega

set_option maxRecDepth 100000 in
set_option maxHeartbeats 8000000 in
theorem reftwice_ok (o : Int) (A : Option Addr) (c L : Nat) (xs : List Item) (w : World) (hL : xs.length = L) (h : Sl EI w A c xs) (hl : L ≤ 1000000000) : Calls Try.prog 25 #[.slice A L c, .int .i64 o] w
    (fun e w' => ∃ k, e = .returned (.int .i64 k) ∧ TwSpec (cmpR o) xs k ∧ Keep nob w w') := by
  have H := Lib.hid h
  have HL := Lib.hid hL
  have hlc := h.le
  rw [hL] at hlc
  have hcc := h.cap
  clear h hL
  go_enter Try.func25, Try.ntmps25
  go_wp2_with (fail)
  go_loopw [5, 6] (fun u5 u6 wr => ∃ i : Nat, i ≤ L ∧ u5 = .int .i64 (i : Int) ∧ Hid (∀ j, j < i → ¬ dupAt (cmpR o) xs j) ∧ Hid (Keep nob w wr)) (fun u5 _ _ => ((L : Int) - intOf u5).toNat)
  case atStart => exact ⟨0, Nat.zero_le _, rfl, fun j h => by omega, Keep.refl _ w⟩
  case round =>
    obtain ⟨i, hi, rfl, HD, HKr⟩ := hrel
    have hLb : (L : Int) ≤ 1000000000 := by omega
    by_cases hlt : i < L
    · obtain ⟨wo, rfl⟩ : ∃ wo : World, wo = wr := ⟨_, rfl⟩
      obtain ⟨x, HX⟩ : ∃ x, Hid (xs[i]? = some x) := ⟨_, List.getElem?_eq_getElem (by rw [HL.out]; exact hlt)⟩
      have hil : (i : Int) < (L : Int) := by omega
      have hi0 : (0 : Int) ≤ (i : Int) := by omega
      go_wp2_with (fail)
      go_loopw [6] (fun u6 wr => ∃ k : Nat, k ≤ i ∧ u6 = .int .i64 (k : Int) ∧ Hid (∀ j y, j < k → xs[j]? = some y → cmpR o y x ≠ 0) ∧ Hid (Keep nob w wr)) (fun u6 _ => ((i : Int) - intOf u6).toNat)
      case atStart => exact ⟨0, Nat.zero_le _, rfl, fun j y h => by omega, HKr⟩
      case round =>
        obtain ⟨k, hk, rfl, HE, HKk⟩ := hrel
        by_cases hlt2 : k < i
        · have hk0 : (0 : Int) ≤ (k : Int) := by omega
          have hkl : (k : Int) < (L : Int) := by omega
          have hki : (k : Int) < (i : Int) := by omega
          obtain ⟨b1, o1, rfl, hy⟩ := (H.out.keep HKk.out (nobIn _)).elem (i := k) (by rw [HL.out]; omega)
          obtain ⟨b', o', e', hx⟩ := (H.out.keep HKk.out (nobIn _)).elem (i := i) (by rw [HL.out]; omega)
          simp only [Option.some.injEq, Addr.mk.injEq, and_true] at e'
          obtain ⟨rfl, rfl⟩ := e'
          obtain ⟨y, HY⟩ : ∃ y, Hid (xs[k]'(by rw [HL.out]; omega) = y) := ⟨_, Lib.hid rfl⟩
          have HX' : xs[i]'(by rw [HL.out]; exact hlt) = x := (List.getElem?_eq_some_iff.1 HX.out).2
          have HYE : Hid (xs[k]? = some y) := by unfold Hid; rw [← HY.out]; exact List.getElem?_eq_getElem _
          rw [HY.out] at hy
          rw [HX'] at hx
          have hy1 := hy 0 _ rfl
          have hy2 := hy 1 _ rfl
          have hx1 := hx 0 _ rfl
          have hx2 := hx 1 _ rfl
          simp only [EI, Nat.add_zero] at hy1 hy2 hx1 hx2
          have HF : Hid (∀ w', Kept wr w' → w'.cell? ⟨b1, o1 + k * 2, none⟩ = some (.int .i64 y.1) ∧ w'.cell? ⟨b1, o1 + k * 2 + 1, none⟩ = some (.int .i64 y.2) ∧ w'.cell? ⟨b1, o1 + i * 2, none⟩ = some (.int .i64 x.1) ∧ w'.cell? ⟨b1, o1 + i * 2 + 1, none⟩ = some (.int .i64 x.2)) :=
            fun w' hk => ⟨hk.cell hy1 (fun h => h), hk.cell hy2 (fun h => h), hk.cell hx1 (fun h => h), hk.cell hx2 (fun h => h)⟩
          have HCM := Lib.hid (cmp_ok o y x)
          obtain ⟨cv, HCV⟩ : ∃ cv, Hid (cmpR o y x = cv) := ⟨_, Lib.hid rfl⟩
          rw [HCV.out] at HCM
          clear hy hx hy1 hy2 hx1 hx2 HX' HY
          go_wp2_with (fail)
          refine wp_region_kept (by kernel_rfl) (by kernel_rfl) (QV.out ?_)
          repeat (first
            | (refine kq_skip (by rfl) (fun K hK => ?_); go_simp; refine hK _ ?_; clear hK K)
            | (refine kq_want (by rfl) (fun K hK => ?_); first
                | (refine BigFrame.quiet_move _ rfl ?_; go_simp; refine hK _ ?_; clear hK K)
                | (refine kq_still ?_ (fun w' hw' => ?_) ?_; rotate_left; (obtain ⟨c1, c2, c3, c4⟩ := HF.out w' hw'; go_simp; first | done | exact rfl); go_simp; refine hK _ ?_; clear hK K)
                | (go_simp; apply Exists.intro; refine ⟨fun w' hw' => ?_, hK _ ?_⟩; (first | (refine (HCM.out w').mono ?_)); rintro e w'' ⟨rfl, hk''⟩; exact ⟨rfl, hw'.then_ hk''⟩; clear hK K)))
          refine ⟨wpQuiet_nil ?_⟩
          intro w2 hk2
          have HK2 : Hid (Keep nob w w2) := HKk.out.then_ hk2
          clear hk2
          by_cases hcv : cv = 0
          · go_wp2_with (fail)
            go_ret
            exact ⟨(i : Int), rfl, .inr ⟨i, rfl, ⟨k, y, x, hlt2, HYE.out, HX.out, by rw [HCV.out, hcv]⟩, HD.out⟩, HK2.out⟩
          · go_wp2_with (fail)
            go_roundw
            case rel =>
              refine ⟨k + 1, hlt2, by go_num, fun j y' hj hy' => ?_, HK2⟩
              by_cases e : j = k
              · subst e
                rw [HYE.out] at hy'
                obtain rfl := Option.some.inj hy'
                rw [HCV.out]
                exact hcv
              · exact HE.out j y' (by omega) hy'
            case measure => simp [intOf]; omega
        · have hki : k = i := by omega
          subst hki
          go_wp2_with (fail)
          go_roundw
          case rel =>
            refine ⟨k + 1, hlt, by go_num, fun j hj hd => ?_, HKk⟩
            by_cases e : j = k
            · subst e
              obtain ⟨i', x', y', h1, h2, h3, h4⟩ := hd
              rw [HX.out] at h3
              obtain rfl := Option.some.inj h3
              exact HE.out i' x' h1 h2 h4
            · exact HD.out j (by omega) hd
          case measure => simp [intOf]; omega
    · have hiL : i = L := by omega
      subst hiL
      go_wp2_with (fail)
      go_ret
      exact ⟨-1, rfl, .inl ⟨rfl, fun j hd => HD.out j (by have := hd.lt; rw [HL.out] at this; exact this) hd⟩, HKr.out⟩
end Go.Proofs.Ytnofckgnnpmiiaa
