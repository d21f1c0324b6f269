/- The reference's Sort: it answers the list in order, in new memory; it keeps all memory that there was. -/
import Derived.Test.YtnofckgnnpmiiaaRs
import Derived.Test.YtnofckgnnpmiiaaPn
import Derived.Test.YtnofckgnnpmiiaaEs
namespace Go.Proofs.Ytnofckgnnpmiiaa
open Go.RowKit Go.Shelf
attribute [local go_sem ↓] Go.wp_at_zero Go.wp_at_succ

set_option maxRecDepth 100000 in
set_option maxHeartbeats 8000000 in
theorem refsort_ok (o : Int) (A : Option Addr) (c L : Nat) (xs : List Item) (w : World) (hL : xs.length = L) (h : Sl EI w A c xs) (hl : L ≤ 1000000000) : Calls Try.prog 13 #[.slice A L c, .int .i64 o] w
    (fun e w' => ∃ A' c' zs, e = .returned (.slice A' L c') ∧ zs.length = L ∧ Sorts (kap o) xs zs ∧ Ow EI w' A' c' zs ∧ (∀ a, A' = some a → w.heap.size ≤ a.block ∧ a.block < w'.heap.size) ∧ Keep nob w w') := by
  have H := Lib.hid h
  have HL := Lib.hid hL
  have hlc := h.le
  rw [hL] at hlc
  have hcc := h.cap
  clear h hL
  have HLL := Lib.hid hl
  have hLb : (L : Int) ≤ 1000000000 := by omega
  obtain ⟨zs, hz, hs, hp1, hp2, hp3⟩ := places_exist (cmpR_keyed o) xs
  have HZ := Lib.hid hz
  have HS := Lib.hid hs
  have HP1 := Lib.hid hp1
  have HP2 := Lib.hid hp2
  have HP3 := Lib.hid hp3
  clear hz hs hp1 hp2 hp3
  go_enter Try.func13, Try.ntmps13
  go_wp2_with (at_make; refine wpList_make_E EI rfl _ _ 22 rfl 27 _ 16 Try.underlying22 info27 L L _ _ rfl rfl rfl rfl (Nat.le_refl _) (by have := HLL.out; omega) (by have := HLL.out; omega) ?_; intro w1 HW1)
  have HO1 : Hid (Ow EI w1 (some ⟨w.heap.size, 0, none⟩) L (List.replicate L ((0, 0) : Item))) := by rw [HW1.out]; exact ow_made EI w 27 _ _ rfl L L (Nat.le_refl _) (by have := HLL.out; omega)
  have HK1 : Hid (Keep nob w w1) := by rw [HW1.out]; exact (Keep.refl _ w).alloc _
  have HZ1 : Hid (w.heap.size < w1.heap.size) := by rw [HW1.out]; unfold Hid; simp
  clear HW1
  obtain ⟨bo, HBO⟩ : ∃ bo, Hid (w.heap.size = bo) := ⟨_, Lib.hid rfl⟩
  rw [HBO.out] at HO1 HZ1 ⊢
  go_loopw [6] (fun u6 wr => ∃ (i : Nat) (ys : List Item), i ≤ L ∧ u6 = .int .i64 (i : Int) ∧ Hid (Ow EI wr (some ⟨bo, 0, none⟩) L ys) ∧ Hid (ys.length = L) ∧ Hid (∀ j x, j < i → xs[j]? = some x → ys[placeOf (cmpR o) xs x j xs.length]? = some x) ∧ Hid (Keep nob w wr) ∧ Hid (bo < wr.heap.size)) (fun u6 _ => ((L : Int) - intOf u6).toNat)
  case atStart => exact ⟨0, _, Nat.zero_le _, rfl, HO1, by simp [Hid], fun j x h => by omega, HK1, HZ1⟩
  case round =>
    obtain ⟨i, ys, hi, rfl, HO, HYL, HD, HKr, HBr⟩ := hrel
    by_cases hlt : i < L
    · obtain ⟨wo, rfl⟩ : ∃ wo : World, wo = wr := ⟨_, rfl⟩
      obtain ⟨x, HX⟩ : ∃ x, Hid (xs[i]? = some x) := ⟨_, List.getElem?_eq_getElem (by rw [HL.out]; exact hlt)⟩
      have hil : (i : Int) < (L : Int) := by omega
      have hi0 : (0 : Int) ≤ (i : Int) := by omega
      have HX' : Hid (xs[i]'(by rw [HL.out]; exact hlt) = x) := (List.getElem?_eq_some_iff.1 HX.out).2
      go_wp2_with (fail)
      go_loopw [7, 8] (fun u7 u8 wr => ∃ k : Nat, k ≤ L ∧ u8 = .int .i64 (k : Int) ∧ u7 = .int .i64 ((placeOf (cmpR o) xs x i k : Nat) : Int) ∧ Hid (Keep nob wo wr)) (fun _ u8 _ => ((L : Int) - intOf u8).toNat)
      case atStart => exact ⟨0, Nat.zero_le _, rfl, rfl, Keep.refl _ _⟩
      case round =>
        obtain ⟨k, hk, rfl, rfl, HKk⟩ := hrel
        by_cases hlt2 : k < L
        · have hk0 : (0 : Int) ≤ (k : Int) := by omega
          have hkl : (k : Int) < (L : Int) := by omega
          obtain ⟨b1, o1, rfl, hy⟩ := ((H.out.keep HKr.out (nobIn _)).keep HKk.out (nobIn _)).elem (i := k) (by rw [HL.out]; omega)
          obtain ⟨b', o', e', hx⟩ := ((H.out.keep HKr.out (nobIn _)).keep HKk.out (nobIn _)).elem (i := i) (by rw [HL.out]; omega)
          simp only [Option.some.injEq, Addr.mk.injEq, and_true] at e'
          obtain ⟨rfl, rfl⟩ := e'
          obtain ⟨y, HY⟩ : ∃ y, Hid (xs[k]'(by rw [HL.out]; omega) = y) := ⟨_, Lib.hid rfl⟩
          have HYE : Hid (xs[k]? = some y) := by unfold Hid; rw [← HY.out]; exact List.getElem?_eq_getElem _
          rw [HY.out] at hy
          rw [HX'.out] at hx
          have hy1 := hy 0 _ rfl
          have hy2 := hy 1 _ rfl
          have hx1 := hx 0 _ rfl
          have hx2 := hx 1 _ rfl
          simp only [EI, Nat.add_zero] at hy1 hy2 hx1 hx2
          have HF : Hid (∀ w', Kept wr w' → w'.cell? ⟨b1, o1 + k * 2, none⟩ = some (.int .i64 y.1) ∧ w'.cell? ⟨b1, o1 + k * 2 + 1, none⟩ = some (.int .i64 y.2) ∧ w'.cell? ⟨b1, o1 + i * 2, none⟩ = some (.int .i64 x.1) ∧ w'.cell? ⟨b1, o1 + i * 2 + 1, none⟩ = some (.int .i64 x.2)) :=
            fun w' hk => ⟨hk.cell hy1 (fun h => h), hk.cell hy2 (fun h => h), hk.cell hx1 (fun h => h), hk.cell hx2 (fun h => h)⟩
          have HCM := Lib.hid (cmp_ok o y x)
          have HPS := Lib.hid (placeOf_succ (cmpR o) xs x y i k HYE.out)
          have HPL := Lib.hid (placeOf_le (cmpR o) xs x i k)
          generalize cmpR o y x = cv at HCM HPS
          generalize placeOf (cmpR o) xs x i k = cnt at HPS HPL ⊢
          have hcnt : (cnt : Int) ≤ 1000000000 := by have := HPL.out; omega
          clear hy hx hy1 hy2 hx1 hx2 HY
          go_wp2_with (fail)
          refine wp_region_kept (by kernel_rfl) (by kernel_rfl) (QV.out ?_)
          repeat (first
            | (refine kq_skip (by rfl) (fun K hK => ?_); go_simp; refine hK _ ?_; clear hK K)
            | (refine kq_want (by rfl) (fun K hK => ?_); first
                | (refine BigFrame.quiet_move _ rfl ?_; go_simp; refine hK _ ?_; clear hK K)
                | (refine kq_still ?_ (fun w' hw' => ?_) ?_; rotate_left; (obtain ⟨c1, c2, c3, c4⟩ := HF.out w' hw'; go_simp; first | done | exact rfl); go_simp; refine hK _ ?_; clear hK K)
                | (go_simp; apply Exists.intro; refine ⟨fun w' hw' => ?_, hK _ ?_⟩; (first | (refine (HCM.out w').mono ?_)); rintro e w'' ⟨rfl, hk''⟩; exact ⟨rfl, hw'.then_ hk''⟩; clear hK K)))
          refine ⟨wpQuiet_nil ?_⟩
          intro w2 hk2
          have HK2 : Hid (Keep nob wo w2) := HKk.out.then_ hk2
          clear hk2
          by_cases hc1 : cv < 0
          · go_wp2_with (fail)
            go_roundw
            case rel => exact ⟨k + 1, hlt2, by go_num, by rw [HPS.out, if_pos (.inl hc1)]; go_num, HK2⟩
            case measure => simp [intOf]; omega
          · by_cases hc2 : cv = 0
            · by_cases hc3 : k < i
              · have hc4 : decide ((k : Int) < (i : Int)) = true := decide_eq_true (by omega)
                go_wp2_with (fail)
                go_roundw
                case rel => exact ⟨k + 1, hlt2, by go_num, by rw [HPS.out, if_pos (.inr ⟨hc2, hc3⟩)]; go_num, HK2⟩
                case measure => simp [intOf]; omega
              · have hc4 : decide ((k : Int) < (i : Int)) = false := decide_eq_false (by omega)
                go_wp2_with (fail)
                go_roundw
                case rel => exact ⟨k + 1, hlt2, by go_num, by rw [HPS.out, if_neg (by omega)]; go_num, HK2⟩
                case measure => simp [intOf]; omega
            · go_wp2_with (fail)
              go_roundw
              case rel => exact ⟨k + 1, hlt2, by go_num, by rw [HPS.out, if_neg (by omega)]; go_num, HK2⟩
              case measure => simp [intOf]; omega
        · have hkL : k = L := by omega
          subst hkL
          obtain ⟨b1, o1, rfl, hx⟩ := ((H.out.keep HKr.out (nobIn _)).keep HKk.out (nobIn _)).elem (i := i) (by rw [HL.out]; omega)
          rw [HX'.out] at hx
          have hx1 := hx 0 _ rfl
          have hx2 := hx 1 _ rfl
          simp only [EI, Nat.add_zero] at hx1 hx2
          have HPE := Lib.hid (HP1.out i x HX.out)
          have HPI : Hid (∀ j y, xs[j]? = some y → placeOf (cmpR o) xs y j k = placeOf (cmpR o) xs x i k → j = i) := fun j y hy he => by
            have := HP2.out j i y x hy HX.out
            rw [HL.out] at this
            exact this he
          rw [HL.out] at HPE
          obtain ⟨n, HN⟩ : ∃ n, Hid (placeOf (cmpR o) xs x i k = n) := ⟨_, Lib.hid rfl⟩
          rw [HN.out] at HPE HPI ⊢
          have hnl : n < k := by have := (List.getElem?_eq_some_iff.1 HPE.out).1; rw [HZ.out, HL.out] at this; exact this
          have hn0 : (0 : Int) ≤ (n : Int) := by omega
          have hn1 : (n : Int) < (k : Int) := by omega
          have HOk : Hid (Ow EI wr (some ⟨bo, 0, none⟩) k ys) := HO.out.keep HKk.out (nobIn _)
          have ht : wr.there bo (n * 2) 2 := by
            obtain ⟨b', o', e', hth⟩ := HOk.out.room (by omega)
            simp only [Option.some.injEq, Addr.mk.injEq, and_true] at e'
            obtain ⟨rfl, rfl⟩ := e'
            exact there_sub hth (by omega) (by simp only [EI]; omega)
          go_wp2_with (refine wpList_store_mid rfl 27 _ _ rfl bo (n * 2) #[.int .i64 x.1, .int .i64 x.2] rfl rfl ht (by kernel_rfl) (all_oneCell_toArray (EI.one x)) ?_; simp only [Act.put])
          have HPT := HOk.out.put (i := n) (by rw [HYL.out]; exact hnl) x
          rw [Nat.zero_add] at HPT
          obtain ⟨w9, HW9⟩ : ∃ w9, Hid (w9 = wr.setCells bo (n * 2) (EI.cells x)) := ⟨_, Lib.hid rfl⟩
          have HO9 : Hid (Ow EI w9 (some ⟨bo, 0, none⟩) k (ys.set n x)) := by rw [HW9.out]; exact HPT
          have HK9 : Hid (Keep nob w w9) := by
            rw [HW9.out]
            refine ((HKr.out.then_ HKk.out).trans ((Keep.refl (fun b => b = bo) wr).setCells _ _ (fun _ => rfl)) (fun b h1 h2 => ?_))
            have h3 : b = bo := h2
            have := HBO.out
            omega
          have HB9 : Hid (bo < w9.heap.size) := by
            have h1 : Keep (fun b => b = bo) wr w9 := by rw [HW9.out]; exact (Keep.refl (fun b => b = bo) wr).setCells _ _ (fun _ => rfl)
            have h2 := h1.size
            have h3 := HKk.out.size
            have h4 := HBr.out
            unfold Hid
            omega
          have HE9 := HW9.out.symm
          simp only [EI] at HE9
          rw [HE9]
          clear HE9 HPT HW9
          go_wp2_with (fail)
          go_roundw
          case rel =>
            refine ⟨i + 1, ys.set n x, by omega, by go_num, HO9, by unfold Hid; rw [List.length_set]; exact HYL.out, fun j y hj hy => ?_, HK9, HB9⟩
            by_cases e : j = i
            · subst e
              rw [HX.out] at hy
              obtain rfl := Option.some.inj hy
              rw [HL.out, HN.out, List.getElem?_set_self (by rw [HYL.out]; exact hnl)]
            · rw [List.getElem?_set_ne (fun h => e (HPI.out j y hy (by rw [← HL.out]; exact h.symm)))]
              exact HD.out j y (by omega) hy
          case measure => simp [intOf]; omega
    · have hiL : i = L := by omega
      subst hiL
      go_wp2_with (fail)
      go_ret
      have e : ys = zs := laid_sorted (c := cmpR o) (by rw [HYL.out, HL.out]) HZ.out (fun j x hx => HD.out j x (by have := (List.getElem?_eq_some_iff.1 hx).1; rw [HL.out] at this; exact this) hx) HP1.out HP3.out
      subst e
      exact ⟨some ⟨bo, 0, none⟩, i, ys, rfl, HYL.out, HS.out, HO.out, fun a ha => by obtain rfl := Option.some.inj ha; exact ⟨Nat.le_of_eq HBO.out, HBr.out⟩, HKr.out⟩
end Go.Proofs.Ytnofckgnnpmiiaa
