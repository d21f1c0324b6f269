/- OrderSorts answers true, and keeps all memory that there was. -/
import Derived.Test.YtnofckgnnpmiiaaFx
import Derived.Test.YtnofckgnnpmiiaaFd
import Derived.Deep.Cut
namespace Go.Proofs.Ytnofckgnnpmiiaa
open Go.RowKit Go.Shelf
attribute [local go_sem ↓] Go.wp_at_zero Go.wp_at_succ

theorem two_sorted : stepsL (byC 0) [((2, 0) : Item), (1, 0)] 1 = [(1, 0), (2, 0)] := by kernel_rfl
theorem sort_two (A : Option Addr) (w : World) (h : Sl EI w A 2 [((2, 0) : Item), (1, 0)]) : Calls Try.prog 14 #[.slice A 2 2, .func (.func 16) #[] #[]] w
    (fun e w' => ∃ A' c', e = .returned (.slice A' 2 c') ∧ Ow EI w' A' c' [((1, 0) : Item), (2, 0)] ∧ (∀ a, A' = some a → w.heap.size ≤ a.block) ∧ Keep nob w w') := by
  refine (sort_any by0_ok A 2 0 [((2, 0) : Item), (1, 0)] w (Nat.zero_le _) h (by decide) trivial).mono ?_
  rintro e w' ⟨A', c', p, rfl, ho, h1, h2, hf, hk, -⟩
  have hp : p = 1 := by
    rcases p with _ | _ | p
    · simp at h1
    · rfl
    · rcases h2 with h | h
      · omega
      · rw [show p + 1 + 1 - 1 = p + 1 by omega, Nat.pow_succ] at h
        have := Nat.one_le_two_pow (n := p)
        simp at h
        omega
  subst hp
  rw [two_sorted] at ho
  exact ⟨A', c', rfl, ho, hf, hk⟩

set_option maxRecDepth 100000 in
set_option maxHeartbeats 16000000 in
theorem sorts_ok (A : Option Addr) (c : Nat) (xs : List Item) (o : Int) (w : World) (h : Sl EI w A c xs) (hl : xs.length ≤ 100000000) :
    Calls Try.prog 3 #[.slice A xs.length c, .int .i64 o] w (fun e w' => e = .returned (.bool true) ∧ Keep nob w w') := by
  have H := Lib.hid h
  have hlc := h.le
  have hcc := h.cap
  obtain ⟨L, hL⟩ : ∃ L, Hid (xs.length = L) := ⟨_, Lib.hid rfl⟩
  rw [hL.out] at hlc ⊢
  have HLL : Hid (L ≤ 1000000000) := by unfold Hid; rw [← hL.out]; omega
  have hLb : (L : Int) ≤ 1000000000 := by have := HLL.out; omega
  clear h hl
  have HF := Lib.hid (by_ok o)
  have HST : Hid (∀ (b : Nat) (ys : List Item) (w' : World), ys.length = L → Ow EI w' (some ⟨b, 0, none⟩) (L + 4) (ys ++ mks) → Calls Try.prog 14 #[.slice (some ⟨b, 0, none⟩) L (L + 4), .func (.func (byF o)) #[] #[]] w'
      (fun e w'' => ∃ A' c' zs, e = .returned (.slice A' L c') ∧ zs.length = L ∧ Sorts (kap o) ys zs ∧ Ow EI w'' A' c' zs ∧ (∀ a, A' = some a → w'.heap.size ≤ a.block) ∧ Keep nob w' w'')) :=
    fun b ys w' hy ho => sort_by o _ (L + 4) L ys w' hy ho.front.sl HLL.out
  go_enter Try.func3, Try.ntmps3
  go_upto_region 3 with (first
    | (go_at_call 12; go_must (refine (lend_ok A c L xs w hL.out H.out HLL.out).mono ?_); rintro e w1 ⟨b1, rfl, hb, hb', ho, hk⟩; have HO1 := Lib.hid ho; have HK1 := Lib.hid hk; have HB1 := Lib.hid (And.intro hb hb'); clear ho hk hb hb')
    | (go_at_call 13; go_must (refine (refsort_ok o A c L xs w1 hL.out (H.out.keep HK1.out (nobIn _)) HLL.out).mono ?_); rintro e w2 ⟨Aw, cw, zs, rfl, hz, hs, ho, hf, hk⟩; have HZ := Lib.hid hz; have HS := Lib.hid hs; have HW2 := Lib.hid ho; have HFw := Lib.hid (fun a ha => (hf a ha).1); have HK2 := Lib.hid hk; clear hz hs ho hf hk))
  go_upto_region 4 with (first
    | (go_at_call 15; go_must (refine (HF.out _).mono ?_); rintro e w' ⟨rfl, hw⟩; replace hw := hw.symm; subst hw)
    | (go_at_call 14; go_must (refine (HST.out b1 xs w2 hL.out (HO1.out.keep HK2.out (nobIn _))).mono ?_); rintro e w3 ⟨Aa, ca, za, rfl, hz, hs, ho, hf, hk⟩; have HSa := Lib.hid (HS.out.unique hs); have HWa := Lib.hid ho; have HFa := Lib.hid hf; have HK3 := Lib.hid hk; clear hz hs ho hf hk))
  go_upto_region 5 with (first
    | (go_at_call 15; go_must (refine (HF.out _).mono ?_); rintro e w' ⟨rfl, hw⟩; replace hw := hw.symm; subst hw)
    | (go_at_call 14; go_must (refine (HST.out b1 xs w3 hL.out ((HO1.out.keep HK2.out (nobIn _)).keep HK3.out (nobIn _))).mono ?_); rintro e w4 ⟨Ab, cb, zb, rfl, hz, hs, ho, hf, hk⟩; have HSb := Lib.hid (HS.out.unique hs); have HWb := Lib.hid ho; have HFb := Lib.hid hf; have HK4 := Lib.hid hk; clear hz hs ho hf hk))
  obtain rfl := HSa.out
  obtain rfl := HSb.out
  obtain ⟨w5, HW5⟩ : ∃ w5, Hid (w4.alloc (.cells #[.int .i64 2, .int .i64 0, .int .i64 1, .int .i64 0] 27) = w5) := ⟨_, Lib.hid rfl⟩
  have HK5 : Hid (Keep nob w4 w5) := by rw [← HW5.out]; exact (Keep.refl _ w4).alloc _
  have HS5 : Hid (Sl EI w5 (some ⟨w4.heap.size, 0, none⟩) 2 [((2, 0) : Item), (1, 0)]) := by
    rw [← HW5.out]
    exact ⟨by decide, by decide, fun _ => ⟨_, _, rfl, range_alloc_new w4 _ _ _ (fun j v hv => by simpa [El.flat, EI] using hv)⟩⟩
  go_upto_region 6 with (go_at_call 14; rw [HW5.out]; go_must (refine (sort_two _ w5 HS5.out).mono ?_); rintro e w6 ⟨Ac, cc, rfl, ho, hf, hk⟩; have HWc := Lib.hid ho; have HFc := Lib.hid hf; have HK6 := Lib.hid hk; clear ho hf hk)
  have HKA6 : Hid (Keep nob w3 w6) := (HK4.out.then_ HK5.out).then_ HK6.out
  have HKB6 : Hid (Keep nob w4 w6) := HK5.out.then_ HK6.out
  have HKT6 : Hid (Keep nob w1 w6) := (HK2.out.then_ HK3.out).then_ HKA6.out
  have HKW6 : Hid (Keep nob w2 w6) := HK3.out.then_ HKA6.out
  have HC1 : Hid (∀ w', Keep nob w6 w' → Calls Try.prog 17 #[.slice Aa L ca, .slice Aw L cw] w' (fun e w'' => e = .returned (.bool true) ∧ Keep nob w' w'')) := fun w' hk =>
    same_ok Aa Aw ca cw L zs w' HZ.out ((HWa.out.sl.keep HKA6.out (nobIn _)).keep hk (nobIn _)) ((HW2.out.sl.keep HKW6.out (nobIn _)).keep hk (nobIn _)) HLL.out
  have HC2 : Hid (∀ w', Keep nob w6 w' → Calls Try.prog 17 #[.slice Ab L cb, .slice Aw L cw] w' (fun e w'' => e = .returned (.bool true) ∧ Keep nob w' w'')) := fun w' hk =>
    same_ok Ab Aw cb cw L zs w' HZ.out ((HWb.out.sl.keep HKB6.out (nobIn _)).keep hk (nobIn _)) ((HW2.out.sl.keep HKW6.out (nobIn _)).keep hk (nobIn _)) HLL.out
  have HC3 : Hid (∀ w', Keep nob w6 w' → Calls Try.prog 17 #[.slice Ac 2 cc, .slice (some ⟨w'.heap.size, 0, none⟩) 2 2] (w'.alloc (.cells #[.int .i64 1, .int .i64 0, .int .i64 2, .int .i64 0] 27)) (fun e w'' => e = .returned (.bool true) ∧ Keep nob w' w'')) := fun w' hk => by
    refine (same_ok Ac _ cc 2 2 [((1, 0) : Item), (2, 0)] _ rfl ((HWc.out.sl.keep hk (nobIn _)).keep ((Keep.refl nob w').alloc _) (nobIn _)) ⟨by decide, by decide, fun _ => ⟨_, _, rfl, range_alloc_new w' _ _ _ (fun j v hv => by simpa [El.flat, EI] using hv)⟩⟩ (by decide)).mono ?_
    rintro e w'' ⟨h1, h2⟩
    exact ⟨h1, ((Keep.refl nob w').alloc _).then_ h2⟩
  have HC4 : Hid (∀ w', Keep nob w6 w' → Calls Try.prog 18 #[.slice (some ⟨b1, 0, none⟩) L (L + 4), .slice A L c] w' (fun e w'' => e = .returned (.bool true) ∧ Keep nob w' w'')) := fun w' hk =>
    left_ok A b1 c L xs w' hL.out ((HO1.out.keep HKT6.out (nobIn _)).keep hk (nobIn _)) (H.out.keep ((HK1.out.then_ HKT6.out).then_ hk) (nobIn _)) HLL.out
  have HC5 := Lib.hid (sort_none (some ⟨b1, 0, none⟩) L (L + 4))
  have HC : Hid (Keep nob w6 w6) := Keep.refl _ _
  have HC6 : Hid (∀ w', Keep nob w6 w' → Calls Try.prog 14 #[.slice (some ⟨b1, 0, none⟩) L (L + 4), .func (.func (byF o)) #[] #[]] w'
      (fun e w'' => ∃ A' c' zs, e = .returned (.slice A' L c') ∧ zs.length = L ∧ Sorts (kap o) xs zs ∧ Ow EI w'' A' c' zs ∧ (∀ a, A' = some a → w'.heap.size ≤ a.block) ∧ Keep nob w' w'')) := fun w' hk =>
    HST.out b1 xs w' hL.out ((HO1.out.keep HKT6.out (nobIn _)).keep hk (nobIn _))
  have tok1 := Lib.hid True.intro
  have tok2 := Lib.hid True.intro
  have tok3 := Lib.hid True.intro
  go_upto_region 8 with (first
    | (go_at_call 17; have _t := tok1; go_must (refine (HC1.out _ HC.out).mono ?_); rintro e w' ⟨rfl, hk⟩; replace HC := Lib.hid (HC.out.then_ hk); clear hk _t tok1)
    | (go_at_call 17; have _t := tok2; go_must (refine (HC2.out _ HC.out).mono ?_); rintro e w' ⟨rfl, hk⟩; replace HC := Lib.hid (HC.out.then_ hk); clear hk _t tok2)
    | (go_at_call 17; have _t := tok3; go_must (refine (HC3.out _ HC.out).mono ?_); rintro e w' ⟨rfl, hk⟩; replace HC := Lib.hid (HC.out.then_ hk); clear hk _t tok3)
    | (go_at_call 18; go_must (refine (HC4.out _ HC.out).mono ?_); rintro e w' ⟨rfl, hk⟩; replace HC := Lib.hid (HC.out.then_ hk); clear hk)
    | (go_at_call 14; go_must (refine (HC5.out _).mono ?_); rintro e w' ⟨rfl, hk⟩; replace HC := Lib.hid (HC.out.then_ hk); clear hk))
  clear HC1 HC2 HC3 HC4 HC5 HST HS5 HW5
  go_wp2_with (first
    | (go_at_call 15; go_must (refine (HF.out _).mono ?_); rintro e w' ⟨rfl, hw⟩; replace hw := hw.symm; subst hw)
    | (go_at_call 14; go_must (refine (HC6.out _ HC.out).mono ?_); rintro e w8 ⟨Ad, cd, zd, rfl, hz, hs, ho, hf, hk⟩; have HSd := Lib.hid (HS.out.unique hs); have HWd := Lib.hid ho; have HFd := Lib.hid (fun a ha => Nat.le_trans HC.out.size (hf a ha)); have HK8 := Lib.hid (HC.out.then_ hk); clear hz hs ho hf hk))
  obtain rfl := HSd.out
  have HT8 : Hid (Ow EI w8 (some ⟨b1, 0, none⟩) (L + 4) (xs ++ mks)) := (HO1.out.keep HKT6.out (nobIn _)).keep HK8.out (nobIn _)
  have HB8 : Hid (b1 < w8.heap.size) := Nat.lt_of_lt_of_le HB1.out.2 (Nat.le_trans HKT6.out.size HK8.out.size)
  clear HC6 HC HSd HSa HSb
  go_loopw [11, 12] (fun u11 u12 wr => ∃ (i : Nat) (ys : List Item), i ≤ L / 2 ∧ u11 = .int .i64 (i : Int) ∧ Hid (ys.length = L) ∧ Hid (Ow EI wr (some ⟨b1, 0, none⟩) (L + 4) (ys ++ mks)) ∧ Hid (Keep (fun k => k = b1) w8 wr)) (fun u11 _ _ => ((L / 2 : Nat) - intOf u11).toNat)
  case atStart => exact ⟨0, xs, Nat.zero_le _, rfl, hL, HT8, Keep.refl _ _⟩
  case round =>
    obtain ⟨i, ys, hi, rfl, HYL, HO, HKr⟩ := hrel
    have hdv : (L : Int) / 2 = ((L / 2 : Nat) : Int) := by omega
    by_cases hlt : i < L / 2
    · have hi1 : (i : Int) < ((L / 2 : Nat) : Int) := by omega
      obtain ⟨k, HKV⟩ : ∃ k, Hid (k = L - 1 - i) := ⟨_, Lib.hid rfl⟩
      have hkL : k < L := by have := HKV.out; omega
      have hki : (L : Int) - 1 - (i : Int) = (k : Int) := by have := HKV.out; omega
      have hiL : i < L := by omega
      obtain ⟨h2, HH2⟩ : ∃ h2, Hid (L / 2 = h2) := ⟨_, Lib.hid rfl⟩
      rw [HH2.out] at hdv hi1 hlt hi ⊢
      go_wp2_with (fail)
      obtain ⟨b', o', e', hyi⟩ := HO.out.front.sl.elem (i := i) (by rw [HYL.out]; exact hiL)
      simp only [Option.some.injEq, Addr.mk.injEq, and_true] at e'
      obtain ⟨rfl, rfl⟩ := e'
      obtain ⟨b', o', e', hyk⟩ := HO.out.front.sl.elem (i := k) (by rw [HYL.out]; exact hkL)
      simp only [Option.some.injEq, Addr.mk.injEq, and_true] at e'
      obtain ⟨rfl, rfl⟩ := e'
      obtain ⟨yi, HYI⟩ : ∃ y, Hid (ys[i]'(by rw [HYL.out]; exact hiL) = y) := ⟨_, Lib.hid rfl⟩
      obtain ⟨yk, HYK⟩ : ∃ y, Hid (ys[k]'(by rw [HYL.out]; exact hkL) = y) := ⟨_, Lib.hid rfl⟩
      rw [HYI.out] at hyi
      rw [HYK.out] at hyk
      have HOd : Hid (Ow EI wr.drew (some ⟨b1, 0, none⟩) (L + 4) (ys ++ mks)) := HO.out.keep ((Keep.refl nob wr).drew) (nobIn _)
      have HKd : Hid (Keep (fun k => k = b1) w8 wr.drew) := HKr.out.drew
      have ci1 := ((Keep.refl nob wr).drew).cell (hyi 0 _ rfl) (fun h => h)
      have ci2 := ((Keep.refl nob wr).drew).cell (hyi 1 _ rfl) (fun h => h)
      have ck1 := ((Keep.refl nob wr).drew).cell (hyk 0 _ rfl) (fun h => h)
      have ck2 := ((Keep.refl nob wr).drew).cell (hyk 1 _ rfl) (fun h => h)
      simp only [EI, Nat.add_zero, Nat.zero_add] at ci1 ci2 ck1 ck2
      clear hyi hyk HYI HYK HO HKr
      refine wp_region_any (by kernel_rfl) ?_
      change wpAny Try.prog .any _ _ 16 _ _ wr.drew
      generalize wr.drew = wd at *
      have hk0 : (0 : Int) ≤ (k : Int) := by omega
      have hk1 : (k : Int) < (L : Int) := by omega
      have hi0 : (0 : Int) ≤ (i : Int) := by omega
      have hiI : (i : Int) < (L : Int) := by omega
      refine wpAny_take (i := 2) (v := .slice (some ⟨b1, 0, none⟩) L (L + 4)) rfl (by kernel_rfl) (by kernel_rfl) (by kernel_rfl) (fun _ _ _ h => h) (.inl ⟨by rfl, fun w => by go_simp⟩) ?_
      simp only [Act.put, List.getElem_toArray, List.getElem_cons_succ, List.getElem_cons_zero]
      refine wpAny_take (i := 3) (v := .int .i64 (k : Int)) rfl (by kernel_rfl) (by kernel_rfl) (by kernel_rfl) (fun _ _ _ h => h) (.inl ⟨by rfl, fun w => by go_simp⟩) ?_
      simp only [Act.put, List.getElem_toArray, List.getElem_cons_succ, List.getElem_cons_zero]
      refine wpAny_take (i := 0) (v := .slice (some ⟨b1, 0, none⟩) L (L + 4)) rfl (by kernel_rfl) (by kernel_rfl) (by kernel_rfl) (fun _ _ _ h => h) (.inl ⟨by rfl, fun w => by go_simp⟩) ?_
      simp only [Act.put, List.getElem_toArray, List.getElem_cons_zero]
      refine wpAny_take (i := 1) (v := .int .i64 (i : Int)) rfl (by kernel_rfl) (by kernel_rfl) (by kernel_rfl) (fun _ _ _ h => h) (.inl ⟨by rfl, fun w => by go_simp⟩) ?_
      simp only [Act.put, List.getElem_toArray, List.getElem_cons_succ, List.getElem_cons_zero]
      refine wpAny_take (i := 4) (v := .slice (some ⟨b1, 0, none⟩) L (L + 4)) rfl (by kernel_rfl) (by kernel_rfl) (by kernel_rfl) (fun _ _ _ h => h) (.inl ⟨by rfl, fun w => by go_simp⟩) ?_
      simp only [Act.put, List.getElem_toArray, List.getElem_cons_succ, List.getElem_cons_zero]
      refine wpAny_take (i := 5) (v := .int .i64 (k : Int)) rfl (by kernel_rfl) (by kernel_rfl) (by kernel_rfl) (fun _ _ _ h => h) (.inl ⟨by rfl, fun w => by go_simp⟩) ?_
      simp only [Act.put, List.getElem_toArray, List.getElem_cons_succ, List.getElem_cons_zero]
      refine wpAny_take (i := 6) (v := .pointer (some ⟨b1, k * 2, none⟩)) rfl (by kernel_rfl) (by kernel_rfl) (by kernel_rfl) (fun _ _ _ h => h) (.inl ⟨by rfl, fun w => by go_simp⟩) ?_
      simp only [Act.put, List.getElem_toArray, List.getElem_cons_succ, List.getElem_cons_zero]
      refine wpAny_take (i := 8) (v := .slice (some ⟨b1, 0, none⟩) L (L + 4)) rfl (by kernel_rfl) (by kernel_rfl) (by kernel_rfl) (fun _ _ _ h => h) (.inl ⟨by rfl, fun w => by go_simp⟩) ?_
      simp only [Act.put, List.getElem_toArray, List.getElem_cons_succ, List.getElem_cons_zero]
      refine wpAny_take (i := 9) (v := .int .i64 (i : Int)) rfl (by kernel_rfl) (by kernel_rfl) (by kernel_rfl) (fun _ _ _ h => h) (.inl ⟨by rfl, fun w => by go_simp⟩) ?_
      simp only [Act.put, List.getElem_toArray, List.getElem_cons_succ, List.getElem_cons_zero]
      refine wpAny_take (i := 10) (v := .pointer (some ⟨b1, i * 2, none⟩)) rfl (by kernel_rfl) (by kernel_rfl) (by kernel_rfl) (fun _ _ _ h => h) (.inl ⟨by rfl, fun w => by go_simp⟩) ?_
      simp only [Act.put, List.getElem_toArray, List.getElem_cons_succ, List.getElem_cons_zero]
      refine wpAny_all (rs := [7, 11]) (by kernel_rfl) (by simp) (fun jj hjj => ?_)
      have HPT := (HOd.out.put (i := i) (by rw [List.length_append, HYL.out]; omega) yk).put (i := k) (by rw [List.length_set, List.length_append, HYL.out]; omega) yi
      rw [Nat.zero_add, Nat.zero_add, List.set_append_left _ _ (by rw [HYL.out]; exact hiL), List.set_append_left _ _ (by rw [List.length_set, HYL.out]; exact hkL)] at HPT
      obtain ⟨b', o', e', hth⟩ := HOd.out.room (by omega)
      simp only [Option.some.injEq, Addr.mk.injEq, and_true] at e'
      obtain ⟨rfl, rfl⟩ := e'
      have ht1 : wd.there b1 (i * 2) 2 := there_sub hth (by omega) (by simp only [EI]; omega)
      have ht2 : (wd.setCells b1 (i * 2) [.int .i64 yk.1, .int .i64 yk.2]).there b1 (k * 2) 2 := World.there_setCells (there_sub hth (by omega) (by simp only [EI]; omega)) _ _ _
      obtain ⟨w9, HW9⟩ : ∃ w9, Hid (w9 = (wd.setCells b1 (i * 2) [.int .i64 yk.1, .int .i64 yk.2]).setCells b1 (k * 2) [.int .i64 yi.1, .int .i64 yi.2]) := ⟨_, Lib.hid rfl⟩
      have HO9 : Hid (Ow EI w9 (some ⟨b1, 0, none⟩) (L + 4) ((ys.set i yk).set k yi ++ mks)) := by rw [HW9.out]; exact HPT
      have HK9 : Hid (Keep (fun k => k = b1) w8 w9) := by
        rw [HW9.out]
        exact Keep.setCells _ _ (Keep.setCells _ _ HKd.out (fun _ => rfl)) (fun _ => rfl)
      have HYL9 : Hid (((ys.set i yk).set k yi).length = L) := by unfold Hid; rw [List.length_set, List.length_set]; exact HYL.out
      clear HPT hth HOd HKd
      simp only [List.mem_cons, List.not_mem_nil, or_false] at hjj
      rcases hjj with rfl | rfl
      · refine wpOp_here (v := .agg #[.int .i64 yk.1, .int .i64 yk.2]) rfl (by rfl) (by go_simp) ?_
        simp only [Act.put, List.getElem_toArray, List.getElem_cons_succ, List.getElem_cons_zero]
        refine wpAny_all (rs := [11]) (by kernel_rfl) (by simp) (fun jj hjj => ?_)
        simp only [List.mem_cons, List.not_mem_nil, or_false] at hjj
        subst hjj
        refine wpOp_here (v := .agg #[.int .i64 yi.1, .int .i64 yi.2]) rfl (by rfl) (by go_simp) ?_
        simp only [Act.put, List.getElem_toArray, List.getElem_cons_succ, List.getElem_cons_zero]
        refine wpAny_seq 12 4 rfl (by kernel_rfl) ?_
        simp only [List.drop_succ_cons, List.drop_zero]
        (refine wpList_step (fun K hK => ?_); go_simp; refine hK _ _ ?_; clear hK K)
        refine wpList_store_mid rfl 27 _ _ rfl b1 (i * 2) #[.int .i64 yk.1, .int .i64 yk.2] rfl rfl ht1 (by kernel_rfl) (all_oneCell_toArray (EI.one yk)) ?_
        simp only [Act.put]
        (refine wpList_step (fun K hK => ?_); go_simp; refine hK _ _ ?_; clear hK K)
        refine wpList_store_mid rfl 27 _ _ rfl b1 (k * 2) #[.int .i64 yi.1, .int .i64 yi.2] rfl rfl ht2 (by kernel_rfl) (all_oneCell_toArray (EI.one yi)) ?_
        simp only [Act.put]
        refine wpList_nil ?_
        rw [show ((wd.setCells b1 (i * 2) (#[Value.int .i64 yk.1, .int .i64 yk.2] : Array Value).toList).setCells b1 (k * 2) (#[Value.int .i64 yi.1, .int .i64 yi.2] : Array Value).toList) = w9 from HW9.out.symm]
        clear ht1 ht2 ci1 ci2 ck1 ck2
        go_wp2_with (fail)
        go_roundw
        case rel => exact ⟨i + 1, _, by have := HH2.out; omega, by go_num, HYL9, HO9, HK9⟩
        case measure => simp [intOf]; omega
      · refine wpOp_here (v := .agg #[.int .i64 yi.1, .int .i64 yi.2]) rfl (by rfl) (by go_simp) ?_
        simp only [Act.put, List.getElem_toArray, List.getElem_cons_succ, List.getElem_cons_zero]
        refine wpAny_all (rs := [7]) (by kernel_rfl) (by simp) (fun jj hjj => ?_)
        simp only [List.mem_cons, List.not_mem_nil, or_false] at hjj
        subst hjj
        refine wpOp_here (v := .agg #[.int .i64 yk.1, .int .i64 yk.2]) rfl (by rfl) (by go_simp) ?_
        simp only [Act.put, List.getElem_toArray, List.getElem_cons_succ, List.getElem_cons_zero]
        refine wpAny_seq 12 4 rfl (by kernel_rfl) ?_
        simp only [List.drop_succ_cons, List.drop_zero]
        (refine wpList_step (fun K hK => ?_); go_simp; refine hK _ _ ?_; clear hK K)
        refine wpList_store_mid rfl 27 _ _ rfl b1 (i * 2) #[.int .i64 yk.1, .int .i64 yk.2] rfl rfl ht1 (by kernel_rfl) (all_oneCell_toArray (EI.one yk)) ?_
        simp only [Act.put]
        (refine wpList_step (fun K hK => ?_); go_simp; refine hK _ _ ?_; clear hK K)
        refine wpList_store_mid rfl 27 _ _ rfl b1 (k * 2) #[.int .i64 yi.1, .int .i64 yi.2] rfl rfl ht2 (by kernel_rfl) (all_oneCell_toArray (EI.one yi)) ?_
        simp only [Act.put]
        refine wpList_nil ?_
        rw [show ((wd.setCells b1 (i * 2) (#[Value.int .i64 yk.1, .int .i64 yk.2] : Array Value).toList).setCells b1 (k * 2) (#[Value.int .i64 yi.1, .int .i64 yi.2] : Array Value).toList) = w9 from HW9.out.symm]
        clear ht1 ht2 ci1 ci2 ck1 ck2
        go_wp2_with (fail)
        go_roundw
        case rel => exact ⟨i + 1, _, by have := HH2.out; omega, by go_num, HYL9, HO9, HK9⟩
        case measure => simp [intOf]; omega
    · have hnb : ∀ (B : Option Addr) (cB p q : Nat), Lies B cB p q → w1.heap.size ≤ p → 0 < cB → ¬ InB (fun k => k = b1) B := fun B cB p q hl hp hc ⟨a, ha, hb⟩ => by
        have h1 := (hl hc a ha).1
        have h2 := HB1.out.2
        have h3 : a.block = b1 := hb
        omega
      have hs1 := HK2.out.size
      have hs2 := HK3.out.size
      have hs3 := HK4.out.size
      have hs4 := HK5.out.size
      have hs5 := HK6.out.size
      have hs6 := HK8.out.size
      have hs7 := HKr.out.size
      have hs0 := HK1.out.size
      have La : Lies Aa ca w2.heap.size w3.heap.size := Lies.of HWa.out HFa.out
      have Lb : Lies Ab cb w3.heap.size w4.heap.size := Lies.of HWb.out HFb.out
      have Lc : Lies Ac cc w5.heap.size w6.heap.size := Lies.of HWc.out HFc.out
      have Ld : Lies Ad cd w6.heap.size w8.heap.size := Lies.of HWd.out HFd.out
      have Lw : Lies Aw cw w1.heap.size w2.heap.size := Lies.of HW2.out HFw.out
      have Oa : Hid (Ow EI wr Aa ca zs) := (HWa.out.keep (HKA6.out.then_ HK8.out) (nobIn _)).keep2 HKr.out (hnb Aa ca _ _ La hs1)
      have Ob : Hid (Ow EI wr Ab cb zs) := (HWb.out.keep (HKB6.out.then_ HK8.out) (nobIn _)).keep2 HKr.out (hnb Ab cb _ _ Lb (by omega))
      have Oc : Hid (Ow EI wr Ac cc [((1, 0) : Item), (2, 0)]) := (HWc.out.keep HK8.out (nobIn _)).keep2 HKr.out (hnb Ac cc _ _ Lc (by omega))
      have Od : Hid (Ow EI wr Ad cd zs) := HWd.out.keep2 HKr.out (hnb Ad cd _ _ Ld (by omega))
      have Ow_ : Hid (Ow EI wr Aw cw zs) := (HW2.out.keep (HKW6.out.then_ HK8.out) (nobIn _)).keep2 HKr.out (hnb Aw cw _ _ Lw (Nat.le_refl _))
      have HKW : Hid (Keep nob w wr) := ((HK1.out.then_ HKT6.out).then_ HK8.out).trans HKr.out (fun b h1 h2 => by
        have h3 : b = b1 := h2
        have := HB1.out.1
        omega)
      have HLa := Lib.hid La
      have HLb := Lib.hid Lb
      have HLc := Lib.hid Lc
      have HLd := Lib.hid Ld
      have HLt : Hid (Lies (some ⟨b1, 0, none⟩) (L + 4) w.heap.size w1.heap.size) := fun _ a ha => by
        obtain rfl := Option.some.inj ha
        exact HB1.out
      have HSZ : Hid (w.heap.size ≤ w1.heap.size ∧ w1.heap.size ≤ w2.heap.size ∧ w2.heap.size ≤ w3.heap.size ∧ w3.heap.size ≤ w4.heap.size ∧ w4.heap.size ≤ w5.heap.size ∧ w5.heap.size ≤ w6.heap.size ∧ w6.heap.size ≤ w8.heap.size ∧ w8.heap.size ≤ wr.heap.size) := ⟨hs0, hs1, hs2, hs3, hs4, hs5, hs6, hs7⟩
      clear hnb hs0 hs1 hs2 hs3 hs4 hs5 hs6 hs7 La Lb Lc Ld Lw HWa HWb HWc HWd HW2 HFa HFb HFc HFd HFw HK2 HK3 HK4 HK5 HK6 HKA6 HKB6 HKT6 HKW6 HK8 HKr HT8 HO1 H HB8
      have hdv2 : ¬ ((i : Int) < ((L / 2 : Nat) : Int)) := by omega
      obtain ⟨h2, HH2⟩ : ∃ h2, Hid (L / 2 = h2) := ⟨_, Lib.hid rfl⟩
      rw [HH2.out] at hdv hlt hdv2 hi ⊢
      go_upto_region 15 with (first
        | (go_at_call 15; go_must (refine (HF.out _).mono ?_); rintro e w' ⟨rfl, hw⟩; replace hw := hw.symm; subst hw)
        | (go_at_call 14; go_must (refine (sort_by o _ (L + 4) L ys wr HYL.out HO.out.front.sl HLL.out).mono ?_); rintro e w10 ⟨Ae, ce, ze, rfl, hz, hs, ho, hf, hk⟩; have HZe := Lib.hid hz; have HSe := Lib.hid hs; have HWe := Lib.hid ho; have HFe := Lib.hid hf; have HK10 := Lib.hid hk; clear hz hs ho hf hk))
      have HTS : Hid (∀ w', Keep nob w10 w' → Sl EI (w'.alloc (.cells #[] 27)) (some ⟨b1, 0, none⟩) (L + 4) ys) := fun w' hk => (HO.out.front.sl.keep (HK10.out.then_ hk) (nobIn _)).keep ((Keep.refl nob w').alloc _) (nobIn _)
      have hb16 : (0 + L) * 16 ≤ 140737488355328 := by omega
      have hb63 : 0 + L ≤ 9223372036854775807 := by omega
      have tok1 := Lib.hid True.intro
      have tok2 := Lib.hid True.intro
      go_upto_region 17 with (first
        | (go_at_call 17; have _t := tok1; go_must (refine (same_ok Ad Aw cd cw L zs w10 HZ.out (Od.out.sl.keep HK10.out (nobIn _)) (Ow_.out.sl.keep HK10.out (nobIn _)) HLL.out).mono ?_); rintro e w11 ⟨rfl, hk⟩; have HK11 := Lib.hid hk; clear hk _t tok1)
        | (at_builtin; refine wpList_step (fun K hK => ?_); rw [if_pos (by rfl)]; refine wp_append_ow EI _ _ 22 rfl 27 _ 16 Try.underlying22 info27 rfl (some ⟨w11.heap.size, 0, none⟩) 0 0 rfl [] rfl (Ow.nil_ _ _ _) (some ⟨b1, 0, none⟩) L (L + 4) rfl ys HYL.out (HTS.out w11 HK11.out) hb16 hb63 ?_; intro A' c' w12 hap; refine hK _ _ ?_; clear hK K; have HAP := Lib.hid hap; clear hap)
        | (go_at_call 13; go_must (refine (refsort_ok o A' c' L ys w12 HYL.out HAP.out.ow.sl HLL.out).mono ?_); rintro e w13 ⟨Af, cf, zf, rfl, hz, hs, ho, hf, hk⟩; have HSf := Lib.hid (HSe.out.unique hs); have HWf := Lib.hid ho; have HK13 := Lib.hid hk; clear hz hs ho hf hk))
      obtain rfl := HSf.out
      have HK12 : Hid (Keep nob w10 w13) := by
        refine ((HK11.out.alloc (.cells #[] 27)).trans HAP.out.keep (fun k h1 h2 => ?_)).then_ HK13.out
        obtain ⟨a, ha, e⟩ := h2
        obtain rfl := Option.some.inj ha
        have h3 : w11.heap.size = k := e
        have := HK11.out.size
        omega
      clear HTS HAP HSf HK13 HK11 tok2 hb16 hb63
      go_upto_region 17 with (go_at_call 17; go_must (refine (same_ok Ae Af ce cf L ze w13 HZe.out (HWe.out.sl.keep HK12.out (nobIn _)) HWf.out.sl HLL.out).mono ?_); rintro e w14 ⟨rfl, hk⟩; have HK14 := Lib.hid hk; clear hk)
      have HKF : Hid (Keep nob w10 w14) := HK12.out.then_ HK14.out
      obtain ⟨bs, HBS⟩ : ∃ bs, Hid (w14.heap.size = bs) := ⟨_, Lib.hid rfl⟩
      obtain ⟨w15, HW15⟩ : ∃ w15, Hid (w14.alloc (.cells #[.slice Aa L ca, .slice Ab L cb, .slice Ac 2 cc, .slice Ad L cd, .slice Ae L ce, .slice (some ⟨b1, 0, none⟩) L (L + 4)] 22) = w15) := ⟨_, Lib.hid rfl⟩
      have HK15 : Hid (Keep nob w10 w15) := by unfold Hid; rw [← HW15.out]; exact HKF.out.alloc _
      have HR15 : Hid (Keep nob wr w15) := HK10.out.then_ HK15.out
      have HAP : Hid (Calls Try.prog 19 #[.slice (some ⟨bs, 0, none⟩) 6 6] w15 (fun e w' => e = .returned (.bool true) ∧ Keep nob w w')) := by
        have hsz := HSZ.out
        have hz10 := HK10.out.size
        have hz14 := HKF.out.size
        have Le : Lies Ae ce wr.heap.size w10.heap.size := Lies.of HWe.out HFe.out
        have hbs := HBS.out
        have hM : Made w15 6 (pick6 none Aa Ab Ac Ad Ae (some ⟨b1, 0, none⟩)) (pick6 0 ca cb cc cd ce (L + 4)) (pick6 [] zs zs [((1, 0) : Item), (2, 0)] zs ze ys)
            (pick6 0 w2.heap.size w3.heap.size w5.heap.size w6.heap.size wr.heap.size w.heap.size) (pick6 0 w3.heap.size w4.heap.size w6.heap.size w8.heap.size w10.heap.size w1.heap.size) := by
          refine ⟨fun j hj => ?_, fun j hj => ?_, fun i j hi hj hne => ?_⟩
          · match j, hj with
            | 0, _ => exact Oa.out.keep HR15.out (nobIn _)
            | 1, _ => exact Ob.out.keep HR15.out (nobIn _)
            | 2, _ => exact Oc.out.keep HR15.out (nobIn _)
            | 3, _ => exact Od.out.keep HR15.out (nobIn _)
            | 4, _ => exact HWe.out.keep HK15.out (nobIn _)
            | 5, _ => exact HO.out.front.keep HR15.out (nobIn _)
          · match j, hj with
            | 0, _ => exact HLa.out
            | 1, _ => exact HLb.out
            | 2, _ => exact HLc.out
            | 3, _ => exact HLd.out
            | 4, _ => exact Le
            | 5, _ => exact HLt.out
          · rcases i with _ | _ | _ | _ | _ | _ | i <;> rcases j with _ | _ | _ | _ | _ | _ | j <;> simp only [pick6] <;> omega
        have hF := hM.fam (B := bs) (fun j hj => by
          rcases j with _ | _ | _ | _ | _ | _ | j <;> simp only [pick6] <;> omega)
        have hbw : bs < w15.heap.size := by rw [← HW15.out, ← hbs]; simp
        refine (apart_ok 6 bs _ _ (pick6 0 L L 2 L L L) _ w15 (by decide) hF (fun j hj => ?_) (fun j hj => ?_) (fun j hj => ?_) hbw).mono ?_
        · match j, hj with
          | 0, _ => exact HZ.out
          | 1, _ => exact HZ.out
          | 2, _ => rfl
          | 3, _ => exact HZ.out
          | 4, _ => exact HZe.out
          | 5, _ => exact HYL.out
        · match j, hj with
          | 0, _ => exact HLL.out
          | 1, _ => exact HLL.out
          | 2, _ => simp [pick6]
          | 3, _ => exact HLL.out
          | 4, _ => exact HLL.out
          | 5, _ => exact HLL.out
        · rw [← HW15.out, ← hbs]
          match j, hj with
          | 0, _ => simp [pick6]
          | 1, _ => simp [pick6]
          | 2, _ => simp [pick6]
          | 3, _ => simp [pick6]
          | 4, _ => simp [pick6]
          | 5, _ => simp [pick6]
        · rintro e w' ⟨h1, h2⟩
          refine ⟨h1, (HKW.out.then_ HR15.out).trans h2 (fun k hk ⟨j, hj, hc, a, ha, e⟩ => ?_)⟩
          have h3 := (hM.lies j hj hc a ha).1
          have h4 : w.heap.size ≤ (pick6 0 w2.heap.size w3.heap.size w5.heap.size w6.heap.size wr.heap.size w.heap.size) j := by
            rcases j with _ | _ | _ | _ | _ | _ | j <;> simp only [pick6] <;> omega
          omega
      have HLV := Lib.hid lives_ok
      clear HO Oa Ob Oc Od Ow_ HWe HWf HR15 HK15 HLa HLb HLc HLd HLt HSZ HFe
      go_wp2_with (first
        | (go_at_call 19; rw [HW15.out, HBS.out]; go_must (refine HAP.out.mono ?_); rintro e w16 ⟨rfl, hk⟩; have HK16 := Lib.hid hk; clear hk)
        | (go_at_call 20; go_must (refine (HLV.out _).mono ?_); rintro e w17 ⟨rfl, hk⟩; have HK17 := Lib.hid hk; clear hk))
      go_ret
      exact ⟨rfl, HK16.out.then_ HK17.out⟩
end Go.Proofs.Ytnofckgnnpmiiaa
