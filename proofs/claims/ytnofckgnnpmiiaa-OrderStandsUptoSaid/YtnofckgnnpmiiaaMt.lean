/- OrderMerges answers true, and keeps all memory that there was. -/
import Derived.Test.YtnofckgnnpmiiaaFx
import Derived.Test.YtnofckgnnpmiiaaRu
import Derived.Test.YtnofckgnnpmiiaaFd
import Derived.Deep.Cut
namespace Go.Proofs.Ytnofckgnnpmiiaa
open Go.RowKit Go.Shelf
attribute [local go_sem ↓] Go.wp_at_zero Go.wp_at_succ

theorem merge_by (o : Int) (A1 A2 : Option Addr) (c1 c2 L1 L2 : Nat) (xs ys : List Item) (w : World) (hL1 : xs.length = L1) (hL2 : ys.length = L2) (h1 : Sl EI w A1 c1 xs) (h2 : Sl EI w A2 c2 ys)
   (hl1 : L1 ≤ 1000000000) (hl2 : L2 ≤ 1000000000) (hb1 : ∀ a, A1 = some a → a.block < w.heap.size) (hb2 : ∀ a, A2 = some a → a.block < w.heap.size) :
    Calls Try.prog 45 #[.slice A1 L1 c1, .slice A2 L2 c2, .func (.func (byF o)) #[] #[]] w fun e w' => e = .returned (.slice (some ⟨w.heap.size, 0, none⟩) (L1 + L2) (L1 + L2)) ∧ Ow EI w' (some ⟨w.heap.size, 0, none⟩) (L1 + L2) (mergeL (cmpR o) xs ys) ∧ w.heap.size < w'.heap.size ∧ Keep nob w w' :=
  (merge45 (byOk o) A1 A2 c1 c2 L1 L2 0 xs ys w hL1 hL2 (Nat.zero_le _) h1 h2 (nobIn _) (nobIn _) hl1 hl2 hb1 hb2 trivial).mono fun e w' ⟨h1, h2, h3, h4, _⟩ => ⟨h1, by rw [← mergeL_by]; exact h2, h3, h4⟩
theorem unique_by (o : Int) (A : Option Addr) (c L : Nat) (xs : List Item) (w : World) (hL : xs.length = L) (h : Sl EI w A c xs) (hl : L ≤ 1000000000) :
    Calls Try.prog 46 #[.slice A L c, .func (.func (byF o)) #[] #[]] w fun e w' => ∃ A' c', e = .returned (.slice A' (uniqTo (cmpR o) xs L).length c') ∧ Ow EI w' A' c' (uniqTo (cmpR o) xs L) ∧ (∀ a, A' = some a → w.heap.size ≤ a.block) ∧ Keep nob w w' :=
  (unique46 (byOk o) A c L 0 xs w hL (Nat.zero_le _) h (nobIn _) hl trivial).mono fun e w' ⟨A', c', h1, h2, h3, h4, _⟩ => ⟨A', c', by rw [← uniqTo_by]; exact h1, by rw [← uniqTo_by]; exact h2, h3, h4⟩

set_option maxRecDepth 100000 in
set_option maxHeartbeats 16000000 in
theorem merges_ok (A0 : Option Addr) (c0 : Nat) (xs : List Item) (A1 : Option Addr) (c1 : Nat) (ys : List Item) (o : Int) (w : World) (hx : Sl EI w A0 c0 xs) (hy : Sl EI w A1 c1 ys) (hlx : xs.length ≤ 100000000) (hly : ys.length ≤ 100000000) :
    Calls Try.prog 9 #[.slice A0 xs.length c0, .slice A1 ys.length c1, .int .i64 o] w (fun e w' => e = .returned (.bool true) ∧ Keep nob w w') := by
  have HX := Lib.hid hx
  have HY := Lib.hid hy
  have hlc0 := hx.le
  have hcc0 := hx.cap
  have hlc1 := hy.le
  have hcc1 := hy.cap
  obtain ⟨L1, hL1⟩ : ∃ L, Hid (xs.length = L) := ⟨_, Lib.hid rfl⟩
  obtain ⟨L2, hL2⟩ : ∃ L, Hid (ys.length = L) := ⟨_, Lib.hid rfl⟩
  rw [hL1.out] at hlc0 ⊢
  rw [hL2.out] at hlc1 ⊢
  have HLL1 : Hid (L1 ≤ 1000000000) := by unfold Hid; rw [← hL1.out]; omega
  have HLL2 : Hid (L2 ≤ 1000000000) := by unfold Hid; rw [← hL2.out]; omega
  have HLS : Hid (L1 + L2 ≤ 1000000000 ∧ L2 + L1 ≤ 1000000000) := by unfold Hid; rw [← hL1.out, ← hL2.out]; omega
  have hLb1 : (L1 : Int) ≤ 1000000000 := by have := HLL1.out; omega
  have hLb2 : (L2 : Int) ≤ 1000000000 := by have := HLL2.out; omega
  clear hx hy hlx hly
  have HF := Lib.hid (by_ok o)
  obtain ⟨mz, HMZ⟩ : ∃ mz, Hid (mergeL (cmpR o) xs ys = mz) := ⟨_, Lib.hid rfl⟩
  obtain ⟨ez, HEZ⟩ : ∃ ez, Hid (mergeL (cmpR o) ys xs = ez) := ⟨_, Lib.hid rfl⟩
  obtain ⟨uz, HUZ⟩ : ∃ uz, Hid (uniqTo (cmpR o) xs L1 = uz) := ⟨_, Lib.hid rfl⟩
  have HML : Hid (mz.length = L1 + L2) := by unfold Hid; rw [← HMZ.out, mergeL_len, hL1.out, hL2.out]
  have HEL : Hid (ez.length = L2 + L1) := by unfold Hid; rw [← HEZ.out, mergeL_len, hL1.out, hL2.out]
  have HUL : Hid (uz.length ≤ 1000000000) := by unfold Hid; rw [← HUZ.out]; exact Nat.le_trans (uniqTo_le _ _ _) HLL1.out
  obtain ⟨UL, HULE⟩ : ∃ UL, Hid (uz.length = UL) := ⟨_, Lib.hid rfl⟩
  rw [HULE.out] at HUL
  have HMG : Hid (∀ (b1 b2 : Nat) (rs : List Item) (w' : World), rs.length = L1 → b1 < w'.heap.size → b2 < w'.heap.size → Ow EI w' (some ⟨b1, 0, none⟩) (L1 + 4) (rs ++ mks) → Ow EI w' (some ⟨b2, 0, none⟩) (L2 + 4) (ys ++ mks) →
      Calls Try.prog 45 #[.slice (some ⟨b1, 0, none⟩) L1 (L1 + 4), .slice (some ⟨b2, 0, none⟩) L2 (L2 + 4), .func (.func (byF o)) #[] #[]] w' fun e w'' => e = .returned (.slice (some ⟨w'.heap.size, 0, none⟩) (L1 + L2) (L1 + L2)) ∧ Ow EI w'' (some ⟨w'.heap.size, 0, none⟩) (L1 + L2) (mergeL (cmpR o) rs ys) ∧ w'.heap.size < w''.heap.size ∧ Keep nob w' w'') :=
    fun b1 b2 rs w' hr h1 h2 o1 o2 => merge_by o _ _ _ _ L1 L2 rs ys w' hr hL2.out o1.front.sl o2.front.sl HLL1.out HLL2.out (fun a ha => by obtain rfl := Option.some.inj ha; exact h1) (fun a ha => by obtain rfl := Option.some.inj ha; exact h2)
  have HME : Hid (∀ (b1 b2 : Nat) (w' : World), b1 < w'.heap.size → b2 < w'.heap.size → Ow EI w' (some ⟨b1, 0, none⟩) (L1 + 4) (xs ++ mks) → Ow EI w' (some ⟨b2, 0, none⟩) (L2 + 4) (ys ++ mks) →
      Calls Try.prog 45 #[.slice (some ⟨b2, 0, none⟩) L2 (L2 + 4), .slice (some ⟨b1, 0, none⟩) L1 (L1 + 4), .func (.func (byF o)) #[] #[]] w' fun e w'' => e = .returned (.slice (some ⟨w'.heap.size, 0, none⟩) (L2 + L1) (L2 + L1)) ∧ Ow EI w'' (some ⟨w'.heap.size, 0, none⟩) (L2 + L1) (mergeL (cmpR o) ys xs) ∧ w'.heap.size < w''.heap.size ∧ Keep nob w' w'') :=
    fun b1 b2 w' h1 h2 o1 o2 => merge_by o _ _ _ _ L2 L1 ys xs w' hL2.out hL1.out o2.front.sl o1.front.sl HLL2.out HLL1.out (fun a ha => by obtain rfl := Option.some.inj ha; exact h2) (fun a ha => by obtain rfl := Option.some.inj ha; exact h1)
  have HUN : Hid (∀ (b1 : Nat) (rs : List Item) (w' : World), rs.length = L1 → Ow EI w' (some ⟨b1, 0, none⟩) (L1 + 4) (rs ++ mks) →
      Calls Try.prog 46 #[.slice (some ⟨b1, 0, none⟩) L1 (L1 + 4), .func (.func (byF o)) #[] #[]] w' fun e w'' => ∃ A' c', e = .returned (.slice A' (uniqTo (cmpR o) rs L1).length c') ∧ Ow EI w'' A' c' (uniqTo (cmpR o) rs L1) ∧ (∀ a, A' = some a → w'.heap.size ≤ a.block) ∧ Keep nob w' w'') :=
    fun b1 rs w' hr o1 => unique_by o _ _ L1 rs w' hr o1.front.sl HLL1.out
  go_enter Try.func9, Try.ntmps9
  have tok1 := Lib.hid True.intro
  go_upto_region 2 with (first
    | (go_at_call 12; have _t := tok1; go_must (refine (lend_ok A0 c0 L1 xs w hL1.out HX.out HLL1.out).mono ?_); rintro e w1 ⟨b1, rfl, hb, hb', ho, hk⟩; have HT1 := Lib.hid ho; have HK1 := Lib.hid hk; have HB1 := Lib.hid (And.intro hb hb'); clear ho hk hb hb' _t tok1)
    | (go_at_call 12; go_must (refine (lend_ok A1 c1 L2 ys w1 hL2.out (HY.out.keep HK1.out (nobIn _)) HLL2.out).mono ?_); rintro e w2 ⟨b2, rfl, hb, hb', ho, hk⟩; have HU2 := Lib.hid ho; have HK2 := Lib.hid hk; have HB2 := Lib.hid (And.intro hb hb'); clear ho hk hb hb'))
  have HT2 : Hid (Ow EI w2 (some ⟨b1, 0, none⟩) (L1 + 4) (xs ++ mks)) := HT1.out.keep HK2.out (nobIn _)
  have hb12 : b1 < w2.heap.size := Nat.lt_of_lt_of_le HB1.out.2 HK2.out.size
  have HBB : Hid (∀ w', Keep nob w2 w' → b1 < w'.heap.size ∧ b2 < w'.heap.size) := fun w' hk => ⟨Nat.lt_of_lt_of_le hb12 hk.size, Nat.lt_of_lt_of_le HB2.out.2 hk.size⟩
  clear hb12
  have HC : Hid (Keep nob w2 w2) := Keep.refl _ _
  go_upto_region 3 with (first
    | (go_at_call 15; go_must (refine (HF.out _).mono ?_); rintro e w' ⟨rfl, hw⟩; replace hw := hw.symm; subst hw)
    | (go_at_call 45; go_must (refine (HMG.out b1 b2 xs _ hL1.out (HBB.out _ HC.out).1 (HBB.out _ HC.out).2 (HT2.out.keep HC.out (nobIn _)) (HU2.out.keep HC.out (nobIn _))).mono ?_); rintro e wa ⟨rfl, ho, hz, hk⟩; rw [HMZ.out] at ho; have HWa := Lib.hid ho; have HZa := Lib.hid hz; have HKa := Lib.hid hk; replace HC := Lib.hid (HC.out.then_ hk); clear ho hz hk))
  have HLa : Hid (Lies (some ⟨w2.heap.size, 0, none⟩) (L1 + L2) w2.heap.size wa.heap.size) := fun _ a ha => by
    obtain rfl := Option.some.inj ha
    exact ⟨Nat.le_refl _, HZa.out⟩
  obtain ⟨Aa, HAa⟩ : ∃ A, Hid (A = (some ⟨w2.heap.size, 0, none⟩ : Option Addr)) := ⟨_, Lib.hid rfl⟩
  rw [← HAa.out] at HWa HLa ⊢
  go_upto_region 4 with (first
    | (go_at_call 15; go_must (refine (HF.out _).mono ?_); rintro e w' ⟨rfl, hw⟩; replace hw := hw.symm; subst hw)
    | (go_at_call 45; go_must (refine (HMG.out b1 b2 xs _ hL1.out (HBB.out _ HC.out).1 (HBB.out _ HC.out).2 (HT2.out.keep HC.out (nobIn _)) (HU2.out.keep HC.out (nobIn _))).mono ?_); rintro e wb ⟨rfl, ho, hz, hk⟩; rw [HMZ.out] at ho; have HWb := Lib.hid ho; have HZb := Lib.hid hz; have HKb := Lib.hid hk; replace HC := Lib.hid (HC.out.then_ hk); clear ho hz hk))
  have HLb : Hid (Lies (some ⟨wa.heap.size, 0, none⟩) (L1 + L2) wa.heap.size wb.heap.size) := fun _ a ha => by
    obtain rfl := Option.some.inj ha
    exact ⟨Nat.le_refl _, HZb.out⟩
  obtain ⟨Ab, HAb⟩ : ∃ A, Hid (A = (some ⟨wa.heap.size, 0, none⟩ : Option Addr)) := ⟨_, Lib.hid rfl⟩
  rw [← HAb.out] at HWb HLb ⊢
  go_upto_region 5 with (first
    | (go_at_call 15; go_must (refine (HF.out _).mono ?_); rintro e w' ⟨rfl, hw⟩; replace hw := hw.symm; subst hw)
    | (go_at_call 46; go_must (refine (HUN.out b1 xs _ hL1.out (HT2.out.keep HC.out (nobIn _))).mono ?_); rintro e wc ⟨Ac, cc, rfl, ho, hf, hk⟩; rw [HUZ.out] at ho; have HWc := Lib.hid ho; have HLc := Lib.hid (Lies.of ho hf); have HKc := Lib.hid hk; replace HC := Lib.hid (HC.out.then_ hk); clear ho hf hk))
  rw [HUZ.out, HULE.out]
  go_upto_region 6 with (first
    | (go_at_call 15; go_must (refine (HF.out _).mono ?_); rintro e w' ⟨rfl, hw⟩; replace hw := hw.symm; subst hw)
    | (go_at_call 46; go_must (refine (HUN.out b1 xs _ hL1.out (HT2.out.keep HC.out (nobIn _))).mono ?_); rintro e wd ⟨Ad, cd, rfl, ho, hf, hk⟩; rw [HUZ.out] at ho; have HWd := Lib.hid ho; have HLd := Lib.hid (Lies.of ho hf); have HKd := Lib.hid hk; replace HC := Lib.hid (HC.out.then_ hk); clear ho hf hk))
  rw [HUZ.out, HULE.out]
  go_upto_region 7 with (first
    | (go_at_call 15; go_must (refine (HF.out _).mono ?_); rintro e w' ⟨rfl, hw⟩; replace hw := hw.symm; subst hw)
    | (go_at_call 45; go_must (refine (HME.out b1 b2 _ (HBB.out _ HC.out).1 (HBB.out _ HC.out).2 (HT2.out.keep HC.out (nobIn _)) (HU2.out.keep HC.out (nobIn _))).mono ?_); rintro e we ⟨rfl, ho, hz, hk⟩; rw [HEZ.out] at ho; have HWe := Lib.hid ho; have HZe := Lib.hid hz; have HKe := Lib.hid hk; replace HC := Lib.hid (HC.out.then_ hk); clear ho hz hk))
  have HLe : Hid (Lies (some ⟨wd.heap.size, 0, none⟩) (L2 + L1) wd.heap.size we.heap.size) := fun _ a ha => by
    obtain rfl := Option.some.inj ha
    exact ⟨Nat.le_refl _, HZe.out⟩
  obtain ⟨Ae, HAe⟩ : ∃ A, Hid (A = (some ⟨wd.heap.size, 0, none⟩ : Option Addr)) := ⟨_, Lib.hid rfl⟩
  rw [← HAe.out] at HWe HLe ⊢
  go_upto_region 8 with (go_at_call 47; go_must (refine (refmerge_ok o A0 A1 c0 c1 L1 L2 xs ys we hL1.out hL2.out (HX.out.keep ((HK1.out.then_ HK2.out).then_ HC.out) (nobIn _)) (HY.out.keep ((HK1.out.then_ HK2.out).then_ HC.out) (nobIn _)) HLL1.out HLL2.out).mono ?_); rintro e w7 ⟨Aw, cw, rfl, hg⟩; rw [HMZ.out] at hg; have HGw := Lib.hid hg; clear hg)
  go_upto_region 9 with (go_at_call 48; go_must (refine (refunique_ok o A0 c0 L1 xs w7 hL1.out (HX.out.keep (((HK1.out.then_ HK2.out).then_ HC.out).then_ HGw.out.keep) (nobIn _)) HLL1.out).mono ?_); rintro e wo ⟨Ao, co, rfl, hg⟩; rw [HUZ.out] at hg; have HGo := Lib.hid hg; clear hg)
  rw [HUZ.out, HULE.out]
  have HEO : Hid (Keep nob we wo) := HGw.out.keep.then_ HGo.out.keep
  have HDO : Hid (Keep nob wd wo) := HKe.out.then_ HEO.out
  have HCO : Hid (Keep nob wc wo) := HKd.out.then_ HDO.out
  have HBO : Hid (Keep nob wb wo) := HKc.out.then_ HCO.out
  have HAO : Hid (Keep nob wa wo) := HKb.out.then_ HBO.out
  have H2O : Hid (Keep nob w2 wo) := HKa.out.then_ HAO.out
  have H0O : Hid (Keep nob w wo) := (HK1.out.then_ HK2.out).then_ H2O.out
  have HLS1 := Lib.hid HLS.out.1
  have HLS2 := Lib.hid HLS.out.2
  have HC1 : Hid (∀ w', Keep nob wo w' → Calls Try.prog 17 #[.slice Aa (L1 + L2) (L1 + L2), .slice Aw (L1 + L2) cw] w' (fun e w'' => e = .returned (.bool true) ∧ Keep nob w' w'')) := fun w' hk =>
    same_ok Aa Aw _ cw (L1 + L2) mz w' HML.out ((HWa.out.sl.keep HAO.out (nobIn _)).keep hk (nobIn _)) ((HGw.out.ow.sl.keep HGo.out.keep (nobIn _)).keep hk (nobIn _)) HLS1.out
  have HC2 : Hid (∀ w', Keep nob wo w' → Calls Try.prog 17 #[.slice Ab (L1 + L2) (L1 + L2), .slice Aw (L1 + L2) cw] w' (fun e w'' => e = .returned (.bool true) ∧ Keep nob w' w'')) := fun w' hk =>
    same_ok Ab Aw _ cw (L1 + L2) mz w' HML.out ((HWb.out.sl.keep HBO.out (nobIn _)).keep hk (nobIn _)) ((HGw.out.ow.sl.keep HGo.out.keep (nobIn _)).keep hk (nobIn _)) HLS1.out
  have HC3 : Hid (∀ w', Keep nob wo w' → Calls Try.prog 17 #[.slice Ac UL cc, .slice Ao UL co] w' (fun e w'' => e = .returned (.bool true) ∧ Keep nob w' w'')) := fun w' hk =>
    same_ok Ac Ao _ co UL uz w' HULE.out ((HWc.out.sl.keep HCO.out (nobIn _)).keep hk (nobIn _)) (HGo.out.ow.sl.keep hk (nobIn _)) HUL.out
  have HC4 : Hid (∀ w', Keep nob wo w' → Calls Try.prog 17 #[.slice Ad UL cd, .slice Ao UL co] w' (fun e w'' => e = .returned (.bool true) ∧ Keep nob w' w'')) := fun w' hk =>
    same_ok Ad Ao _ co UL uz w' HULE.out ((HWd.out.sl.keep HDO.out (nobIn _)).keep hk (nobIn _)) (HGo.out.ow.sl.keep hk (nobIn _)) HUL.out
  have HC5 : Hid (∀ w', Keep nob wo w' → Calls Try.prog 47 #[.slice A1 L2 c1, .slice A0 L1 c0, .int .i64 o] w' fun e w'' => ∃ A' c', e = .returned (.slice A' (L2 + L1) c') ∧ Ow EI w'' A' c' ez ∧ Keep nob w' w'') := fun w' hk =>
    (refmerge_ok o A1 A0 c1 c0 L2 L1 ys xs w' hL2.out hL1.out (HY.out.keep (H0O.out.then_ hk) (nobIn _)) (HX.out.keep (H0O.out.then_ hk) (nobIn _)) HLL2.out HLL1.out).mono fun e w'' ⟨A', c', h1, h2⟩ => ⟨A', c', h1, by rw [← HEZ.out]; exact h2.ow, h2.keep⟩
  have HC6 : Hid (∀ A9 c9 w', Keep nob wo w' → Ow EI w' A9 c9 ez → Calls Try.prog 17 #[.slice Ae (L2 + L1) (L2 + L1), .slice A9 (L2 + L1) c9] w' (fun e w'' => e = .returned (.bool true) ∧ Keep nob w' w'')) := fun A9 c9 w' hk ho =>
    same_ok Ae A9 _ c9 (L2 + L1) ez w' HEL.out ((HWe.out.sl.keep HEO.out (nobIn _)).keep hk (nobIn _)) ho.sl HLS2.out
  have HC7 : Hid (∀ w', Keep nob wo w' → Calls Try.prog 18 #[.slice (some ⟨b1, 0, none⟩) L1 (L1 + 4), .slice A0 L1 c0] w' (fun e w'' => e = .returned (.bool true) ∧ Keep nob w' w'')) := fun w' hk =>
    left_ok A0 b1 c0 L1 xs w' hL1.out ((HT2.out.keep H2O.out (nobIn _)).keep hk (nobIn _)) (HX.out.keep (H0O.out.then_ hk) (nobIn _)) HLL1.out
  have HC8 : Hid (∀ w', Keep nob wo w' → Calls Try.prog 18 #[.slice (some ⟨b2, 0, none⟩) L2 (L2 + 4), .slice A1 L2 c1] w' (fun e w'' => e = .returned (.bool true) ∧ Keep nob w' w'')) := fun w' hk =>
    left_ok A1 b2 c1 L2 ys w' hL2.out ((HU2.out.keep H2O.out (nobIn _)).keep hk (nobIn _)) (HY.out.keep (H0O.out.then_ hk) (nobIn _)) HLL2.out
  have HMN := Lib.hid (merge_none (some ⟨b1, 0, none⟩) (some ⟨b2, 0, none⟩) L1 L2 (L1 + 4) (L2 + 4))
  have HUNN := Lib.hid (unique_none (some ⟨b1, 0, none⟩) L1 (L1 + 4))
  clear HC
  have HC : Hid (Keep nob wo wo) := Keep.refl _ _
  have tok1 := Lib.hid True.intro
  have tok2 := Lib.hid True.intro
  have tok3 := Lib.hid True.intro
  have tok4 := Lib.hid True.intro
  have tok6 := Lib.hid True.intro
  go_upto_region 11 with (first
    | (go_at_call 17; have _t := tok1; go_must (refine (HC1.out _ HC.out).mono ?_); rintro e w' ⟨rfl, hk⟩; replace HC := Lib.hid (HC.out.then_ hk); clear hk _t tok1)
    | (go_at_call 17; have _t := tok2; go_must (refine (HC2.out _ HC.out).mono ?_); rintro e w' ⟨rfl, hk⟩; replace HC := Lib.hid (HC.out.then_ hk); clear hk _t tok2)
    | (go_at_call 17; have _t := tok3; go_must (refine (HC3.out _ HC.out).mono ?_); rintro e w' ⟨rfl, hk⟩; replace HC := Lib.hid (HC.out.then_ hk); clear hk _t tok3)
    | (go_at_call 17; have _t := tok4; go_must (refine (HC4.out _ HC.out).mono ?_); rintro e w' ⟨rfl, hk⟩; replace HC := Lib.hid (HC.out.then_ hk); clear hk _t tok4)
    | (go_at_call 47; go_must (refine (HC5.out _ HC.out).mono ?_); rintro e w9 ⟨A9, c9, rfl, ho, hk⟩; have HO9 := Lib.hid ho; replace HC := Lib.hid (HC.out.then_ hk); clear ho hk)
    | (go_at_call 17; go_must (refine (HC6.out A9 c9 w9 HC.out HO9.out).mono ?_); rintro e w' ⟨rfl, hk⟩; replace HC := Lib.hid (HC.out.then_ hk); clear hk)
    | (go_at_call 18; have _t := tok6; go_must (refine (HC7.out _ HC.out).mono ?_); rintro e w' ⟨rfl, hk⟩; replace HC := Lib.hid (HC.out.then_ hk); clear hk _t tok6)
    | (go_at_call 18; go_must (refine (HC8.out _ HC.out).mono ?_); rintro e w' ⟨rfl, hk⟩; replace HC := Lib.hid (HC.out.then_ hk); clear hk))
  clear HC1 HC2 HC3 HC4 HC5 HC6 HC7 HC8
  go_wp2_with (first
    | (go_at_call 45; go_must (refine (HMN.out _).mono ?_); rintro e w' ⟨rfl, hk⟩; replace HC := Lib.hid (HC.out.then_ hk); clear hk)
    | (go_at_call 46; go_must (refine (HUNN.out _).mono ?_); rintro e w8 ⟨rfl, hk⟩; have HK8 := Lib.hid (HC.out.then_ hk); clear hk))
  have HT8 : Hid (Ow EI w8 (some ⟨b1, 0, none⟩) (L1 + 4) (xs ++ mks)) := (HT2.out.keep H2O.out (nobIn _)).keep HK8.out (nobIn _)
  clear HC HMN HUNN HME HO9 HX
  go_loopw [16, 17] (fun u16 u17 wr => ∃ (i : Nat) (rs : List Item), i ≤ L1 / 2 ∧ u16 = .int .i64 (i : Int) ∧ Hid (rs.length = L1) ∧ Hid (Ow EI wr (some ⟨b1, 0, none⟩) (L1 + 4) (rs ++ mks)) ∧ Hid (Keep (fun k => k = b1) w8 wr)) (fun u16 _ _ => ((L1 / 2 : Nat) - intOf u16).toNat)
  case atStart => exact ⟨0, xs, Nat.zero_le _, rfl, hL1, HT8, Keep.refl _ _⟩
  case round =>
    obtain ⟨i, rs, hi, rfl, HRL, HO, HKr⟩ := hrel
    have hdv : (L1 : Int) / 2 = ((L1 / 2 : Nat) : Int) := by omega
    by_cases hlt : i < L1 / 2
    · have hi1 : (i : Int) < ((L1 / 2 : Nat) : Int) := by omega
      obtain ⟨k, HKV⟩ : ∃ k, Hid (k = L1 - 1 - i) := ⟨_, Lib.hid rfl⟩
      have hkL : k < L1 := by have := HKV.out; omega
      have hki : (L1 : Int) - 1 - (i : Int) = (k : Int) := by have := HKV.out; omega
      have hiL : i < L1 := by omega
      obtain ⟨h2, HH2⟩ : ∃ h2, Hid (L1 / 2 = h2) := ⟨_, Lib.hid rfl⟩
      rw [HH2.out] at hdv hi1 hlt hi ⊢
      go_wp2_with (fail)
      obtain ⟨b', o', e', hyi⟩ := HO.out.front.sl.elem (i := i) (by rw [HRL.out]; exact hiL)
      simp only [Option.some.injEq, Addr.mk.injEq, and_true] at e'
      obtain ⟨rfl, rfl⟩ := e'
      obtain ⟨b', o', e', hyk⟩ := HO.out.front.sl.elem (i := k) (by rw [HRL.out]; exact hkL)
      simp only [Option.some.injEq, Addr.mk.injEq, and_true] at e'
      obtain ⟨rfl, rfl⟩ := e'
      obtain ⟨yi, HYI⟩ : ∃ y, Hid (rs[i]'(by rw [HRL.out]; exact hiL) = y) := ⟨_, Lib.hid rfl⟩
      obtain ⟨yk, HYK⟩ : ∃ y, Hid (rs[k]'(by rw [HRL.out]; exact hkL) = y) := ⟨_, Lib.hid rfl⟩
      rw [HYI.out] at hyi
      rw [HYK.out] at hyk
      have HOd : Hid (Ow EI wr.drew (some ⟨b1, 0, none⟩) (L1 + 4) (rs ++ mks)) := HO.out.keep ((Keep.refl nob wr).drew) (nobIn _)
      have HKd : Hid (Keep (fun k => k = b1) w8 wr.drew) := HKr.out.drew
      have ci1 := ((Keep.refl nob wr).drew).cell (hyi 0 _ rfl) (fun h => h)
      have ci2 := ((Keep.refl nob wr).drew).cell (hyi 1 _ rfl) (fun h => h)
      have ck1 := ((Keep.refl nob wr).drew).cell (hyk 0 _ rfl) (fun h => h)
      have ck2 := ((Keep.refl nob wr).drew).cell (hyk 1 _ rfl) (fun h => h)
      simp only [EI, Nat.add_zero, Nat.zero_add] at ci1 ci2 ck1 ck2
      clear hyi hyk HYI HYK HO HKr
      refine wp_region_any (by kernel_rfl) ?_
      change wpAny Try.prog .any _ _ 16 _ _ wr.drew
      generalize wr.drew = wd at *
      have hk0 : (0 : Int) ≤ (k : Int) := by omega
      have hk1 : (k : Int) < (L1 : Int) := by omega
      have hi0 : (0 : Int) ≤ (i : Int) := by omega
      have hiI : (i : Int) < (L1 : Int) := by omega
      refine wpAny_take (i := 2) (v := .slice (some ⟨b1, 0, none⟩) L1 (L1 + 4)) rfl (by kernel_rfl) (by kernel_rfl) (by kernel_rfl) (fun _ _ _ h => h) (.inl ⟨by rfl, fun w => by go_simp⟩) ?_
      simp only [Act.put, List.getElem_toArray, List.getElem_cons_succ, List.getElem_cons_zero]
      refine wpAny_take (i := 3) (v := .int .i64 (k : Int)) rfl (by kernel_rfl) (by kernel_rfl) (by kernel_rfl) (fun _ _ _ h => h) (.inl ⟨by rfl, fun w => by go_simp⟩) ?_
      simp only [Act.put, List.getElem_toArray, List.getElem_cons_succ, List.getElem_cons_zero]
      refine wpAny_take (i := 0) (v := .slice (some ⟨b1, 0, none⟩) L1 (L1 + 4)) rfl (by kernel_rfl) (by kernel_rfl) (by kernel_rfl) (fun _ _ _ h => h) (.inl ⟨by rfl, fun w => by go_simp⟩) ?_
      simp only [Act.put, List.getElem_toArray, List.getElem_cons_zero]
      refine wpAny_take (i := 1) (v := .int .i64 (i : Int)) rfl (by kernel_rfl) (by kernel_rfl) (by kernel_rfl) (fun _ _ _ h => h) (.inl ⟨by rfl, fun w => by go_simp⟩) ?_
      simp only [Act.put, List.getElem_toArray, List.getElem_cons_succ, List.getElem_cons_zero]
      refine wpAny_take (i := 4) (v := .slice (some ⟨b1, 0, none⟩) L1 (L1 + 4)) rfl (by kernel_rfl) (by kernel_rfl) (by kernel_rfl) (fun _ _ _ h => h) (.inl ⟨by rfl, fun w => by go_simp⟩) ?_
      simp only [Act.put, List.getElem_toArray, List.getElem_cons_succ, List.getElem_cons_zero]
      refine wpAny_take (i := 5) (v := .int .i64 (k : Int)) rfl (by kernel_rfl) (by kernel_rfl) (by kernel_rfl) (fun _ _ _ h => h) (.inl ⟨by rfl, fun w => by go_simp⟩) ?_
      simp only [Act.put, List.getElem_toArray, List.getElem_cons_succ, List.getElem_cons_zero]
      refine wpAny_take (i := 6) (v := .pointer (some ⟨b1, k * 2, none⟩)) rfl (by kernel_rfl) (by kernel_rfl) (by kernel_rfl) (fun _ _ _ h => h) (.inl ⟨by rfl, fun w => by go_simp⟩) ?_
      simp only [Act.put, List.getElem_toArray, List.getElem_cons_succ, List.getElem_cons_zero]
      refine wpAny_take (i := 8) (v := .slice (some ⟨b1, 0, none⟩) L1 (L1 + 4)) rfl (by kernel_rfl) (by kernel_rfl) (by kernel_rfl) (fun _ _ _ h => h) (.inl ⟨by rfl, fun w => by go_simp⟩) ?_
      simp only [Act.put, List.getElem_toArray, List.getElem_cons_succ, List.getElem_cons_zero]
      refine wpAny_take (i := 9) (v := .int .i64 (i : Int)) rfl (by kernel_rfl) (by kernel_rfl) (by kernel_rfl) (fun _ _ _ h => h) (.inl ⟨by rfl, fun w => by go_simp⟩) ?_
      simp only [Act.put, List.getElem_toArray, List.getElem_cons_succ, List.getElem_cons_zero]
      refine wpAny_take (i := 10) (v := .pointer (some ⟨b1, i * 2, none⟩)) rfl (by kernel_rfl) (by kernel_rfl) (by kernel_rfl) (fun _ _ _ h => h) (.inl ⟨by rfl, fun w => by go_simp⟩) ?_
      simp only [Act.put, List.getElem_toArray, List.getElem_cons_succ, List.getElem_cons_zero]
      refine wpAny_all (rs := [7, 11]) (by kernel_rfl) (by simp) (fun jj hjj => ?_)
      have HPT := (HOd.out.put (i := i) (by rw [List.length_append, HRL.out]; omega) yk).put (i := k) (by rw [List.length_set, List.length_append, HRL.out]; omega) yi
      rw [Nat.zero_add, Nat.zero_add, List.set_append_left _ _ (by rw [HRL.out]; exact hiL), List.set_append_left _ _ (by rw [List.length_set, HRL.out]; exact hkL)] at HPT
      obtain ⟨b', o', e', hth⟩ := HOd.out.room (by omega)
      simp only [Option.some.injEq, Addr.mk.injEq, and_true] at e'
      obtain ⟨rfl, rfl⟩ := e'
      have ht1 : wd.there b1 (i * 2) 2 := there_sub hth (by omega) (by simp only [EI]; omega)
      have ht2 : (wd.setCells b1 (i * 2) [.int .i64 yk.1, .int .i64 yk.2]).there b1 (k * 2) 2 := World.there_setCells (there_sub hth (by omega) (by simp only [EI]; omega)) _ _ _
      obtain ⟨w9, HW9⟩ : ∃ w9, Hid (w9 = (wd.setCells b1 (i * 2) [.int .i64 yk.1, .int .i64 yk.2]).setCells b1 (k * 2) [.int .i64 yi.1, .int .i64 yi.2]) := ⟨_, Lib.hid rfl⟩
      have HO9 : Hid (Ow EI w9 (some ⟨b1, 0, none⟩) (L1 + 4) ((rs.set i yk).set k yi ++ mks)) := by rw [HW9.out]; exact HPT
      have HK9 : Hid (Keep (fun k => k = b1) w8 w9) := by
        rw [HW9.out]
        exact Keep.setCells _ _ (Keep.setCells _ _ HKd.out (fun _ => rfl)) (fun _ => rfl)
      have HRL9 : Hid (((rs.set i yk).set k yi).length = L1) := by unfold Hid; rw [List.length_set, List.length_set]; exact HRL.out
      clear HPT hth HOd HKd
      simp only [List.mem_cons, List.not_mem_nil, or_false] at hjj
      rcases hjj with rfl | rfl
      · refine wpOp_here (v := .agg #[.int .i64 yk.1, .int .i64 yk.2]) rfl (by rfl) (by go_simp) ?_
        simp only [Act.put, List.getElem_toArray, List.getElem_cons_succ, List.getElem_cons_zero]
        refine wpAny_all (rs := [11]) (by kernel_rfl) (by simp) (fun jj hjj => ?_)
        simp only [List.mem_cons, List.not_mem_nil, or_false] at hjj
        subst hjj
        refine wpOp_here (v := .agg #[.int .i64 yi.1, .int .i64 yi.2]) rfl (by rfl) (by go_simp) ?_
        simp only [Act.put, List.getElem_toArray, List.getElem_cons_succ, List.getElem_cons_zero]
        refine wpAny_seq 12 4 rfl (by kernel_rfl) ?_
        simp only [List.drop_succ_cons, List.drop_zero]
        (refine wpList_step (fun K hK => ?_); go_simp; refine hK _ _ ?_; clear hK K)
        refine wpList_store_mid rfl 27 _ _ rfl b1 (i * 2) #[.int .i64 yk.1, .int .i64 yk.2] rfl rfl ht1 (by kernel_rfl) (all_oneCell_toArray (EI.one yk)) ?_
        simp only [Act.put]
        (refine wpList_step (fun K hK => ?_); go_simp; refine hK _ _ ?_; clear hK K)
        refine wpList_store_mid rfl 27 _ _ rfl b1 (k * 2) #[.int .i64 yi.1, .int .i64 yi.2] rfl rfl ht2 (by kernel_rfl) (all_oneCell_toArray (EI.one yi)) ?_
        simp only [Act.put]
        refine wpList_nil ?_
        rw [show ((wd.setCells b1 (i * 2) (#[Value.int .i64 yk.1, .int .i64 yk.2] : Array Value).toList).setCells b1 (k * 2) (#[Value.int .i64 yi.1, .int .i64 yi.2] : Array Value).toList) = w9 from HW9.out.symm]
        clear ht1 ht2 ci1 ci2 ck1 ck2
        go_wp2_with (fail)
        go_roundw
        case rel => exact ⟨i + 1, _, by have := HH2.out; omega, by go_num, HRL9, HO9, HK9⟩
        case measure => simp [intOf]; omega
      · refine wpOp_here (v := .agg #[.int .i64 yi.1, .int .i64 yi.2]) rfl (by rfl) (by go_simp) ?_
        simp only [Act.put, List.getElem_toArray, List.getElem_cons_succ, List.getElem_cons_zero]
        refine wpAny_all (rs := [7]) (by kernel_rfl) (by simp) (fun jj hjj => ?_)
        simp only [List.mem_cons, List.not_mem_nil, or_false] at hjj
        subst hjj
        refine wpOp_here (v := .agg #[.int .i64 yk.1, .int .i64 yk.2]) rfl (by rfl) (by go_simp) ?_
        simp only [Act.put, List.getElem_toArray, List.getElem_cons_succ, List.getElem_cons_zero]
        refine wpAny_seq 12 4 rfl (by kernel_rfl) ?_
        simp only [List.drop_succ_cons, List.drop_zero]
        (refine wpList_step (fun K hK => ?_); go_simp; refine hK _ _ ?_; clear hK K)
        refine wpList_store_mid rfl 27 _ _ rfl b1 (i * 2) #[.int .i64 yk.1, .int .i64 yk.2] rfl rfl ht1 (by kernel_rfl) (all_oneCell_toArray (EI.one yk)) ?_
        simp only [Act.put]
        (refine wpList_step (fun K hK => ?_); go_simp; refine hK _ _ ?_; clear hK K)
        refine wpList_store_mid rfl 27 _ _ rfl b1 (k * 2) #[.int .i64 yi.1, .int .i64 yi.2] rfl rfl ht2 (by kernel_rfl) (all_oneCell_toArray (EI.one yi)) ?_
        simp only [Act.put]
        refine wpList_nil ?_
        rw [show ((wd.setCells b1 (i * 2) (#[Value.int .i64 yk.1, .int .i64 yk.2] : Array Value).toList).setCells b1 (k * 2) (#[Value.int .i64 yi.1, .int .i64 yi.2] : Array Value).toList) = w9 from HW9.out.symm]
        clear ht1 ht2 ci1 ci2 ck1 ck2
        go_wp2_with (fail)
        go_roundw
        case rel => exact ⟨i + 1, _, by have := HH2.out; omega, by go_num, HRL9, HO9, HK9⟩
        case measure => simp [intOf]; omega
    · have hnb : ∀ (B : Option Addr) (cB p q : Nat), Lies B cB p q → w1.heap.size ≤ p → 0 < cB → ¬ InB (fun k => k = b1) B := fun B cB p q hl hp hc ⟨a, ha, hb⟩ => by
        have h1 := (hl hc a ha).1
        have h2 := HB1.out.2
        have h3 : a.block = b1 := hb
        omega
      have hs0 := HK1.out.size
      have hs1 := HK2.out.size
      have hs2 := HKa.out.size
      have hs3 := HKb.out.size
      have hs4 := HKc.out.size
      have hs5 := HKd.out.size
      have hs6 := HKe.out.size
      have hs7 := HEO.out.size
      have hs8 := HK8.out.size
      have hs9 := HKr.out.size
      have HLu : Hid (Lies (some ⟨b2, 0, none⟩) (L2 + 4) w1.heap.size w2.heap.size) := fun _ a ha => by
        obtain rfl := Option.some.inj ha
        exact HB2.out
      have HLt : Hid (Lies (some ⟨b1, 0, none⟩) (L1 + 4) w.heap.size w1.heap.size) := fun _ a ha => by
        obtain rfl := Option.some.inj ha
        exact HB1.out
      have Oa : Hid (Ow EI wr Aa (L1 + L2) mz) := (HWa.out.keep (HAO.out.then_ HK8.out) (nobIn _)).keep2 HKr.out (hnb Aa _ _ _ HLa.out hs1)
      have Ob : Hid (Ow EI wr Ab (L1 + L2) mz) := (HWb.out.keep (HBO.out.then_ HK8.out) (nobIn _)).keep2 HKr.out (hnb Ab _ _ _ HLb.out (by omega))
      have Oc : Hid (Ow EI wr Ac cc uz) := (HWc.out.keep (HCO.out.then_ HK8.out) (nobIn _)).keep2 HKr.out (hnb Ac cc _ _ HLc.out (by omega))
      have Od : Hid (Ow EI wr Ad cd uz) := (HWd.out.keep (HDO.out.then_ HK8.out) (nobIn _)).keep2 HKr.out (hnb Ad cd _ _ HLd.out (by omega))
      have Oe : Hid (Ow EI wr Ae (L2 + L1) ez) := (HWe.out.keep (HEO.out.then_ HK8.out) (nobIn _)).keep2 HKr.out (hnb Ae _ _ _ HLe.out (by omega))
      have Ou : Hid (Ow EI wr (some ⟨b2, 0, none⟩) (L2 + 4) (ys ++ mks)) := ((HU2.out.keep H2O.out (nobIn _)).keep HK8.out (nobIn _)).keep2 HKr.out (hnb _ _ _ _ HLu.out (Nat.le_refl _))
      have HKW : Hid (Keep nob w wr) := (H0O.out.then_ HK8.out).trans HKr.out (fun b h1 h2 => by
        have h3 : b = b1 := h2
        have := HB1.out.1
        omega)
      have HSZ : Hid (w.heap.size ≤ w1.heap.size ∧ w1.heap.size ≤ w2.heap.size ∧ w2.heap.size ≤ wa.heap.size ∧ wa.heap.size ≤ wb.heap.size ∧ wb.heap.size ≤ wc.heap.size ∧ wc.heap.size ≤ wd.heap.size ∧ wd.heap.size ≤ we.heap.size ∧ we.heap.size ≤ wr.heap.size ∧ b1 < wr.heap.size ∧ b2 < wr.heap.size) := by
        have h1 := HB1.out.2
        have h2 := HB2.out.2
        exact ⟨hs0, hs1, hs2, hs3, hs4, hs5, hs6, by omega, by omega, by omega⟩
      clear hnb hs0 hs1 hs2 hs3 hs4 hs5 hs6 hs7 hs8 hs9 HWa HWb HWc HWd HWe HKa HKb HKc HKd HKe HAO HBO HCO HDO HEO H2O H0O HK8 HKr HT8 HT2 HT1 HU2 HZa HZb HZe HGw HGo
      have hdv2 : ¬ ((i : Int) < ((L1 / 2 : Nat) : Int)) := by omega
      obtain ⟨h2, HH2⟩ : ∃ h2, Hid (L1 / 2 = h2) := ⟨_, Lib.hid rfl⟩
      rw [HH2.out] at hdv hlt hdv2 hi ⊢
      obtain ⟨fz, HFZ⟩ : ∃ fz, Hid (mergeL (cmpR o) rs ys = fz) := ⟨_, Lib.hid rfl⟩
      have HFL : Hid (fz.length = L1 + L2) := by unfold Hid; rw [← HFZ.out, mergeL_len, HRL.out, hL2.out]
      obtain ⟨gz, HGZ⟩ : ∃ gz, Hid (uniqTo (cmpR o) rs L1 = gz) := ⟨_, Lib.hid rfl⟩
      obtain ⟨GL, HGLE⟩ : ∃ GL, Hid (gz.length = GL) := ⟨_, Lib.hid rfl⟩
      have HGL : Hid (GL ≤ 1000000000) := by unfold Hid; rw [← HGLE.out, ← HGZ.out]; exact Nat.le_trans (uniqTo_le _ _ _) HLL1.out
      go_upto_region 19 with (first
        | (go_at_call 15; go_must (refine (HF.out _).mono ?_); rintro e w' ⟨rfl, hw⟩; replace hw := hw.symm; subst hw)
        | (go_at_call 45; go_must (refine (HMG.out b1 b2 rs wr HRL.out HSZ.out.2.2.2.2.2.2.2.2.1 HSZ.out.2.2.2.2.2.2.2.2.2 HO.out Ou.out).mono ?_); rintro e wf ⟨rfl, ho, hz, hk⟩; rw [HFZ.out] at ho; have HWf := Lib.hid ho; have HZf := Lib.hid hz; have HKf := Lib.hid hk; clear ho hz hk))
      have HLf : Hid (Lies (some ⟨wr.heap.size, 0, none⟩) (L1 + L2) wr.heap.size wf.heap.size) := fun _ a ha => by
        obtain rfl := Option.some.inj ha
        exact ⟨Nat.le_refl _, HZf.out⟩
      obtain ⟨Af, HAf⟩ : ∃ A, Hid (A = (some ⟨wr.heap.size, 0, none⟩ : Option Addr)) := ⟨_, Lib.hid rfl⟩
      rw [← HAf.out] at HWf HLf ⊢
      go_upto_region 20 with (first
        | (go_at_call 15; go_must (refine (HF.out _).mono ?_); rintro e w' ⟨rfl, hw⟩; replace hw := hw.symm; subst hw)
        | (go_at_call 46; go_must (refine (HUN.out b1 rs wf HRL.out (HO.out.keep HKf.out (nobIn _))).mono ?_); rintro e wg ⟨Ag, cg, rfl, ho, hf, hk⟩; rw [HGZ.out] at ho; have HWg := Lib.hid ho; have HLg := Lib.hid (Lies.of ho hf); have HKg := Lib.hid hk; clear ho hf hk))
      rw [HGZ.out, HGLE.out]
      have HTS : Hid (Sl EI (wg.alloc (.cells #[] 27)) (some ⟨b1, 0, none⟩) (L1 + 4) rs) := (HO.out.front.sl.keep (HKf.out.then_ HKg.out) (nobIn _)).keep ((Keep.refl nob wg).alloc _) (nobIn _)
      have hb16 : (0 + L1) * 16 ≤ 140737488355328 := by omega
      have hb63 : 0 + L1 ≤ 9223372036854775807 := by omega
      go_upto_region 21 with (at_builtin; refine wpList_append_ow EI rfl _ _ 22 rfl 27 _ 16 Try.underlying22 info27 rfl (some ⟨wg.heap.size, 0, none⟩) 0 0 rfl [] rfl (Ow.nil_ _ _ _) (some ⟨b1, 0, none⟩) L1 (L1 + 4) rfl rs HRL.out HTS.out hb16 hb63 ?_; intro An cn w12 hap; have HAP := Lib.hid hap; clear hap)
      have HON : Hid (Ow EI w12 An cn rs) := by have := HAP.out.ow; rwa [List.nil_append] at this
      have HK12 : Hid (Keep nob wg w12) := by
        refine (((Keep.refl nob wg).alloc (.cells #[] 27)).trans HAP.out.keep (fun k h1 h2 => ?_))
        obtain ⟨a, ha, e⟩ := h2
        obtain rfl := Option.some.inj ha
        have h3 : wg.heap.size = k := e
        omega
      clear HTS HAP hb16 hb63
      have HKwn : Hid (Keep nob w w12) := HKW.out.then_ ((HKf.out.then_ HKg.out).then_ HK12.out)
      have HCf : Hid (∀ A9 c9 w', Keep nob w12 w' → Ow EI w' A9 c9 fz → Calls Try.prog 17 #[.slice Af (L1 + L2) (L1 + L2), .slice A9 (L1 + L2) c9] w' (fun e w'' => e = .returned (.bool true) ∧ Keep nob w' w'')) := fun A9 c9 w' hk ho =>
        same_ok Af A9 _ c9 (L1 + L2) fz w' HFL.out ((HWf.out.sl.keep (HKg.out.then_ HK12.out) (nobIn _)).keep hk (nobIn _)) ho.sl HLS1.out
      have HCg : Hid (∀ A9 c9 w', Keep nob w12 w' → Ow EI w' A9 c9 gz → Calls Try.prog 17 #[.slice Ag GL cg, .slice A9 GL c9] w' (fun e w'' => e = .returned (.bool true) ∧ Keep nob w' w'')) := fun A9 c9 w' hk ho =>
        same_ok Ag A9 _ c9 GL gz w' HGLE.out ((HWg.out.sl.keep HK12.out (nobIn _)).keep hk (nobIn _)) ho.sl HGL.out
      have tok1 := Lib.hid True.intro
      go_upto_region 23 with (first
        | (go_at_call 47; go_must (refine (refmerge_ok o An A1 cn c1 L1 L2 rs ys w12 HRL.out hL2.out HON.out.sl (HY.out.keep HKwn.out (nobIn _)) HLL1.out HLL2.out).mono ?_); rintro e w13 ⟨A9, c9, rfl, hg⟩; rw [HFZ.out] at hg; have HG13 := Lib.hid hg; clear hg)
        | (go_at_call 17; have _t := tok1; go_must (refine (HCf.out A9 c9 w13 HG13.out.keep HG13.out.ow).mono ?_); rintro e w14 ⟨rfl, hk⟩; have HK14 := Lib.hid (HG13.out.keep.then_ hk); clear hk _t tok1)
        | (go_at_call 48; go_must (refine (refunique_ok o An cn L1 rs w14 HRL.out (HON.out.sl.keep HK14.out (nobIn _)) HLL1.out).mono ?_); rintro e w15 ⟨Ah, ch, rfl, hg⟩; rw [HGZ.out, HGLE.out]; rw [HGZ.out] at hg; have HG15 := Lib.hid hg; clear hg)
        | (go_at_call 17; go_must (refine (HCg.out Ah ch w15 (HK14.out.then_ HG15.out.keep) HG15.out.ow).mono ?_); rintro e w16 ⟨rfl, hk⟩; have HK16 := Lib.hid ((HK14.out.then_ HG15.out.keep).then_ hk); clear hk))
      clear HON HY HCf HCg HG13 HK14 HG15
      have HKF : Hid (Keep nob wg w16) := HK12.out.then_ HK16.out
      obtain ⟨bs, HBS⟩ : ∃ bs, Hid (w16.heap.size = bs) := ⟨_, Lib.hid rfl⟩
      obtain ⟨w17, HW17⟩ : ∃ w17, Hid (w16.alloc (.cells #[.slice Aa (L1 + L2) (L1 + L2), .slice Ab (L1 + L2) (L1 + L2), .slice Ac UL cc, .slice Ad UL cd, .slice Ae (L2 + L1) (L2 + L1), .slice Af (L1 + L2) (L1 + L2), .slice Ag GL cg, .slice (some ⟨b1, 0, none⟩) L1 (L1 + 4), .slice (some ⟨b2, 0, none⟩) L2 (L2 + 4)] 22) = w17) := ⟨_, Lib.hid rfl⟩
      have HG15 : Hid (Keep nob wg w17) := by unfold Hid; rw [← HW17.out]; exact HKF.out.alloc _
      have HF15 : Hid (Keep nob wf w17) := HKg.out.then_ HG15.out
      have HR15 : Hid (Keep nob wr w17) := HKf.out.then_ HF15.out
      have HAP : Hid (Calls Try.prog 19 #[.slice (some ⟨bs, 0, none⟩) 9 9] w17 (fun e w' => e = .returned (.bool true) ∧ Keep nob w w')) := by
        have hsz := HSZ.out
        have hz1 := HKf.out.size
        have hz2 := HKg.out.size
        have hz3 := HKF.out.size
        have hbs := HBS.out
        have hM : Made w17 9 (pick9 none Aa Ab Ac Ad Ae Af Ag (some ⟨b1, 0, none⟩) (some ⟨b2, 0, none⟩)) (pick9 0 (L1 + L2) (L1 + L2) cc cd (L2 + L1) (L1 + L2) cg (L1 + 4) (L2 + 4)) (pick9 [] mz mz uz uz ez fz gz rs ys)
            (pick9 0 w2.heap.size wa.heap.size wb.heap.size wc.heap.size wd.heap.size wr.heap.size wf.heap.size w.heap.size w1.heap.size) (pick9 0 wa.heap.size wb.heap.size wc.heap.size wd.heap.size we.heap.size wf.heap.size wg.heap.size w1.heap.size w2.heap.size) := by
          refine ⟨fun j hj => ?_, fun j hj => ?_, fun i j hi hj hne => ?_⟩
          · match j, hj with
            | 0, _ => exact Oa.out.keep HR15.out (nobIn _)
            | 1, _ => exact Ob.out.keep HR15.out (nobIn _)
            | 2, _ => exact Oc.out.keep HR15.out (nobIn _)
            | 3, _ => exact Od.out.keep HR15.out (nobIn _)
            | 4, _ => exact Oe.out.keep HR15.out (nobIn _)
            | 5, _ => exact HWf.out.keep HF15.out (nobIn _)
            | 6, _ => exact HWg.out.keep HG15.out (nobIn _)
            | 7, _ => exact HO.out.front.keep HR15.out (nobIn _)
            | 8, _ => exact Ou.out.front.keep HR15.out (nobIn _)
          · match j, hj with
            | 0, _ => exact HLa.out
            | 1, _ => exact HLb.out
            | 2, _ => exact HLc.out
            | 3, _ => exact HLd.out
            | 4, _ => exact HLe.out
            | 5, _ => exact HLf.out
            | 6, _ => exact HLg.out
            | 7, _ => exact HLt.out
            | 8, _ => exact HLu.out
          · clear HR15 HF15 HG15
            rcases i with _ | _ | _ | _ | _ | _ | _ | _ | _ | i <;> rcases j with _ | _ | _ | _ | _ | _ | _ | _ | _ | j <;> simp only [pick9] <;> omega
        have hF := hM.fam (B := bs) (fun j hj => by
          rcases j with _ | _ | _ | _ | _ | _ | _ | _ | _ | j <;> simp only [pick9] <;> omega)
        have hbw : bs < w17.heap.size := by rw [← HW17.out, ← hbs]; simp
        refine (apart_ok 9 bs _ _ (pick9 0 (L1 + L2) (L1 + L2) UL UL (L2 + L1) (L1 + L2) GL L1 L2) _ w17 (by decide) hF (fun j hj => ?_) (fun j hj => ?_) (fun j hj => ?_) hbw).mono ?_
        · match j, hj with
          | 0, _ => exact HML.out
          | 1, _ => exact HML.out
          | 2, _ => exact HULE.out
          | 3, _ => exact HULE.out
          | 4, _ => exact HEL.out
          | 5, _ => exact HFL.out
          | 6, _ => exact HGLE.out
          | 7, _ => exact HRL.out
          | 8, _ => exact hL2.out
        · match j, hj with
          | 0, _ => exact HLS1.out
          | 1, _ => exact HLS1.out
          | 2, _ => exact HUL.out
          | 3, _ => exact HUL.out
          | 4, _ => exact HLS2.out
          | 5, _ => exact HLS1.out
          | 6, _ => exact HGL.out
          | 7, _ => exact HLL1.out
          | 8, _ => exact HLL2.out
        · rw [← HW17.out, ← hbs]
          match j, hj with
          | 0, _ => simp [pick9]
          | 1, _ => simp [pick9]
          | 2, _ => simp [pick9]
          | 3, _ => simp [pick9]
          | 4, _ => simp [pick9]
          | 5, _ => simp [pick9]
          | 6, _ => simp [pick9]
          | 7, _ => simp [pick9]
          | 8, _ => simp [pick9]
        · rintro e w' ⟨h1, h2⟩
          refine ⟨h1, (HKW.out.then_ HR15.out).trans h2 (fun k hk ⟨j, hj, hc, a, ha, e⟩ => ?_)⟩
          have h3 := (hM.lies j hj hc a ha).1
          have h4 : w.heap.size ≤ (pick9 0 w2.heap.size wa.heap.size wb.heap.size wc.heap.size wd.heap.size wr.heap.size wf.heap.size w.heap.size w1.heap.size) j := by
            rcases j with _ | _ | _ | _ | _ | _ | _ | _ | _ | j <;> simp only [pick9] <;> omega
          omega
      have HLV := Lib.hid lives_ok
      clear HO Oa Ob Oc Od Oe Ou HWf HWg HR15 HF15 HG15 HLa HLb HLc HLd HLe HLf HLg HLt HLu HSZ
      go_wp2_with (first
        | (go_at_call 19; rw [HW17.out, HBS.out]; go_must (refine HAP.out.mono ?_); rintro e w18 ⟨rfl, hk⟩; have HK18 := Lib.hid hk; clear hk)
        | (go_at_call 20; go_must (refine (HLV.out _).mono ?_); rintro e w19 ⟨rfl, hk⟩; have HK19 := Lib.hid hk; clear hk))
      go_ret
      exact ⟨rfl, HK18.out.then_ HK19.out⟩
end Go.Proofs.Ytnofckgnnpmiiaa
