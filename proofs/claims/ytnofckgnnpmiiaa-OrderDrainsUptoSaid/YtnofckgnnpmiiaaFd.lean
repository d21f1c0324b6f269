/- OrderFinds answers true, and keeps all memory that there was. -/
import Derived.Test.YtnofckgnnpmiiaaSn
import Derived.Test.YtnofckgnnpmiiaaLv
namespace Go.Proofs.Ytnofckgnnpmiiaa
open Go.RowKit Go.Shelf
attribute [local go_sem ↓] Go.wp_at_zero Go.wp_at_succ

theorem by_kept (o : Int) (w : World) : Calls Try.prog 15 #[.int .i64 o] w (fun e w' => e = .returned (.func (.func (byF o)) #[] #[]) ∧ Keep nob w w') :=
  (by_ok o w).mono fun e w' ⟨h1, h2⟩ => ⟨h1, by rw [h2]; exact Keep.refl _ _⟩
theorem search_det (o : Int) (A : Option Addr) (c L : Nat) (zs : List Item) (x : Item) (w : World) (hL : zs.length = L) (h : Sl EI w A c zs) (hl : L ≤ 1000000000) : Calls Try.prog 21 #[.slice A L c, EI.val x, .func (.func (byF o)) #[] #[]] w
    (fun e w' => e = .returned (.tuple #[.int .i64 ((bsearch (byC o) x zs 0 zs.length : Nat) : Int), .bool (alikeAt (cmpR o) x zs (bsearch (byC o) x zs 0 zs.length))]) ∧ Keep nob w w') := by
  subst hL
  refine (search_any (byOk o) A c 0 zs x w (Nat.zero_le _) h (nobIn A) hl trivial).mono ?_
  rintro e w' ⟨rfl, hn, hk, -⟩
  exact ⟨by rw [alikeAt_by], hk⟩
theorem bsearch_bound {α : Type} (c : α → α → Int) (x : α) (zs : List α) : ∀ (d lo hi : Nat), hi - lo ≤ d → lo ≤ hi → hi ≤ zs.length → bsearch c x zs lo hi ≤ hi
  | 0, lo, hi, h1, h2, h3 => by rw [bsearch_end (by omega)]; exact h2
  | d + 1, lo, hi, h1, h2, h3 => by
    by_cases hlt : lo < hi
    · obtain ⟨y, hy⟩ : ∃ y, zs[(lo + hi) / 2]? = some y := ⟨_, List.getElem?_eq_getElem (by omega)⟩
      rw [bsearch_step hlt hy]
      split
      · exact bsearch_bound c x zs d _ _ (by omega) (by omega) h3
      · exact Nat.le_trans (bsearch_bound c x zs d _ _ (by omega) (by omega) (by omega)) (by omega)
    · rw [bsearch_end hlt]; exact h2
theorem twice_det (o : Int) (A : Option Addr) (c L : Nat) (xs : List Item) (k : Int) (hk : TwSpec (cmpR o) xs k) (w : World) (hL : xs.length = L) (h : Sl EI w A c xs) (hl : L ≤ 1000000000) : Calls Try.prog 24 #[.slice A L c, .func (.func (byF o)) #[] #[]] w
    (fun e w' => e = .returned (.int .i64 k) ∧ Keep nob w w') :=
  (twice_by o A c L xs w hL h hl).mono fun e w' ⟨k', h1, h2, h3⟩ => ⟨by rw [h1, h2.unique hk], h3⟩
theorem reftwice_det (o : Int) (A : Option Addr) (c L : Nat) (xs : List Item) (k : Int) (hk : TwSpec (cmpR o) xs k) (w : World) (hL : xs.length = L) (h : Sl EI w A c xs) (hl : L ≤ 1000000000) : Calls Try.prog 25 #[.slice A L c, .int .i64 o] w
    (fun e w' => e = .returned (.int .i64 k) ∧ Keep nob w w') :=
  (reftwice_ok o A c L xs w hL h hl).mono fun e w' ⟨k', h1, h2, h3⟩ => ⟨by rw [h1, h2.unique hk], h3⟩
theorem twSpec_exists (o : Int) (xs : List Item) : ∃ k, TwSpec (cmpR o) xs k :=
  ⟨_, twice_spec (cmpR_keyed o) xs xs.length (Nat.le_of_lt Nat.lt_two_pow_self)⟩

set_option maxRecDepth 100000 in
set_option maxHeartbeats 8000000 in
theorem finds_ok (A : Option Addr) (c : Nat) (xs : List Item) (x : Item) (o : Int) (w : World) (h : Sl EI w A c xs) (hl : xs.length ≤ 100000000) :
    Calls Try.prog 4 #[.slice A xs.length c, EI.val x, .int .i64 o] w (fun e w' => e = .returned (.bool true) ∧ Keep nob w w') := by
  have H := Lib.hid h
  have hlc := h.le
  have hcc := h.cap
  obtain ⟨L, hL⟩ : ∃ L, Hid (xs.length = L) := ⟨_, Lib.hid rfl⟩
  rw [hL.out] at hlc ⊢
  have HLL : Hid (L ≤ 1000000000) := by unfold Hid; rw [← hL.out]; omega
  clear h hl
  show Calls Try.prog 4 #[.slice A L c, .agg #[.int .i64 x.1, .int .i64 x.2], .int .i64 o] w _
  obtain ⟨w1, HW1⟩ : ∃ w1, Hid (w.alloc (.cells #[.int .i64 x.1, .int .i64 x.2] 27) = w1) := ⟨_, Lib.hid rfl⟩
  have HK1 : Hid (Keep nob w w1) := by rw [← HW1.out]; exact (Keep.refl _ w).alloc _
  have x1 : w1.cell? ⟨w.heap.size, 0, none⟩ = some (.int .i64 x.1) := by rw [← HW1.out]; simp
  have x2 : w1.cell? ⟨w.heap.size, 1, none⟩ = some (.int .i64 x.2) := by rw [← HW1.out]; simp
  have HX : Hid (∀ w', Kept w1 w' → w'.cell? ⟨w.heap.size, 0, none⟩ = some (.int .i64 x.1) ∧ w'.cell? ⟨w.heap.size, 1, none⟩ = some (.int .i64 x.2)) := fun w' hk => ⟨hk.cell x1 (fun h => h), hk.cell x2 (fun h => h)⟩
  clear x1 x2
  have HS1 : Hid (Sl EI w1 A c xs) := H.out.keep HK1.out (nobIn _)
  go_enter Try.func4, Try.ntmps4
  go_upto_region 3 with (first
    | (go_at_call 13; rw [HW1.out]; go_must (refine (refsort_ok o A c L xs w1 hL.out HS1.out HLL.out).mono ?_); rintro e w2 ⟨A', c', zs, rfl, hz, hs, ho, hf, hk⟩; have HZ := Lib.hid hz; have HS := Lib.hid hs; have HO := Lib.hid ho; have HK2 := Lib.hid hk; clear hz hs ho hf hk)
    | (go_at_call 12; go_must (refine (lend_ok A' c' L zs w2 HZ.out HO.out.sl HLL.out).mono ?_); rintro e w3 ⟨b1, rfl, hb, hb', ho, hk⟩; have HO3 := Lib.hid ho; have HK3 := Lib.hid hk; clear ho hk hb hb'))
  have HKX3 : Hid (Keep nob w1 w3) := HK2.out.then_ HK3.out
  have HSZ : Hid (∀ w', Kept w3 w' → Sl EI w' A' c' zs) := fun w' hk => (HO.out.sl.keep HK3.out (nobIn _)).keep hk (nobIn _)
  have HST : Hid (∀ w', Kept w3 w' → Sl EI w' (some ⟨b1, 0, none⟩) (L + 4) zs) := fun w' hk => by
    have := (HO3.out.sl.take L).keep hk (nobIn _)
    rw [← HZ.out, List.take_left, HZ.out] at this
    exact this
  obtain ⟨N, HN⟩ : ∃ N, Hid (bsearch (byC o) x zs 0 zs.length = N) := ⟨_, Lib.hid rfl⟩
  have HFN : Hid (FoundAt (cmpR o) x zs N) := by rw [← HN.out]; exact (bsearch_all (byC_keyed o) x zs HS.out.up).byC
  obtain ⟨β, HBE⟩ : ∃ β, Hid (alikeAt (cmpR o) x zs N = β) := ⟨_, Lib.hid rfl⟩
  have HSD : Hid (∀ w', Kept w3 w' → Calls Try.prog 21 #[.slice (some ⟨b1, 0, none⟩) L (L + 4), EI.val x, .func (.func (byF o)) #[] #[]] w' (fun e w'' => e = .returned (.tuple #[.int .i64 (N : Int), .bool β]) ∧ Keep nob w' w'')) := fun w' hk => by
    have := search_det o (some ⟨b1, 0, none⟩) (L + 4) L zs x w' HZ.out (HST.out w' hk) HLL.out
    rw [HN.out, HBE.out] at this
    exact this
  have HBY := Lib.hid (by_kept o)
  have HX3 : Hid (∀ w', Kept w3 w' → w'.cell? ⟨w.heap.size, 0, none⟩ = some (.int .i64 x.1) ∧ w'.cell? ⟨w.heap.size, 1, none⟩ = some (.int .i64 x.2)) := fun w' hk => HX.out w' (HKX3.out.then_ hk)
  refine wp_region_kept (by kernel_rfl) (by kernel_rfl) (QV.out ?_)
  repeat (first
    | (refine kq_skip (by rfl) (fun K hK => ?_); go_simp; refine hK _ ?_; clear hK K)
    | (refine kq_want (by rfl) (fun K hK => ?_); first
        | (refine BigFrame.quiet_move _ rfl ?_; go_simp; refine hK _ ?_; clear hK K)
        | (refine kq_still ?_ (fun w' hw' => ?_) ?_; rotate_left; (obtain ⟨c1, c2⟩ := HX3.out w' hw'; go_simp; first | done | exact rfl); go_simp; refine hK _ ?_; clear hK K)
        | (go_simp; apply Exists.intro; refine ⟨fun w' hw' => ?_, hK _ ?_⟩; (first | (go_at_call 15; refine (HBY.out w').mono ?_) | (go_at_call 21; refine (HSD.out w' hw').mono ?_)); rintro e w'' ⟨rfl, hk''⟩; exact ⟨rfl, hw'.then_ hk''⟩; clear hK K)))
  refine ⟨wpQuiet_nil ?_⟩
  intro w4 hk4
  obtain ⟨y1, y2⟩ := HX3.out w4 hk4
  have hbb : (β != β) = false := by cases β <;> rfl
  have HRS : Hid (Calls Try.prog 22 #[.slice A' L c', EI.val x, .int .i64 o] w4 (fun e w' => e = .returned (.tuple #[.int .i64 (N : Int), .bool β]) ∧ Keep nob w4 w')) := by
    refine (refsearch_ok o A' c' L zs x w4 HZ.out (HSZ.out w4 hk4) HLL.out).mono ?_
    rintro e w' ⟨m, rfl, -, hf, hk⟩
    have e1 : m = N := (hf HS.out.up).unique HFN.out
    rw [e1, HBE.out]
    exact ⟨rfl, hk⟩
  have HK4 : Hid (Keep nob w3 w4) := hk4
  clear hk4
  have HLF : Hid (∀ w', Keep nob w4 w' → Calls Try.prog 18 #[.slice (some ⟨b1, 0, none⟩) L (L + 4), .slice A' L c'] w' (fun e w'' => e = .returned (.bool true) ∧ Keep nob w' w'')) := fun w' hk =>
    left_ok A' b1 c' L zs w' HZ.out ((HO3.out.keep HK4.out (nobIn _)).keep hk (nobIn _)) (HSZ.out w' (HK4.out.then_ hk)) HLL.out
  have HLD : Hid (∀ w', Keep nob w4 w' → Calls Try.prog 12 #[.slice A L c] w' (fun e w'' => ∃ b, e = .returned (.slice (some ⟨b, 0, none⟩) L (L + 4)) ∧ w'.heap.size ≤ b ∧ b < w''.heap.size ∧ Ow EI w'' (some ⟨b, 0, none⟩) (L + 4) (xs ++ mks) ∧ Keep nob w' w'')) := fun w' hk =>
    lend_ok A c L xs w' hL.out (HS1.out.keep ((HKX3.out.then_ HK4.out).then_ hk) (nobIn _)) HLL.out
  go_upto_region 8 with (first
    | (go_at_call 22; go_must (refine HRS.out.mono ?_); rintro e w5 ⟨rfl, hk⟩; have HK5 := Lib.hid hk; clear hk)
    | (go_at_call 18; go_must (refine (HLF.out w5 HK5.out).mono ?_); rintro e w6 ⟨rfl, hk⟩; have HK6 := Lib.hid (HK5.out.then_ hk); clear hk)
    | (go_at_call 12; go_must (refine (HLD.out w6 HK6.out).mono ?_); rintro e w7 ⟨b2, rfl, -, -, ho, hk⟩; have HO7 := Lib.hid ho; have HK7 := Lib.hid (HK6.out.then_ hk); clear ho hk))
  have HKX7 : Hid (Keep nob w1 w7) := (HKX3.out.then_ HK4.out).then_ HK7.out
  have HX7 : Hid (∀ w', Kept w7 w' → w'.cell? ⟨w.heap.size, 0, none⟩ = some (.int .i64 x.1) ∧ w'.cell? ⟨w.heap.size, 1, none⟩ = some (.int .i64 x.2)) := fun w' hk => HX.out w' (HKX7.out.then_ hk)
  have HSL : Hid (∀ w', Kept w7 w' → Sl EI w' A c xs) := fun w' hk => HS1.out.keep (HKX7.out.then_ hk) (nobIn _)
  have HSU : Hid (∀ w', Kept w7 w' → Sl EI w' (some ⟨b2, 0, none⟩) (L + 4) xs) := fun w' hk => by
    have := (HO7.out.sl.take L).keep hk (nobIn _)
    rw [← hL.out, List.take_left, hL.out] at this
    exact this
  clear HX3 HSZ HST HRS HSD HLF HLD HFN HBE y1 y2 hbb HN
  obtain ⟨K1, HKV⟩ : ∃ K1, Hid (bsearch (byC o) x xs 0 xs.length = K1) := ⟨_, Lib.hid rfl⟩
  have hK1 : K1 ≤ L := by rw [← HKV.out, ← hL.out]; exact bsearch_bound _ _ _ _ _ _ (Nat.le_refl _) (Nat.zero_le _) (Nat.le_refl _)
  obtain ⟨γ, HGA⟩ : ∃ γ, Hid (alikeAt (cmpR o) x xs K1 = γ) := ⟨_, Lib.hid rfl⟩
  have HSD : Hid (∀ w', Kept w7 w' → Calls Try.prog 21 #[.slice (some ⟨b2, 0, none⟩) L (L + 4), EI.val x, .func (.func (byF o)) #[] #[]] w' (fun e w'' => e = .returned (.tuple #[.int .i64 (K1 : Int), .bool γ]) ∧ Keep nob w' w'')) := fun w' hk => by
    have := search_det o (some ⟨b2, 0, none⟩) (L + 4) L xs x w' hL.out (HSU.out w' hk) HLL.out
    rw [HKV.out, HGA.out] at this
    exact this
  refine wp_region_kept (by kernel_rfl) (by kernel_rfl) (QV.out ?_)
  repeat (first
    | (refine kq_skip (by rfl) (fun K hK => ?_); go_simp; refine hK _ ?_; clear hK K)
    | (refine kq_want (by rfl) (fun K hK => ?_); first
        | (refine BigFrame.quiet_move _ rfl ?_; go_simp; refine hK _ ?_; clear hK K)
        | (refine kq_still ?_ (fun w' hw' => ?_) ?_; rotate_left; (obtain ⟨c1, c2⟩ := HX7.out w' hw'; go_simp; first | done | exact rfl); go_simp; refine hK _ ?_; clear hK K)
        | (go_simp; apply Exists.intro; refine ⟨fun w' hw' => ?_, hK _ ?_⟩; (first | (go_at_call 15; refine (HBY.out w').mono ?_) | (go_at_call 21; refine (HSD.out w' hw').mono ?_)); rintro e w'' ⟨rfl, hk''⟩; exact ⟨rfl, hw'.then_ hk''⟩; clear hK K)))
  refine ⟨wpQuiet_nil ?_⟩
  intro w8 hk8
  clear HSD HKV
  have HKX8 : Hid (Kept w7 w8) := hk8
  clear hk8
  obtain ⟨kt, HTW⟩ : ∃ kt, Hid (TwSpec (cmpR o) xs kt) := twSpec_exists o xs
  have HTD : Hid (∀ w', Kept w8 w' → Calls Try.prog 24 #[.slice (some ⟨b2, 0, none⟩) L (L + 4), .func (.func (byF o)) #[] #[]] w' (fun e w'' => e = .returned (.int .i64 kt) ∧ Keep nob w' w'')) := fun w' hk =>
    twice_det o _ (L + 4) L xs kt HTW.out w' hL.out (HSU.out w' (HKX8.out.then_ hk)) HLL.out
  have HRT : Hid (∀ w', Kept w8 w' → Calls Try.prog 25 #[.slice A L c, .int .i64 o] w' (fun e w'' => e = .returned (.int .i64 kt) ∧ Keep nob w' w'')) := fun w' hk =>
    reftwice_det o A c L xs kt HTW.out w' hL.out (HSL.out w' (HKX8.out.then_ hk)) HLL.out
  have HLF : Hid (∀ w', Kept w8 w' → Calls Try.prog 18 #[.slice (some ⟨b2, 0, none⟩) L (L + 4), .slice A L c] w' (fun e w'' => e = .returned (.bool true) ∧ Keep nob w' w'')) := fun w' hk =>
    left_ok A b2 c L xs w' hL.out (HO7.out.keep (HKX8.out.then_ hk) (nobIn _)) (HSL.out w' (HKX8.out.then_ hk)) HLL.out
  have hLb : (L : Int) ≤ 1000000000 := by have := HLL.out; omega
  have hk0 : (0 : Int) ≤ (K1 : Int) := by omega
  have hkL : (K1 : Int) ≤ (L : Int) := by omega
  have hn0 : ¬ ((K1 : Int) < 0) := by omega
  have hnL : ¬ (L < K1) := by omega
  have hd2 : decide ((K1 : Int) < 0) = false := decide_eq_false hn0
  have hd3 : decide (L < K1) = false := decide_eq_false hnL
  have HLV := Lib.hid lives_ok
  have HSN := Lib.hid (search_none (some ⟨b2, 0, none⟩) L (L + 4) x)
  have HTN := Lib.hid (twice_none (some ⟨b2, 0, none⟩) L (L + 4))
  have HEND : Hid (Kept w w8) := (HK1.out.then_ HKX7.out).then_ HKX8.out
  by_cases hlt : K1 < L
  · have hk1 : (K1 : Int) < (L : Int) := by omega
    have hd1 : decide ((K1 : Int) < (L : Int)) = true := decide_eq_true hk1
    have hd4 : decide (K1 < L) = true := decide_eq_true hlt
    obtain ⟨b3, o3, rfl, hy⟩ := (HSL.out w8 HKX8.out).elem (i := K1) (by rw [hL.out]; exact hlt)
    obtain ⟨y, HY⟩ : ∃ y, Hid (xs[K1]'(by rw [hL.out]; exact hlt) = y) := ⟨_, Lib.hid rfl⟩
    have HYE : Hid (xs[K1]? = some y) := by unfold Hid; rw [← HY.out]; exact List.getElem?_eq_getElem _
    rw [HY.out] at hy
    have hy1 := hy 0 _ rfl
    have hy2 := hy 1 _ rfl
    simp only [EI, Nat.add_zero] at hy1 hy2
    have HF8 : Hid (∀ w', Kept w8 w' → w'.cell? ⟨w.heap.size, 0, none⟩ = some (.int .i64 x.1) ∧ w'.cell? ⟨w.heap.size, 1, none⟩ = some (.int .i64 x.2) ∧ w'.cell? ⟨b3, o3 + K1 * 2, none⟩ = some (.int .i64 y.1) ∧ w'.cell? ⟨b3, o3 + K1 * 2 + 1, none⟩ = some (.int .i64 y.2)) :=
      fun w' hk => ⟨(HX7.out w' (HKX8.out.then_ hk)).1, (HX7.out w' (HKX8.out.then_ hk)).2, hk.cell hy1 (fun h => h), hk.cell hy2 (fun h => h)⟩
    have HCM := Lib.hid (cmp_ok o y x)
    obtain ⟨cv, HCV⟩ : ∃ cv, Hid (cmpR o y x = cv) := ⟨_, Lib.hid rfl⟩
    have HG : Hid (γ = (cv == 0)) := by unfold Hid; rw [← HGA.out, ← HCV.out]; unfold alikeAt; rw [HYE.out]
    rw [HCV.out] at HCM
    clear hy hy1 hy2 HY HGA
    by_cases hcv : cv = 0
    · have hg : γ = true := by rw [HG.out, hcv]; rfl
      subst hg
      subst hcv
      go_wp2_with (fail)
      refine wp_region_kept (by kernel_rfl) (by kernel_rfl) (QV.out ?_)
      repeat (first
        | (refine kq_skip (by rfl) (fun K hK => ?_); go_simp; refine hK _ ?_; clear hK K)
        | (refine kq_want (by rfl) (fun K hK => ?_); first
            | (refine BigFrame.quiet_move _ rfl ?_; go_simp; refine hK _ ?_; clear hK K)
            | (refine kq_still ?_ (fun w' hw' => ?_) ?_; rotate_left; (obtain ⟨c1, c2, c3, c4⟩ := HF8.out w' hw'; go_simp; first | done | exact rfl); go_simp; refine hK _ ?_; clear hK K)
            | (go_simp; apply Exists.intro; refine ⟨fun w' hw' => ?_, hK _ ?_⟩; (first | (go_at_call 15; refine (HBY.out w').mono ?_) | (go_at_call 24; refine (HTD.out w' hw').mono ?_) | (go_at_call 25; refine (HRT.out w' hw').mono ?_) | (go_at_call 18; refine (HLF.out w' hw').mono ?_) | (go_at_call 23; refine (HCM.out w').mono ?_)); rintro e w'' ⟨rfl, hk''⟩; exact ⟨rfl, hw'.then_ hk''⟩; clear hK K)))
      refine ⟨wpQuiet_nil ?_⟩
      intro w9 hk9
      have HK9 : Hid (Kept w w9) := HEND.out.then_ hk9
      obtain ⟨d1, d2⟩ := HX7.out w9 (HKX8.out.then_ hk9)
      clear hk9
      go_wp2_with (first
        | (go_at_call 21; go_must (refine (HSN.out _).mono ?_); rintro e wa ⟨rfl, hk⟩; have HKa := Lib.hid hk; clear hk)
        | (go_at_call 24; go_must (refine (HTN.out _).mono ?_); rintro e wb ⟨rfl, hk⟩; have HKb := Lib.hid hk; clear hk)
        | (go_at_call 20; go_must (refine (HLV.out _).mono ?_); rintro e wc ⟨rfl, hk⟩; have HKc := Lib.hid hk; clear hk))
      go_ret
      exact ⟨rfl, ((HK9.out.then_ HKa.out).then_ HKb.out).then_ HKc.out⟩
    · have hg : γ = false := by rw [HG.out]; simpa using hcv
      have hc0 : (cv == 0) = false := by simpa using hcv
      subst hg
      go_wp2_with (fail)
      refine wp_region_kept (by kernel_rfl) (by kernel_rfl) (QV.out ?_)
      repeat (first
        | (refine kq_skip (by rfl) (fun K hK => ?_); go_simp; refine hK _ ?_; clear hK K)
        | (refine kq_want (by rfl) (fun K hK => ?_); first
            | (refine BigFrame.quiet_move _ rfl ?_; go_simp; refine hK _ ?_; clear hK K)
            | (refine kq_still ?_ (fun w' hw' => ?_) ?_; rotate_left; (obtain ⟨c1, c2, c3, c4⟩ := HF8.out w' hw'; go_simp; first | done | exact rfl); go_simp; refine hK _ ?_; clear hK K)
            | (go_simp; apply Exists.intro; refine ⟨fun w' hw' => ?_, hK _ ?_⟩; (first | (go_at_call 15; refine (HBY.out w').mono ?_) | (go_at_call 24; refine (HTD.out w' hw').mono ?_) | (go_at_call 25; refine (HRT.out w' hw').mono ?_) | (go_at_call 18; refine (HLF.out w' hw').mono ?_) | (go_at_call 23; refine (HCM.out w').mono ?_)); rintro e w'' ⟨rfl, hk''⟩; exact ⟨rfl, hw'.then_ hk''⟩; clear hK K)))
      refine ⟨wpQuiet_nil ?_⟩
      intro w9 hk9
      have HK9 : Hid (Kept w w9) := HEND.out.then_ hk9
      obtain ⟨d1, d2⟩ := HX7.out w9 (HKX8.out.then_ hk9)
      clear hk9
      go_wp2_with (first
        | (go_at_call 21; go_must (refine (HSN.out _).mono ?_); rintro e wa ⟨rfl, hk⟩; have HKa := Lib.hid hk; clear hk)
        | (go_at_call 24; go_must (refine (HTN.out _).mono ?_); rintro e wb ⟨rfl, hk⟩; have HKb := Lib.hid hk; clear hk)
        | (go_at_call 20; go_must (refine (HLV.out _).mono ?_); rintro e wc ⟨rfl, hk⟩; have HKc := Lib.hid hk; clear hk))
      go_ret
      exact ⟨rfl, ((HK9.out.then_ HKa.out).then_ HKb.out).then_ HKc.out⟩
  · have hKL : K1 = L := by omega
    have hd1 : decide ((K1 : Int) < (L : Int)) = false := decide_eq_false (by omega)
    have hd4 : decide (K1 < L) = false := decide_eq_false hlt
    have hg : γ = false := by rw [← HGA.out]; unfold alikeAt; rw [List.getElem?_eq_none (by rw [hL.out]; omega)]
    clear hKL
    subst hg
    go_wp2_with (fail)
    refine wp_region_kept (by kernel_rfl) (by kernel_rfl) (QV.out ?_)
    repeat (first
      | (refine kq_skip (by rfl) (fun K hK => ?_); go_simp; refine hK _ ?_; clear hK K)
      | (refine kq_want (by rfl) (fun K hK => ?_); first
          | (refine BigFrame.quiet_move _ rfl ?_; go_simp; refine hK _ ?_; clear hK K)
          | (refine kq_still ?_ (fun w' hw' => ?_) ?_; rotate_left; (obtain ⟨c1, c2⟩ := HX7.out w' (HKX8.out.then_ hw'); go_simp; first | done | exact rfl); go_simp; refine hK _ ?_; clear hK K)
          | (go_simp; apply Exists.intro; refine ⟨fun w' hw' => ?_, hK _ ?_⟩; (first | (go_at_call 15; refine (HBY.out w').mono ?_) | (go_at_call 24; refine (HTD.out w' hw').mono ?_) | (go_at_call 25; refine (HRT.out w' hw').mono ?_) | (go_at_call 18; refine (HLF.out w' hw').mono ?_)); rintro e w'' ⟨rfl, hk''⟩; exact ⟨rfl, hw'.then_ hk''⟩; clear hK K)))
    refine ⟨wpQuiet_nil ?_⟩
    intro w9 hk9
    have HK9 : Hid (Kept w w9) := HEND.out.then_ hk9
    obtain ⟨d1, d2⟩ := HX7.out w9 (HKX8.out.then_ hk9)
    clear hk9
    go_wp2_with (first
      | (go_at_call 21; go_must (refine (HSN.out _).mono ?_); rintro e wa ⟨rfl, hk⟩; have HKa := Lib.hid hk; clear hk)
      | (go_at_call 24; go_must (refine (HTN.out _).mono ?_); rintro e wb ⟨rfl, hk⟩; have HKb := Lib.hid hk; clear hk)
      | (go_at_call 20; go_must (refine (HLV.out _).mono ?_); rintro e wc ⟨rfl, hk⟩; have HKc := Lib.hid hk; clear hk))
    go_ret
    exact ⟨rfl, ((HK9.out.then_ HKa.out).then_ HKb.out).then_ HKc.out⟩
end Go.Proofs.Ytnofckgnnpmiiaa
