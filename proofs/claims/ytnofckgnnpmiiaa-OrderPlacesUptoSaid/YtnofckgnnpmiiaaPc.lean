/- OrderPlaces answers true, and keeps all memory that there was. -/
import Derived.Test.YtnofckgnnpmiiaaOc
import Derived.Test.YtnofckgnnpmiiaaLv
namespace Go.Proofs.Ytnofckgnnpmiiaa
open Go.RowKit Go.Shelf
attribute [local go_sem ↓] Go.wp_at_zero Go.wp_at_succ

set_option maxRecDepth 100000 in
set_option maxHeartbeats 8000000 in
theorem places_ok (A : Option Addr) (c : Nat) (xs : List Item) (x : Item) (o : Int) (w : World) (h : Sl EI w A c xs) (hl : xs.length ≤ 1000000000) :
    Calls Try.prog 5 #[.slice A xs.length c, EI.val x, .int .i64 o] w (fun e w' => e = .returned (.bool true) ∧ Keep nob w w') := by
  have H := Lib.hid h
  have HL := Lib.hid hl
  have hlc := h.le
  have hcc := h.cap
  obtain ⟨L, hL⟩ : ∃ L, Hid (xs.length = L) := ⟨_, Lib.hid rfl⟩
  rw [hL.out] at hlc ⊢
  clear h hl
  show Calls Try.prog 5 #[.slice A L c, .agg #[.int .i64 x.1, .int .i64 x.2], .int .i64 o] w _
  have HLL : Hid (L ≤ 1000000000) := by rw [← hL.out]; exact HL.out
  obtain ⟨w1, HW1⟩ : ∃ w1, Hid (w.alloc (.cells #[.int .i64 x.1, .int .i64 x.2] 27) = w1) := ⟨_, Lib.hid rfl⟩
  have HK1 : Hid (Keep nob w w1) := by rw [← HW1.out]; exact (Keep.refl _ w).alloc _
  have x1 : w1.cell? ⟨w.heap.size, 0, none⟩ = some (.int .i64 x.1) := by rw [← HW1.out]; simp
  have x2 : w1.cell? ⟨w.heap.size, 1, none⟩ = some (.int .i64 x.2) := by rw [← HW1.out]; simp
  have HF := Lib.hid (by_ok o)
  go_enter Try.func5, Try.ntmps5
  go_upto_region 2 with (first
    | (go_at_call 15; rw [HW1.out]; go_must (refine (HF.out _).mono ?_); rintro e w' ⟨rfl, hw⟩; replace hw := hw.symm; subst hw)
    | (go_at_call 14; go_must (refine (sort_by o A c L xs w1 hL.out (H.out.keep HK1.out (nobIn _)) HLL.out).mono ?_); rintro e w2 ⟨A', c', zs, rfl, hz, hs, ho, hf, hk⟩; have HZ := Lib.hid hz; have HS := Lib.hid hs; have HO := Lib.hid ho; have HK2 := Lib.hid hk; clear hz hs ho hf hk))
  have y1 := HK2.out.cell x1 (fun h => h)
  have y2 := HK2.out.cell x2 (fun h => h)
  clear x1 x2
  generalize hbx : w.heap.size = bx at *
  have HBX := Lib.hid hbx
  clear hbx
  go_region_held3 (fun w' => w'.cell? ⟨bx, 0, none⟩ = some (.int .i64 x.1) ∧ w'.cell? ⟨bx, 1, none⟩ = some (.int .i64 x.2)) (first | go_keep | exact ⟨hk3.cell y1 (fun h => h), hk3.cell y2 (fun h => h)⟩)
    (first
    | (go_at_call 15; refine (HF.out _).mono ?_; rintro e w' ⟨rfl, hw⟩; replace hw := hw.symm; subst hw)
    | (go_at_call 21; refine (search_by o A' c' L zs x w2.drew HZ.out (HO.out.sl.keep ((Keep.refl nob w2).drew) (nobIn _)) HLL.out).mono ?_; rintro e w3 ⟨N, rfl, hN, hfnd, hk3⟩))
  have z1 := hk3.cell y1 (fun h => h)
  have z2 := hk3.cell y2 (fun h => h)
  have HF3 := Lib.hid (hfnd HS.out.up)
  obtain ⟨β, HB⟩ : ∃ β, Hid (alikeAt (cmpR o) x zs N = β) := ⟨_, Lib.hid rfl⟩
  have HB' : Hid (xs.any (fun y => cmpR o y x == 0) = β) := by rw [← HB.out, HF3.out.alike (cmpR_keyed o) HS.out.up]; exact (HS.out.perm.any_eq).symm
  have HN' : Hid (xs.countP (fun y => decide (cmpR o y x < 0)) = N) := by rw [← HF3.out.count]; exact (HS.out.perm.countP_eq _).symm
  rw [HB.out]
  have HK3 : Hid (Keep nob w w3) := (HK1.out.then_ HK2.out).then_ hk3.of_drew
  have HNL := Lib.hid hN
  clear HB hN hfnd hk3 y1 y2 HF3 HW1 HO HZ HS HK1 HK2 HBX
  go_wp2_with (fail)
  go_loopw [10, 11, 12] (fun u10 u11 u12 wr => ∃ i : Nat, i ≤ L ∧ u12 = .int .i64 (i : Int) ∧ u10 = .int .i64 (((xs.take i).countP (fun y => decide (cmpR o y x < 0)) : Nat) : Int) ∧ u11 = .bool ((xs.take i).any (fun y => cmpR o y x == 0)) ∧ Hid (Keep nob w wr) ∧ wr.cell? ⟨bx, 0, none⟩ = some (.int .i64 x.1) ∧ wr.cell? ⟨bx, 1, none⟩ = some (.int .i64 x.2))
    (fun _ _ u12 _ => ((L : Int) - intOf u12).toNat)
  case atStart => exact ⟨0, Nat.zero_le _, rfl, rfl, rfl, HK3, z1, z2⟩
  case round =>
    obtain ⟨i, hi, rfl, rfl, rfl, HKr, z1, z2⟩ := hrel
    by_cases hlt : i < L
    · have hlt' : i < xs.length := by rw [hL.out]; exact hlt
      obtain ⟨b1, o1, rfl, hy⟩ := (H.out.keep HKr.out (nobIn _)).elem hlt'
      obtain ⟨y, HY⟩ : ∃ y, Hid (xs[i] = y) := ⟨_, Lib.hid rfl⟩
      rw [HY.out] at hy
      have hy1 := hy 0 _ rfl
      have hy2 := hy 1 _ rfl
      simp only [EI, Nat.add_zero] at hy1 hy2
      have hi0 : (0 : Int) ≤ (i : Int) := by omega
      have hi1 : (i : Int) < (L : Int) := by omega
      have HCM := Lib.hid (cmp_ok o y x)
      have HT1 : Hid ((xs.take (i + 1)).countP (fun y => decide (cmpR o y x < 0)) = (xs.take i).countP (fun y => decide (cmpR o y x < 0)) + if cmpR o y x < 0 then 1 else 0) := by
        unfold Hid
        rw [List.take_succ_eq_append_getElem hlt', HY.out, List.countP_append, List.countP_singleton]
        by_cases hc : cmpR o y x < 0 <;> simp [hc]
      have HT2 : Hid ((xs.take (i + 1)).any (fun y => cmpR o y x == 0) = ((xs.take i).any (fun y => cmpR o y x == 0) || cmpR o y x == 0)) := by
        unfold Hid
        rw [List.take_succ_eq_append_getElem hlt', HY.out, List.any_append]
        simp
      have HNN : Hid ((xs.take i).countP (fun y => decide (cmpR o y x < 0)) ≤ i) := by
        have h1 := List.countP_le_length (p := fun y => decide (cmpR o y x < 0)) (l := xs.take i)
        rw [List.length_take] at h1
        unfold Hid
        omega
      generalize (xs.take i).countP (fun y => decide (cmpR o y x < 0)) = cnt at HT1 HNN ⊢
      generalize (xs.take i).any (fun y => cmpR o y x == 0) = bt at HT2 ⊢
      generalize cmpR o y x = cv at HCM HT1 HT2
      clear hy
      have hLb : (L : Int) ≤ 1000000000 := by have := HLL.out; omega
      have hcn : (cnt : Int) ≤ 1000000000 := by have := HNN.out; omega
      go_wp2_with (fail)
      refine wp_region_mid 6 _ rfl rfl (by kernel_rfl) (by kernel_rfl) ?_
      simp only [List.take_succ_cons, List.take_zero]
      repeat still_step
      refine wpStill_nil ?_
      intro K hK
      go_simp
      refine (HCM.out wr.drew).mono ?_
      rintro e w4 ⟨rfl, hk4⟩
      refine hK _ _ ?_
      clear hK K
      simp only [List.drop_succ_cons, List.drop_zero]
      refine Veil.out ?_
      repeat (refine veil_step (fun K hK => ?_); go_simp; refine hK _ ?_; clear hK K)
      refine ⟨wpStill_nil ?_⟩
      have zz1 := hk4.cell z1 (fun h => h)
      have zz2 := hk4.cell z2 (fun h => h)
      have HK4 : Hid (Keep nob w w4) := HKr.out.then_ hk4.of_drew
      clear hk4 z1 z2 hy1 hy2 HY HCM
      have HRR : Hid (∀ e1 e2 : Value, e1 = .int .i64 ((cnt + if cv < 0 then 1 else 0 : Nat) : Int) → e2 = .bool (bt || cv == 0) → ∃ j : Nat, j ≤ L ∧ Value.int .i64 ((i : Int) + 1) = .int .i64 (j : Int) ∧ e1 = .int .i64 (((xs.take j).countP (fun y => decide (cmpR o y x < 0)) : Nat) : Int) ∧ e2 = .bool ((xs.take j).any (fun y => cmpR o y x == 0)) ∧ Hid (Keep nob w w4) ∧ w4.cell? ⟨bx, 0, none⟩ = some (.int .i64 x.1) ∧ w4.cell? ⟨bx, 1, none⟩ = some (.int .i64 x.2)) := by
        intro e1 e2 h1 h2
        refine ⟨i + 1, hlt, by simp, ?_, ?_, HK4, zz1, zz2⟩
        · rw [h1, HT1.out]
        · rw [h2, HT2.out]
      clear HT1 HT2 HK4 zz1 zz2 HN' HB'
      by_cases hcv : cv < 0
      · cases bt
        · go_wp2
          go_roundw
          case rel => exact HRR.out _ _ (by rw [if_pos hcv]; go_num) (by simp)
          case measure => simp [intOf]; omega
        · go_wp2
          go_roundw
          case rel => exact HRR.out _ _ (by rw [if_pos hcv]; go_num) (by simp)
          case measure => simp [intOf]; omega
      · cases bt
        · go_wp2
          go_roundw
          case rel => exact HRR.out _ _ (by rw [if_neg hcv]; go_num) (by simp)
          case measure => simp [intOf]; omega
        · go_wp2
          go_roundw
          case rel => exact HRR.out _ _ (by rw [if_neg hcv]; go_num) (by simp)
          case measure => simp [intOf]; omega
    · have hiL : i = L := by omega
      subst hiL
      have e1 : xs.take i = xs := List.take_of_length_le (by rw [hL.out]; exact Nat.le_refl _)
      rw [e1, HN'.out, HB'.out]
      clear e1 HN' HB' z1 z2
      go_upto_region 12 with (first
        | (go_at_call 15; go_must (refine (HF.out _).mono ?_); rintro e w' ⟨rfl, hw⟩; replace hw := hw.symm; subst hw)
        | (go_at_call 24; go_must (refine (twice_by o A c i xs wr hL.out (H.out.keep HKr.out (nobIn _)) HLL.out).mono ?_); rintro e w5 ⟨k, rfl, htw, hk⟩; have HTW := Lib.hid htw; have HK5 := Lib.hid (HKr.out.then_ hk); clear htw hk))
      have HLV := Lib.hid lives_ok
      rcases HTW.out with ⟨rfl, -⟩ | ⟨n, rfl, hd, hmin⟩
      · cases β <;> (go_wp2_with (go_at_call 20; go_must (refine (HLV.out _).mono ?_); rintro e w6 ⟨rfl, hk6⟩; have HK6 := Lib.hid hk6; clear hk6)) <;> go_ret <;> exact ⟨rfl, HK5.out.then_ HK6.out⟩
      · have hn : n < i := by have := hd.lt; rw [hL.out] at this; exact this
        have hni : (n : Int) < (i : Int) := by omega
        have hn0 : (0 : Int) ≤ (n : Int) := by omega
        have HD := Lib.hid hd
        clear hd hmin
        obtain ⟨z, HZ⟩ : ∃ z, Hid (xs[n]? = some z) := ⟨_, List.getElem?_eq_getElem (by rw [hL.out]; exact hn)⟩
        have hbb : (β != β) = false := by cases β <;> rfl
        obtain ⟨wo, rfl⟩ : ∃ wo : World, wo = wr := ⟨_, rfl⟩
        have hd1 : decide (i ≤ n) = false := by simpa using hn
        have hd2 : decide ((n : Int) < -1) = false := decide_eq_false (by omega)
        go_wp2_with (fail)
        clear hd1 hd2
        go_loopw [15, 16] (fun u15 u16 wr => ∃ j : Nat, j ≤ n ∧ u16 = .int .i64 (j : Int) ∧ u15 = .bool ((xs.take j).any (fun y => cmpR o y z == 0)) ∧ Hid (Keep nob w wr)) (fun _ u16 _ => ((n : Int) - intOf u16).toNat)
        case atStart => exact ⟨0, Nat.zero_le _, rfl, rfl, HK5⟩
        case round =>
          obtain ⟨j, hj, rfl, rfl, HKj⟩ := hrel
          by_cases hjn : j < n
          · have hj0 : (0 : Int) ≤ (j : Int) := by omega
            have hj1 : (j : Int) < (i : Int) := by omega
            obtain ⟨b1, o1, rfl, hy⟩ := (H.out.keep HKj.out (nobIn _)).elem (i := j) (by rw [hL.out]; omega)
            obtain ⟨b', o', e', hz⟩ := (H.out.keep HKj.out (nobIn _)).elem (i := n) (by rw [hL.out]; omega)
            simp only [Option.some.injEq, Addr.mk.injEq, and_true] at e'
            obtain ⟨rfl, rfl⟩ := e'
            obtain ⟨y, HY⟩ : ∃ y, Hid (xs[j]'(by rw [hL.out]; omega) = y) := ⟨_, Lib.hid rfl⟩
            have HZ' : xs[n]'(by rw [hL.out]; exact hn) = z := (List.getElem?_eq_some_iff.1 HZ.out).2
            rw [HY.out] at hy
            rw [HZ'] at hz
            have hy1 := hy 0 _ rfl
            have hy2 := hy 1 _ rfl
            have hz1 := hz 0 _ rfl
            have hz2 := hz 1 _ rfl
            simp only [EI, Nat.add_zero] at hy1 hy2 hz1 hz2
            have HT2 : Hid ((xs.take (j + 1)).any (fun y => cmpR o y z == 0) = ((xs.take j).any (fun y => cmpR o y z == 0) || cmpR o y z == 0)) := by
              unfold Hid
              rw [List.take_succ_eq_append_getElem (by rw [hL.out]; omega), HY.out, List.any_append]
              simp
            have HCM := Lib.hid (cmp_ok o y z)
            have hLb : (i : Int) ≤ 1000000000 := by have := HLL.out; omega
            generalize (xs.take j).any (fun y => cmpR o y z == 0) = bt at HT2 ⊢
            generalize cmpR o y z = cv at HCM HT2
            clear hy hz HZ' HY
            cases bt
            · go_wp2_with (fail)
              refine wp_region_midW 11 _ rfl (by kernel_rfl) (by kernel_rfl) ?_
              simp only [List.take_succ_cons, List.take_zero]
              repeat still_step
              refine wpStill_nil ?_
              refine ⟨by rfl, ?_⟩
              intro K hK
              go_simp
              refine (HCM.out wr.drew).mono ?_
              rintro e w6 ⟨rfl, hk6⟩
              refine hK _ _ ?_
              clear hK K
              simp only [List.drop_succ_cons, List.drop_zero]
              refine Veil.out ?_
              repeat (refine veil_step (fun K hK => ?_); go_simp; refine hK _ ?_; clear hK K)
              refine ⟨wpStill_nil ?_⟩
              have HK6 : Hid (Keep nob w w6) := HKj.out.then_ hk6.of_drew
              clear hk6
              go_wp2_with (fail)
              go_roundw
              case rel => exact ⟨j + 1, hjn, by go_num, by rw [HT2.out]; simp, HK6⟩
              case measure => simp [intOf]; omega
            · have HT3 : Hid ((xs.take (j + 1)).any (fun y => cmpR o y z == 0) = true) := by rw [HT2.out]; rfl
              go_wp2_with (fail)
              go_quiet (fail)
              have HK6 : Hid (Keep nob w (wr.drewN nq)) := HKj.out.drewN _
              go_wp2_with (fail)
              go_roundw
              case rel => exact ⟨j + 1, hjn, by go_num, by rw [HT3.out], HK6⟩
              case measure => simp [intOf]; omega
          · have hjn' : j = n := by omega
            subst hjn'
            have HT3 : (xs.take j).any (fun y => cmpR o y z == 0) = true := by
              obtain ⟨i', x', y', h1, h2, h3, h4⟩ := HD.out
              rw [HZ.out] at h3
              obtain rfl := Option.some.inj h3
              rw [List.any_eq_true]
              exact ⟨x', List.mem_of_getElem? (by rw [List.getElem?_take_of_lt h1]; exact h2), by simpa using h4⟩
            rw [HT3]
            clear HT3
            go_wp2_with (fail)
            have s1 : ∀ w, (Instr.slice 22 (.slice A i c) none (some (.int .i64 (j : Int))) none).run Try.prog w = .ok (.slice A j c) w := fun w => run_slice_h w 22 27 EI.sz Try.underlying22 (by kernel_rfl) A i c j _ rfl (by omega)
            have HTK : Hid ((xs.take j).length = j) := by unfold Hid; rw [List.length_take, hL.out]; omega
            have HTS : Hid (Sl EI wr.drew A c (xs.take j)) := ((H.out.keep HKj.out (nobIn _)).keep ((Keep.refl nob wr).drew) (nobIn _)).take j
            have HLJ : Hid (j ≤ 1000000000) := by have := HLL.out; unfold Hid; omega
            go_region_held3 (fun w' => True) (trivial)
              (first
              | (go_at_call 15; refine (HF.out _).mono ?_; rintro e w' ⟨rfl, hw⟩; replace hw := hw.symm; subst hw)
              | (go_at_call 24; refine (twice_by o A c j (xs.take j) wr.drew HTK.out HTS.out HLJ.out).mono ?_; rintro e w6 ⟨k, rfl, htk, hk6⟩; obtain rfl := HTW.out.take htk)
              | (go_at_call 20; refine (HLV.out _).mono ?_; rintro e w7 ⟨rfl, hk7⟩))
            go_wp2_with (fail)
            go_ret
            exact ⟨rfl, (HKj.out.then_ hk6.of_drew).then_ hk7⟩
end Go.Proofs.Ytnofckgnnpmiiaa
