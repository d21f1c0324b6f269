/- The reference's reader on a long document: text, family, item. Printed by mkzi. -/
import Derived.StillTail
import Derived.Test.YtiemkfibpfndaaaGreatDoorPa10
namespace Go.Proofs.YtiemkfibpfndaaaGreatDoor
open Go.RowKit

set_option maxRecDepth 100000 in
theorem rwidth2_ok (w : World) : Calls Tryz.prog 56 #[.int .i64 2] w fun e w' => e = .returned (.int .i64 4) ∧ w' = w := by
  go_enter Tryz.func56, Tryz.ntmps56
  go_wp2_with (fail)
  refine wp_loop_rounds 3 ?_
  rw [rounds_succ]
  go_wp2
  rw [rounds_succ]
  go_wp2
  rw [rounds_succ]
  go_wp2
  go_ret
  exact ⟨rfl, rfl⟩
set_option maxRecDepth 100000 in
theorem rpull_text (b op q0 j last : Nat) (s : ByteArray) (hs : s = lngD 219 j last) (hj : j < 1073741824) (hl : last < 256) (w : World) (h : RR w b s 5 op 0 q0) : Calls Tryz.prog 37 #[.pointer (some ⟨b, 0, none⟩), .int .u64 ((j + 1 : Nat) : Int), .bool true] w fun e w' => Keep (· = b) w w' ∧
    if last < 128 then e = .returned (.string (Bt (lngL j last))) ∧ RR w' b s (j + 6) op 0 q0 else e = .returned (.string ⟨#[]⟩) ∧ RR w' b s 5 op 3 (j + 5) := by
  have hsz : s.size = j + 6 := by rw [hs, lngD_size]
  have hre : s.extract 5 (j + 6) = Bt (lngL j last) := by rw [hs]; exact lng_rest 219 j last
  have HB := Lib.hid (rbad0_ok b s 5 op q0 w h)
  have HBL := Lib.hid (rblame_ok b s 5 op q0 3 (j + 5) w h)
  have HGD := Lib.hid (rgood_ok j last (by omega) hl w)
  have HS1 := Lib.hid (h.set1 (j + 6))
  have c0 := h.c0
  have c1 := h.c1
  have f1 := h.fz 1 (by decide)
  obtain ⟨m, HM⟩ : ∃ m, Hid (j + 1 = m) := ⟨_, Lib.hid rfl⟩
  obtain ⟨n, HN⟩ : ∃ n, Hid (j + 6 = n) := ⟨_, Lib.hid rfl⟩
  obtain ⟨q, HQ⟩ : ∃ q, Hid (j + 5 = q) := ⟨_, Lib.hid rfl⟩
  have hm := HM.out
  have hn := HN.out
  have hq := HQ.out
  obtain ⟨t, HT⟩ : ∃ t, Hid (Bt (lngL j last) = t) := ⟨_, Lib.hid rfl⟩
  have e1 : t.size = m := by rw [← HT.out, Bt_size, lngL_len]; exact hm
  rw [hn] at hsz hre HS1 ⊢
  rw [hm] at HGD ⊢
  rw [hq] at HBL ⊢
  rw [HT.out] at hre HGD ⊢
  have i0 : ((m : Int) - 0) = (m : Int) := by omega
  have hn5 : n - 5 = m := by omega
  have i2 : IntKind.u64.wrap (m : Int) = (m : Int) := by rw [IntKind.wrap_u64]; omega
  have d1 : decide ((m : Int) < (m : Int)) = false := by rw [decide_eq_false_iff_not]; omega
  have i3' : 5 + (j : Int) = (q : Int) := by omega
  have i3 : IntKind.i64.wrap (q : Int) = (q : Int) := by rw [IntWalk.i64_left, IntWalk.wrap64_in _ ⟨by omega, by omega⟩]
  have i4' : 5 + (m : Int) = (n : Int) := by omega
  have i4 : IntKind.i64.wrap (n : Int) = (n : Int) := by rw [IntWalk.i64_left, IntWalk.wrap64_in _ ⟨by omega, by omega⟩]
  have l5 : 5 ≤ n := by omega
  have c1 : w.cell? ⟨b, 1, none⟩ = some (.int .i64 5) := c1
  clear h hs hm hn hq
  by_cases hL : last < 128
  · rw [if_pos hL] at HGD
    simp only [if_pos hL]
    clear hL
    go_enter Tryz.func37, Tryz.ntmps37
    go_wp2_with (first | (go_at_call 25; go_must (refine HB.out.mono ?_); rintro e w1 ⟨rfl, rfl⟩) | (go_at_call 52; go_must (refine HGD.out.mono ?_); rintro e w2 ⟨rfl, rfl⟩))
    go_ret
    exact ⟨(Keep.refl (· = b) _).setCell (fun _ => rfl) _, rfl, HS1.out⟩
  · rw [if_neg hL] at HGD
    simp only [if_neg hL]
    clear hL
    go_enter Tryz.func37, Tryz.ntmps37
    go_wp2_with (first | (go_at_call 25; go_must (refine HB.out.mono ?_); rintro e w1 ⟨rfl, rfl⟩) | (go_at_call 52; go_must (refine HGD.out.mono ?_); rintro e w2 ⟨rfl, rfl⟩) | (go_at_call 53; go_must (refine HBL.out.mono ?_); rintro e w3 ⟨rfl, hr3, hk3⟩))
    go_ret
    exact ⟨hk3, rfl, hr3⟩
set_option maxRecDepth 100000 in
theorem rOfBytes_ok (t : ByteArray) (w : World) : Calls Tryz.prog 55 #[.string t] w fun e w' => e = .returned (.agg #[.int .i8 6, .int .u64 0, .bool false, .slice none 0 0, .int .u64 0, .int .i8 0, .string t, .slice none 0 0]) ∧ Keep nob w w' := by
  obtain ⟨w0, b4, HW0, HB4, HK0, HT0, HL0⟩ := start w
  go_enter Tryz.func55, Tryz.ntmps55
  go_upto_region 1 with (fail)
  rw [HW0.out, HB4.out]
  obtain ⟨v0, v1, v2, v3, v4, v5, v6, v7, ⟨d0, d1, d2, d3, d4, d5, d6, d7⟩, f0, f1, f2, f3, f4, f5, f6, f7⟩ := eight HT0.out
  go_wp2_with (fail)
  obtain ⟨w2, e2, r2, k2⟩ := put8 HT0.out (⟨6, 0, false, none, 0, 0, 0, 0, t, none, 0, 0⟩ : Raw) (.int .i8 6) (.int .u64 0) (.bool false) (.slice none 0 0) (.int .u64 0) (.int .i8 0) (.string t) (.slice none 0 0) rfl
  rw [e2.out]
  have hL := HL0.out
  exact ret_v rfl rfl rfl r2 ⟨rfl, HK0.out.trans k2 (fun j h1 h2 => by omega)⟩
set_option maxRecDepth 100000 in
theorem rOfText_ok (t : ByteArray) (w : World) : Calls Tryz.prog 36 #[.string t] w fun e w' => e = .returned (.agg #[.int .i8 5, .int .u64 0, .bool false, .slice none 0 0, .int .u64 0, .int .i8 0, .string t, .slice none 0 0]) ∧ Keep nob w w' := by
  obtain ⟨w0, b4, HW0, HB4, HK0, HT0, HL0⟩ := start w
  go_enter Tryz.func36, Tryz.ntmps36
  go_upto_region 1 with (fail)
  rw [HW0.out, HB4.out]
  obtain ⟨v0, v1, v2, v3, v4, v5, v6, v7, ⟨d0, d1, d2, d3, d4, d5, d6, d7⟩, f0, f1, f2, f3, f4, f5, f6, f7⟩ := eight HT0.out
  go_wp2_with (fail)
  obtain ⟨w2, e2, r2, k2⟩ := put8 HT0.out (⟨5, 0, false, none, 0, 0, 0, 0, t, none, 0, 0⟩ : Raw) (.int .i8 5) (.int .u64 0) (.bool false) (.slice none 0 0) (.int .u64 0) (.int .i8 0) (.string t) (.slice none 0 0) rfl
  rw [e2.out]
  have hL := HL0.out
  exact ret_v rfl rfl rfl r2 ⟨rfl, HK0.out.trans k2 (fun j h1 h2 => by omega)⟩
set_option maxRecDepth 100000 in
set_option maxHeartbeats 1000000 in
theorem rfam_b (b j last : Nat) (s : ByteArray) (hs : s = lngD 198 j last) (hj : j < 1073741824) (hl : last < 256) (w : World) (h : RR w b s 1 0 0 0) : Calls Tryz.prog 38 #[.pointer (some ⟨b, 0, none⟩), .int .i64 198, .int .i64 0] w fun e w' => Keep (· = b) w w' ∧ e = .returned (.agg #[.int .i8 6, .int .u64 0, .bool false, .slice none 0 0, .int .u64 0, .int .i8 0, .string (Bt (lngL j last)), .slice none 0 0]) ∧ RR w' b s (j + 6) 0 0 0 := by
  have hbl := World.block_lt_of_cell? w _ h.c0
  obtain ⟨w0, b4, HW0, HB4, HK0, HT0, HL0⟩ := start w
  have HNE : Hid (¬ b4 = b) := Lib.hid (by have := HL0.out; simp only at hbl; omega)
  have hsz : s.size = j + 6 := by rw [hs, lngD_size]
  have HN := rnumber_ok b s 1 0 0 4 w0 (h.keep HK0.out (fun h => h)) (by omega) (by omega) (by decide)
  rw [hs, lng_take2, ← hs] at HN
  dsimp only at HN
  rw [lng_four j (by omega)] at HN
  have HN := Lib.hid HN
  have HN : Hid (Calls Tryz.prog 31 #[.pointer (some ⟨b, 0, none⟩), .int .i64 4] w0 fun e w' => Keep (· = b) w0 w' ∧ e = .returned (.int .u64 ((j + 1 : Nat) : Int)) ∧ RR w' b s 5 0 0 0) := HN
  have HPL : Hid (∀ W, RR W b s 5 0 0 0 → Calls Tryz.prog 37 #[.pointer (some ⟨b, 0, none⟩), .int .u64 ((j + 1 : Nat) : Int), .bool false] W fun e w' => Keep (· = b) W w' ∧ e = .returned (.string (Bt (lngL j last))) ∧ RR w' b s (j + 6) 0 0 0) := by
    refine Lib.hid (fun W hr => ?_)
    have h1 := rpull_ok b s 5 0 0 (j + 1) W hr (by omega) (by omega) (by omega)
    rw [hs, lng_take3, ← hs] at h1
    exact h1
  have HOF := Lib.hid (fun (W : World) => rOfBytes_ok (Bt (lngL j last)) W)
  obtain ⟨m, HM⟩ : ∃ m, Hid (j + 1 = m) := ⟨_, Lib.hid rfl⟩
  obtain ⟨t, HT⟩ : ∃ t, Hid (Bt (lngL j last) = t) := ⟨_, Lib.hid rfl⟩
  rw [HT.out] at HOF HPL ⊢
  rw [HM.out] at HN HPL
  clear h hs hsz hbl
  go_enter Tryz.func38, Tryz.ntmps38
  go_upto_region 1 with (fail)
  rw [HW0.out, HB4.out]
  go_wp2_with (first | (go_at_call 56; go_must (refine (rwidth2_ok _).mono ?_); rintro e w1 ⟨rfl, rfl⟩) | (go_at_call 31; go_must (refine HN.out.mono ?_); rintro e w2 ⟨hk2, rfl, hr2⟩; have HK2 := Lib.hid hk2; have HR2 := Lib.hid hr2; clear hk2 hr2) | (go_at_call 37; go_must (refine (HPL.out _ HR2.out).mono ?_); rintro e w3 ⟨hk3, rfl, hr3⟩; have HK3 := Lib.hid (HK2.out.then_ hk3); have HR3 := Lib.hid hr3; clear hk3 hr3) | (go_at_call 55; go_must (refine (HOF.out _).mono ?_); rintro e w4 ⟨rfl, hk4⟩; have HK4 := Lib.hid hk4; clear hk4; have hth := (HK3.out.there HT0.out HNE.out).keep' HK4.out; obtain ⟨v0, v1, v2, v3, v4, v5, v6, v7, ⟨d0, d1, d2, d3, d4, d5, d6, d7⟩, f0, f1, f2, f3, f4, f5, f6, f7⟩ := eight hth))
  have hth := (HK3.out.there HT0.out HNE.out).keep' HK4.out
  obtain ⟨w5, e5, r5, k5⟩ := put8 hth (⟨6, 0, false, none, 0, 0, 0, 0, t, none, 0, 0⟩ : Raw) (.int .i8 6) (.int .u64 0) (.bool false) (.slice none 0 0) (.int .u64 0) (.int .i8 0) (.string t) (.slice none 0 0) rfl
  rw [e5.out]
  have hL := HL0.out
  have k9 : Keep (· = b) w w5 := ((HK0.out.mono (fun _ _ h => h.elim)).then_ (HK3.out.then_ (HK4.out.mono (fun _ _ h => h.elim)))).trans k5 (fun j h1 h2 => by omega)
  exact ret_v rfl rfl rfl r5 ⟨k9, rfl, (HR3.out.keep HK4.out (fun h => h)).keep k5 (fun e => HNE.out e.symm)⟩
set_option maxRecDepth 100000 in
set_option maxHeartbeats 1000000 in
theorem ritem_b (b j last : Nat) (s : ByteArray) (hs : s = lngD 198 j last) (hj : j < 1073741824) (hl : last < 256) (w : World) (h : RR w b s 0 0 0 0) : Calls Tryz.prog 24 #[.pointer (some ⟨b, 0, none⟩)] w fun e w' => Keep (· = b) w w' ∧ e = .returned (.agg #[.int .i8 6, .int .u64 0, .bool false, .slice none 0 0, .int .u64 0, .int .i8 0, .string (Bt (lngL j last)), .slice none 0 0]) ∧ RR w' b s (j + 6) 0 0 0 := by
  have hbl := World.block_lt_of_cell? w _ h.c0
  obtain ⟨w0, b4, HW0, HB4, HK0, HT0, HL0⟩ := start w
  have HNE : Hid (¬ b4 = b) := Lib.hid (by have := HL0.out; simp only at hbl; omega)
  have hsz : s.size = j + 6 := by rw [hs, lngD_size]
  have h0 := h.keep HK0.out (fun h => h)
  have HN := rnumber_ok b s 0 0 0 1 w0 h0 (by omega) (by omega) (by decide)
  rw [hs, lng_take1, ← hs] at HN
  dsimp only at HN
  rw [lng_one 198 (by decide)] at HN
  have HN := Lib.hid HN
  have HN : Hid (Calls Tryz.prog 31 #[.pointer (some ⟨b, 0, none⟩), .int .i64 1] w0 fun e w' => Keep (· = b) w0 w' ∧ e = .returned (.int .u64 198) ∧ RR w' b s 1 0 0 0) := HN
  have HF := Lib.hid (fun (W : World) (hr : RR W b s 1 0 0 0) => rfam_b b j last s hs hj hl W hr)
  have HBD := Lib.hid (fun (W : World) (hr : RR W b s 1 0 0 0) => rbad0_ok b s 1 0 0 W hr)
  have c1 := h0.c1
  have c1 : w0.cell? ⟨b, 1, none⟩ = some (.int .i64 0) := c1
  obtain ⟨t, HT⟩ : ∃ t, Hid (Bt (lngL j last) = t) := ⟨_, Lib.hid rfl⟩
  rw [HT.out] at HF ⊢
  clear h hs hsz hbl h0
  go_enter Tryz.func24, Tryz.ntmps24
  go_upto_region 1 with (fail)
  rw [HW0.out, HB4.out]
  go_wp2_with (first | (go_at_call 31; go_must (refine HN.out.mono ?_); rintro e w2 ⟨hk2, rfl, hr2⟩; have HK2 := Lib.hid hk2; have HR2 := Lib.hid hr2; clear hk2 hr2) | (go_at_call 25; go_must (refine (HBD.out _ HR2.out).mono ?_); rintro e w3 ⟨rfl, rfl⟩) | (go_at_call 38; go_must (refine (HF.out _ HR2.out).mono ?_); rintro e w4 ⟨hk4, rfl, hr4⟩; have HK4 := Lib.hid (HK2.out.then_ hk4); have HR4 := Lib.hid hr4; clear hk4 hr4; have hth := HK4.out.there HT0.out HNE.out; obtain ⟨v0, v1, v2, v3, v4, v5, v6, v7, ⟨d0, d1, d2, d3, d4, d5, d6, d7⟩, f0, f1, f2, f3, f4, f5, f6, f7⟩ := eight hth))
  have hth := HK4.out.there HT0.out HNE.out
  obtain ⟨w5, e5, r5, k5⟩ := put8 hth (⟨6, 0, false, none, 0, 0, 0, 0, t, none, 0, 0⟩ : Raw) (.int .i8 6) (.int .u64 0) (.bool false) (.slice none 0 0) (.int .u64 0) (.int .i8 0) (.string t) (.slice none 0 0) rfl
  rw [e5.out]
  have hL := HL0.out
  have k9 : Keep (· = b) w w5 := ((HK0.out.mono (fun _ _ h => h.elim)).then_ HK4.out).trans k5 (fun j h1 h2 => by omega)
  exact ret_v rfl rfl rfl r5 ⟨k9, rfl, HR4.out.keep k5 (fun e => HNE.out e.symm)⟩
set_option maxRecDepth 100000 in
set_option maxHeartbeats 1000000 in
theorem rfam_t (b j last : Nat) (s : ByteArray) (hs : s = lngD 219 j last) (hj : j < 1073741824) (hl : last < 256) (hL : last < 128) (w : World) (h : RR w b s 1 0 0 0) : Calls Tryz.prog 38 #[.pointer (some ⟨b, 0, none⟩), .int .i64 219, .int .i64 0] w fun e w' => Keep (· = b) w w' ∧ e = .returned (.agg #[.int .i8 5, .int .u64 0, .bool false, .slice none 0 0, .int .u64 0, .int .i8 0, .string (Bt (lngL j last)), .slice none 0 0]) ∧ RR w' b s (j + 6) 0 0 0 := by
  have hbl := World.block_lt_of_cell? w _ h.c0
  obtain ⟨w0, b4, HW0, HB4, HK0, HT0, HL0⟩ := start w
  have HNE : Hid (¬ b4 = b) := Lib.hid (by have := HL0.out; simp only at hbl; omega)
  have hsz : s.size = j + 6 := by rw [hs, lngD_size]
  have HN := rnumber_ok b s 1 0 0 4 w0 (h.keep HK0.out (fun h => h)) (by omega) (by omega) (by decide)
  rw [hs, lng_take2, ← hs] at HN
  dsimp only at HN
  rw [lng_four j (by omega)] at HN
  have HN := Lib.hid HN
  have HN : Hid (Calls Tryz.prog 31 #[.pointer (some ⟨b, 0, none⟩), .int .i64 4] w0 fun e w' => Keep (· = b) w0 w' ∧ e = .returned (.int .u64 ((j + 1 : Nat) : Int)) ∧ RR w' b s 5 0 0 0) := HN
  have HPL : Hid (∀ W, RR W b s 5 0 0 0 → Calls Tryz.prog 37 #[.pointer (some ⟨b, 0, none⟩), .int .u64 ((j + 1 : Nat) : Int), .bool true] W fun e w' => Keep (· = b) W w' ∧ e = .returned (.string (Bt (lngL j last))) ∧ RR w' b s (j + 6) 0 0 0) := by
    refine Lib.hid (fun W hr => ?_)
    have h1 := rpull_text b 0 0 j last s hs hj hl W hr
    simp only [if_pos hL] at h1
    exact h1
  have HOF := Lib.hid (fun (W : World) => rOfText_ok (Bt (lngL j last)) W)
  obtain ⟨m, HM⟩ : ∃ m, Hid (j + 1 = m) := ⟨_, Lib.hid rfl⟩
  obtain ⟨t, HT⟩ : ∃ t, Hid (Bt (lngL j last) = t) := ⟨_, Lib.hid rfl⟩
  rw [HT.out] at HOF HPL ⊢
  rw [HM.out] at HN HPL
  clear h hs hsz hbl
  go_enter Tryz.func38, Tryz.ntmps38
  go_upto_region 1 with (fail)
  rw [HW0.out, HB4.out]
  go_wp2_with (first | (go_at_call 56; go_must (refine (rwidth2_ok _).mono ?_); rintro e w1 ⟨rfl, rfl⟩) | (go_at_call 31; go_must (refine HN.out.mono ?_); rintro e w2 ⟨hk2, rfl, hr2⟩; have HK2 := Lib.hid hk2; have HR2 := Lib.hid hr2; clear hk2 hr2) | (go_at_call 37; go_must (refine (HPL.out _ HR2.out).mono ?_); rintro e w3 ⟨hk3, rfl, hr3⟩; have HK3 := Lib.hid (HK2.out.then_ hk3); have HR3 := Lib.hid hr3; clear hk3 hr3) | (go_at_call 36; go_must (refine (HOF.out _).mono ?_); rintro e w4 ⟨rfl, hk4⟩; have HK4 := Lib.hid hk4; clear hk4; have hth := (HK3.out.there HT0.out HNE.out).keep' HK4.out; obtain ⟨v0, v1, v2, v3, v4, v5, v6, v7, ⟨d0, d1, d2, d3, d4, d5, d6, d7⟩, f0, f1, f2, f3, f4, f5, f6, f7⟩ := eight hth))
  have hth := (HK3.out.there HT0.out HNE.out).keep' HK4.out
  obtain ⟨w5, e5, r5, k5⟩ := put8 hth (⟨5, 0, false, none, 0, 0, 0, 0, t, none, 0, 0⟩ : Raw) (.int .i8 5) (.int .u64 0) (.bool false) (.slice none 0 0) (.int .u64 0) (.int .i8 0) (.string t) (.slice none 0 0) rfl
  rw [e5.out]
  have hL := HL0.out
  have k9 : Keep (· = b) w w5 := ((HK0.out.mono (fun _ _ h => h.elim)).then_ (HK3.out.then_ (HK4.out.mono (fun _ _ h => h.elim)))).trans k5 (fun j h1 h2 => by omega)
  exact ret_v rfl rfl rfl r5 ⟨k9, rfl, (HR3.out.keep HK4.out (fun h => h)).keep k5 (fun e => HNE.out e.symm)⟩
set_option maxRecDepth 100000 in
set_option maxHeartbeats 1000000 in
theorem ritem_t (b j last : Nat) (s : ByteArray) (hs : s = lngD 219 j last) (hj : j < 1073741824) (hl : last < 256) (hL : last < 128) (w : World) (h : RR w b s 0 0 0 0) : Calls Tryz.prog 24 #[.pointer (some ⟨b, 0, none⟩)] w fun e w' => Keep (· = b) w w' ∧ e = .returned (.agg #[.int .i8 5, .int .u64 0, .bool false, .slice none 0 0, .int .u64 0, .int .i8 0, .string (Bt (lngL j last)), .slice none 0 0]) ∧ RR w' b s (j + 6) 0 0 0 := by
  have hbl := World.block_lt_of_cell? w _ h.c0
  obtain ⟨w0, b4, HW0, HB4, HK0, HT0, HL0⟩ := start w
  have HNE : Hid (¬ b4 = b) := Lib.hid (by have := HL0.out; simp only at hbl; omega)
  have hsz : s.size = j + 6 := by rw [hs, lngD_size]
  have h0 := h.keep HK0.out (fun h => h)
  have HN := rnumber_ok b s 0 0 0 1 w0 h0 (by omega) (by omega) (by decide)
  rw [hs, lng_take1, ← hs] at HN
  dsimp only at HN
  rw [lng_one 219 (by decide)] at HN
  have HN := Lib.hid HN
  have HN : Hid (Calls Tryz.prog 31 #[.pointer (some ⟨b, 0, none⟩), .int .i64 1] w0 fun e w' => Keep (· = b) w0 w' ∧ e = .returned (.int .u64 219) ∧ RR w' b s 1 0 0 0) := HN
  have HF := Lib.hid (fun (W : World) (hr : RR W b s 1 0 0 0) => rfam_t b j last s hs hj hl hL W hr)
  have HBD := Lib.hid (fun (W : World) (hr : RR W b s 1 0 0 0) => rbad0_ok b s 1 0 0 W hr)
  have c1 := h0.c1
  have c1 : w0.cell? ⟨b, 1, none⟩ = some (.int .i64 0) := c1
  obtain ⟨t, HT⟩ : ∃ t, Hid (Bt (lngL j last) = t) := ⟨_, Lib.hid rfl⟩
  rw [HT.out] at HF ⊢
  clear h hs hsz hbl h0
  go_enter Tryz.func24, Tryz.ntmps24
  go_upto_region 1 with (fail)
  rw [HW0.out, HB4.out]
  go_wp2_with (first | (go_at_call 31; go_must (refine HN.out.mono ?_); rintro e w2 ⟨hk2, rfl, hr2⟩; have HK2 := Lib.hid hk2; have HR2 := Lib.hid hr2; clear hk2 hr2) | (go_at_call 25; go_must (refine (HBD.out _ HR2.out).mono ?_); rintro e w3 ⟨rfl, rfl⟩) | (go_at_call 38; go_must (refine (HF.out _ HR2.out).mono ?_); rintro e w4 ⟨hk4, rfl, hr4⟩; have HK4 := Lib.hid (HK2.out.then_ hk4); have HR4 := Lib.hid hr4; clear hk4 hr4; have hth := HK4.out.there HT0.out HNE.out; obtain ⟨v0, v1, v2, v3, v4, v5, v6, v7, ⟨d0, d1, d2, d3, d4, d5, d6, d7⟩, f0, f1, f2, f3, f4, f5, f6, f7⟩ := eight hth))
  have hth := HK4.out.there HT0.out HNE.out
  obtain ⟨w5, e5, r5, k5⟩ := put8 hth (⟨5, 0, false, none, 0, 0, 0, 0, t, none, 0, 0⟩ : Raw) (.int .i8 5) (.int .u64 0) (.bool false) (.slice none 0 0) (.int .u64 0) (.int .i8 0) (.string t) (.slice none 0 0) rfl
  rw [e5.out]
  have hL := HL0.out
  have k9 : Keep (· = b) w w5 := ((HK0.out.mono (fun _ _ h => h.elim)).then_ HK4.out).trans k5 (fun j h1 h2 => by omega)
  exact ret_v rfl rfl rfl r5 ⟨k9, rfl, HR4.out.keep k5 (fun e => HNE.out e.symm)⟩
set_option maxRecDepth 100000 in
set_option maxHeartbeats 1000000 in
theorem rfam_x (b j last : Nat) (s : ByteArray) (hs : s = lngD 219 j last) (hj : j < 1073741824) (hl : last < 256) (hL : ¬ last < 128) (w : World) (h : RR w b s 1 0 0 0) : Calls Tryz.prog 38 #[.pointer (some ⟨b, 0, none⟩), .int .i64 219, .int .i64 0] w fun e w' => Keep (· = b) w w' ∧ e = .returned (.agg #[.int .i8 5, .int .u64 0, .bool false, .slice none 0 0, .int .u64 0, .int .i8 0, .string ((⟨#[]⟩ : ByteArray)), .slice none 0 0]) ∧ RR w' b s 5 0 3 (j + 5) := by
  have hbl := World.block_lt_of_cell? w _ h.c0
  obtain ⟨w0, b4, HW0, HB4, HK0, HT0, HL0⟩ := start w
  have HNE : Hid (¬ b4 = b) := Lib.hid (by have := HL0.out; simp only at hbl; omega)
  have hsz : s.size = j + 6 := by rw [hs, lngD_size]
  have HN := rnumber_ok b s 1 0 0 4 w0 (h.keep HK0.out (fun h => h)) (by omega) (by omega) (by decide)
  rw [hs, lng_take2, ← hs] at HN
  dsimp only at HN
  rw [lng_four j (by omega)] at HN
  have HN := Lib.hid HN
  have HN : Hid (Calls Tryz.prog 31 #[.pointer (some ⟨b, 0, none⟩), .int .i64 4] w0 fun e w' => Keep (· = b) w0 w' ∧ e = .returned (.int .u64 ((j + 1 : Nat) : Int)) ∧ RR w' b s 5 0 0 0) := HN
  have HPL : Hid (∀ W, RR W b s 5 0 0 0 → Calls Tryz.prog 37 #[.pointer (some ⟨b, 0, none⟩), .int .u64 ((j + 1 : Nat) : Int), .bool true] W fun e w' => Keep (· = b) W w' ∧ e = .returned (.string (⟨#[]⟩ : ByteArray)) ∧ RR w' b s 5 0 3 (j + 5)) := by
    refine Lib.hid (fun W hr => ?_)
    have h1 := rpull_text b 0 0 j last s hs hj hl W hr
    simp only [if_neg hL] at h1
    exact h1
  have HOF := Lib.hid (fun (W : World) => rOfText_ok ((⟨#[]⟩ : ByteArray)) W)
  obtain ⟨m, HM⟩ : ∃ m, Hid (j + 1 = m) := ⟨_, Lib.hid rfl⟩
  obtain ⟨t, HT⟩ : ∃ t, Hid ((⟨#[]⟩ : ByteArray) = t) := ⟨_, Lib.hid rfl⟩
  rw [HT.out] at HOF HPL ⊢
  rw [HM.out] at HN HPL
  clear h hs hsz hbl
  go_enter Tryz.func38, Tryz.ntmps38
  go_upto_region 1 with (fail)
  rw [HW0.out, HB4.out]
  go_wp2_with (first | (go_at_call 56; go_must (refine (rwidth2_ok _).mono ?_); rintro e w1 ⟨rfl, rfl⟩) | (go_at_call 31; go_must (refine HN.out.mono ?_); rintro e w2 ⟨hk2, rfl, hr2⟩; have HK2 := Lib.hid hk2; have HR2 := Lib.hid hr2; clear hk2 hr2) | (go_at_call 37; go_must (refine (HPL.out _ HR2.out).mono ?_); rintro e w3 ⟨hk3, rfl, hr3⟩; have HK3 := Lib.hid (HK2.out.then_ hk3); have HR3 := Lib.hid hr3; clear hk3 hr3) | (go_at_call 36; go_must (refine (HOF.out _).mono ?_); rintro e w4 ⟨rfl, hk4⟩; have HK4 := Lib.hid hk4; clear hk4; have hth := (HK3.out.there HT0.out HNE.out).keep' HK4.out; obtain ⟨v0, v1, v2, v3, v4, v5, v6, v7, ⟨d0, d1, d2, d3, d4, d5, d6, d7⟩, f0, f1, f2, f3, f4, f5, f6, f7⟩ := eight hth))
  have hth := (HK3.out.there HT0.out HNE.out).keep' HK4.out
  obtain ⟨w5, e5, r5, k5⟩ := put8 hth (⟨5, 0, false, none, 0, 0, 0, 0, t, none, 0, 0⟩ : Raw) (.int .i8 5) (.int .u64 0) (.bool false) (.slice none 0 0) (.int .u64 0) (.int .i8 0) (.string t) (.slice none 0 0) rfl
  rw [e5.out]
  have hL := HL0.out
  have k9 : Keep (· = b) w w5 := ((HK0.out.mono (fun _ _ h => h.elim)).then_ (HK3.out.then_ (HK4.out.mono (fun _ _ h => h.elim)))).trans k5 (fun j h1 h2 => by omega)
  exact ret_v rfl rfl rfl r5 ⟨k9, rfl, (HR3.out.keep HK4.out (fun h => h)).keep k5 (fun e => HNE.out e.symm)⟩
set_option maxRecDepth 100000 in
set_option maxHeartbeats 1000000 in
theorem ritem_x (b j last : Nat) (s : ByteArray) (hs : s = lngD 219 j last) (hj : j < 1073741824) (hl : last < 256) (hL : ¬ last < 128) (w : World) (h : RR w b s 0 0 0 0) : Calls Tryz.prog 24 #[.pointer (some ⟨b, 0, none⟩)] w fun e w' => Keep (· = b) w w' ∧ e = .returned (.agg #[.int .i8 5, .int .u64 0, .bool false, .slice none 0 0, .int .u64 0, .int .i8 0, .string ((⟨#[]⟩ : ByteArray)), .slice none 0 0]) ∧ RR w' b s 5 0 3 (j + 5) := by
  have hbl := World.block_lt_of_cell? w _ h.c0
  obtain ⟨w0, b4, HW0, HB4, HK0, HT0, HL0⟩ := start w
  have HNE : Hid (¬ b4 = b) := Lib.hid (by have := HL0.out; simp only at hbl; omega)
  have hsz : s.size = j + 6 := by rw [hs, lngD_size]
  have h0 := h.keep HK0.out (fun h => h)
  have HN := rnumber_ok b s 0 0 0 1 w0 h0 (by omega) (by omega) (by decide)
  rw [hs, lng_take1, ← hs] at HN
  dsimp only at HN
  rw [lng_one 219 (by decide)] at HN
  have HN := Lib.hid HN
  have HN : Hid (Calls Tryz.prog 31 #[.pointer (some ⟨b, 0, none⟩), .int .i64 1] w0 fun e w' => Keep (· = b) w0 w' ∧ e = .returned (.int .u64 219) ∧ RR w' b s 1 0 0 0) := HN
  have HF := Lib.hid (fun (W : World) (hr : RR W b s 1 0 0 0) => rfam_x b j last s hs hj hl hL W hr)
  have HBD := Lib.hid (fun (W : World) (hr : RR W b s 1 0 0 0) => rbad0_ok b s 1 0 0 W hr)
  have c1 := h0.c1
  have c1 : w0.cell? ⟨b, 1, none⟩ = some (.int .i64 0) := c1
  obtain ⟨t, HT⟩ : ∃ t, Hid ((⟨#[]⟩ : ByteArray) = t) := ⟨_, Lib.hid rfl⟩
  rw [HT.out] at HF ⊢
  clear h hs hsz hbl h0
  go_enter Tryz.func24, Tryz.ntmps24
  go_upto_region 1 with (fail)
  rw [HW0.out, HB4.out]
  go_wp2_with (first | (go_at_call 31; go_must (refine HN.out.mono ?_); rintro e w2 ⟨hk2, rfl, hr2⟩; have HK2 := Lib.hid hk2; have HR2 := Lib.hid hr2; clear hk2 hr2) | (go_at_call 25; go_must (refine (HBD.out _ HR2.out).mono ?_); rintro e w3 ⟨rfl, rfl⟩) | (go_at_call 38; go_must (refine (HF.out _ HR2.out).mono ?_); rintro e w4 ⟨hk4, rfl, hr4⟩; have HK4 := Lib.hid (HK2.out.then_ hk4); have HR4 := Lib.hid hr4; clear hk4 hr4; have hth := HK4.out.there HT0.out HNE.out; obtain ⟨v0, v1, v2, v3, v4, v5, v6, v7, ⟨d0, d1, d2, d3, d4, d5, d6, d7⟩, f0, f1, f2, f3, f4, f5, f6, f7⟩ := eight hth))
  have hth := HK4.out.there HT0.out HNE.out
  obtain ⟨w5, e5, r5, k5⟩ := put8 hth (⟨5, 0, false, none, 0, 0, 0, 0, t, none, 0, 0⟩ : Raw) (.int .i8 5) (.int .u64 0) (.bool false) (.slice none 0 0) (.int .u64 0) (.int .i8 0) (.string t) (.slice none 0 0) rfl
  rw [e5.out]
  have hL := HL0.out
  have k9 : Keep (· = b) w w5 := ((HK0.out.mono (fun _ _ h => h.elim)).then_ HK4.out).trans k5 (fun j h1 h2 => by omega)
  exact ret_v rfl rfl rfl r5 ⟨k9, rfl, HR4.out.keep k5 (fun e => HNE.out e.symm)⟩
end Go.Proofs.YtiemkfibpfndaaaGreatDoor

/- A region that draws its order: a head of operations that keep all memory that there was (some of them with a result that hangs on the order: a new block), then a tail that waits for them. One walk in the order of the text serves every order. -/
namespace Go.Proofs.YtiemkfibpfndaaaGreatDoor
open Go.RowKit

/-- what a result that hangs on the order is made of: a value, a number (of a block), a Value's cells -/
structure Ltr where
  v : Value
  n : Nat
  r : Raw
/-- the next block -/
def Ltr.at_ (w : World) : Ltr := ⟨undef, w.heap.size, Raw.zero⟩
instance : Inhabited Ltr := ⟨⟨undef, 0, Raw.zero⟩⟩
/-- how an operation is told: of no world; out of memory, one value; a new block; a call that answers c; a call that answers mk x, of which F x is told; a store -/
inductive Kd where
  | p | kv | al
  | cv (c : Value)
  | cf (mk : Ltr → Value) (F : Ltr → World → Prop)
  | st
def Kd.isP : Kd → Bool
  | .p => true
  | _ => false
def Kd.isSt : Kd → Bool
  | .st => true
  | _ => false
abbrev Ctx := List (Nat × (World → Prop))
/-- what stays told while memory is kept -/
def Stays (S : Nat → Prop) (F : Ltr → World → Prop) : Prop := ∀ v w w', F v w → Keep S w w' → F v w'
/-- the worlds on the way: nothing but the blocks of S is written, and I holds -/
structure Cls (S : Nat → Prop) (I : World → Prop) (w0 w : World) : Prop where
  keep : Keep S w0 w
  inv : I w
theorem Keep.of_kept {S : Nat → Prop} {w w' : World} (h : Kept w w') : Keep S w w' := h.mono (fun _ _ h => h.elim)

section
variable {P : Program} {ops : Array Oper}

def runUpon (post : Value → World → Prop) : Result Next → Prop
  | .ok (.value u) w' => post u w'
  | .ok .skip w' => post undef w'
  | _ => False
def callUpon (P : Program) (w : World) (post : Value → World → Prop) : Result Next → Prop
  | .ok (.enter f args) w' => w' = w ∧ Calls P f args w (fun e w'' => ∃ v, e = .returned v ∧ post v w'')
  | _ => False
/-- the facts of the operations that number k waits for -/
def Avail (ops : Array Oper) (k : Nat) (Γ : Ctx) (w : World) : Prop := ∀ p ∈ Γ, Region.waitsFor .any ops k p.1 = true → p.2 w

/-- THE WALK. -/
def wpFx (P : Program) (ops : Array Oper) (S : Nat → Prop) (I : World → Prop) (w0 : World) (Q : Act → Ctx → Prop) : List Kd → Nat → List Oper → Act → Ctx → Prop
  | _, _, [], a, Γ => Q a Γ
  | [], _, _ :: _, _, _ => False
  | kd :: ks, k, o :: l, a, Γ =>
    if Region.wanted o (yielded ops a.tmps) = true then
      match kd with
      | .p => ∃ v, (∀ w, (execOp a.eval o).run P w = .ok (.value v) w) ∧ wpFx P ops S I w0 Q ks (k + 1) l (a.put o.dst v) Γ
      | .kv => ∃ v, (∀ w, Cls S I w0 w → Avail ops k Γ w → runUpon (fun u w' => u = v ∧ Kept w w') ((execOp a.eval o).run P w)) ∧ wpFx P ops S I w0 Q ks (k + 1) l (a.put o.dst v) Γ
      | .al => ∃ (mk : Ltr → Value) (F : Ltr → World → Prop), Stays S F ∧ (∀ w, Cls S I w0 w → Avail ops k Γ w → runUpon (fun u w' => Kept w w' ∧ u = mk (.at_ w) ∧ F (.at_ w) w') ((execOp a.eval o).run P w)) ∧ ∀ x, wpFx P ops S I w0 Q ks (k + 1) l (a.put o.dst (mk x)) ((k, F x) :: Γ)
      | .cv c => (∀ w, Cls S I w0 w → Avail ops k Γ w → callUpon P w (fun u w' => u = c ∧ Kept w w') ((execOp a.eval o).run P w)) ∧ wpFx P ops S I w0 Q ks (k + 1) l (a.put o.dst c) Γ
      | .cf mk F => Stays S F ∧ (∀ w, Cls S I w0 w → Avail ops k Γ w → callUpon P w (fun u w' => Kept w w' ∧ ∃ x, u = mk x ∧ F x w') ((execOp a.eval o).run P w)) ∧ ∀ x, wpFx P ops S I w0 Q ks (k + 1) l (a.put o.dst (mk x)) ((k, F x) :: Γ)
      | .st => ∃ F : World → Prop, (∀ w w', F w → Kept w w' → F w') ∧ (∀ w, Cls S I w0 w → Avail ops k Γ w → runUpon (fun u w' => u = undef ∧ Keep S w w' ∧ I w' ∧ F w') ((execOp a.eval o).run P w)) ∧ wpFx P ops S I w0 Q ks (k + 1) l (a.put o.dst undef) ((k, F) :: Γ)
    else wpFx P ops S I w0 Q ks (k + 1) l (a.put o.dst undef) Γ

/-- what is known of operation k in state A: its value c, what is told of it f -/
def Ob (P : Program) (S : Nat → Prop) (I : World → Prop) (ops : Array Oper) (w0 : World) (σ : Nat → Ltr) (kd : Kd) (k : Nat) (o : Oper) (A : Act) (Av : World → Prop) (c : Value) (f : World → Prop) : Prop :=
  (Region.wanted o (yielded ops A.tmps) = false ∧ c = undef ∧ ∀ w, f w) ∨
  (Region.wanted o (yielded ops A.tmps) = true ∧ match kd with
    | .p => (∀ w, (execOp A.eval o).run P w = .ok (.value c) w) ∧ ∀ w, f w
    | .kv => ∀ w, Cls S I w0 w → Av w → runUpon (fun u w' => Kept w w' ∧ (σ k = .at_ w → c = u ∧ f w')) ((execOp A.eval o).run P w)
    | .al => ∀ w, Cls S I w0 w → Av w → runUpon (fun u w' => Kept w w' ∧ (σ k = .at_ w → c = u ∧ f w')) ((execOp A.eval o).run P w)
    | .cv c' => c = c' ∧ (∀ w, f w) ∧ ∀ w, Cls S I w0 w → Av w → callUpon P w (fun u w' => u = c' ∧ Kept w w') ((execOp A.eval o).run P w)
    | .cf mk F => c = mk (σ k) ∧ f = F (σ k) ∧ ∀ w, Cls S I w0 w → Av w → callUpon P w (fun u w' => Kept w w' ∧ ∃ x, u = mk x ∧ F x w') ((execOp A.eval o).run P w)
    | .st => ∀ w, Cls S I w0 w → Av w → runUpon (fun u w' => (Keep S w w' ∧ I w') ∧ (σ k = .at_ w → c = u ∧ f w')) ((execOp A.eval o).run P w))
/-- how long what is told of an operation stays -/
def Stay1 (S : Nat → Prop) (kd : Kd) (f : World → Prop) : Prop := (∀ w w', f w → Kept w w' → f w') ∧ (kd.isSt = false → ∀ w w', f w → Keep S w w' → f w')

def putL : List Oper → List Value → Act → Act
  | o :: l, c :: cs, a => putL l cs (a.put o.dst c)
  | _, _, a => a

theorem runUpon_mono {post post' : Value → World → Prop} (h : ∀ v w, post v w → post' v w) {r : Result Next} (hr : runUpon post r) : runUpon post' r := by
  unfold runUpon at *
  split at hr
  · exact h _ _ hr
  · exact h _ _ hr
  · exact hr.elim

/-- The walk, at letters σ for what hangs on the order. -/
theorem fx_obs {S : Nat → Prop} {I : World → Prop} {w0 : World} {Q : Act → Ctx → Prop} (σ : Nat → Ltr) : ∀ (ks : List Kd) (k : Nat) (l : List Oper) (a : Act) (Γ : Ctx), wpFx P ops S I w0 Q ks k l a Γ →
    ∃ (cs : List Value) (fs : List (World → Prop)) (Γ' : Ctx), cs.length = l.length ∧ fs.length = l.length ∧ (∀ (i : Nat) f kd, fs[i]? = some f → ks[i]? = some kd → Stay1 S kd f) ∧ Q (putL l cs a) Γ' ∧
      (∀ w, (∀ p ∈ Γ, p.2 w) → (∀ f ∈ fs, f w) → ∀ p ∈ Γ', p.2 w) ∧
      ∀ i o c f, l[i]? = some o → cs[i]? = some c → fs[i]? = some f → ∃ kd, ks[i]? = some kd ∧ Ob P S I ops w0 σ kd (k + i) o (putL (l.take i) (cs.take i) a)
        (fun w => Avail ops (k + i) Γ w ∧ ∀ j f, j < i → fs[j]? = some f → Region.waitsFor .any ops (k + i) (k + j) = true → f w) c f
  | _, _, [], a, Γ, h => ⟨[], [], Γ, rfl, rfl, by simp, by simpa [wpFx, putL] using h, fun _ h _ => h, by simp⟩
  | [], _, _ :: _, _, _, h => by simp [wpFx] at h
  | kd :: ks, k, o :: l, a, Γ, h => by
    -- one step, whatever it is: the value c, the fact f, the context behind it
    have step : ∀ (c : Value) (f : World → Prop) (Γ1 : Ctx), Stay1 S kd f → Ob P S I ops w0 σ kd k o a (fun w => Avail ops k Γ w) c f →
        (∀ p ∈ Γ1, p ∈ Γ ∨ p = (k, f)) → wpFx P ops S I w0 Q ks (k + 1) l (a.put o.dst c) Γ1 →
        ∃ (cs : List Value) (fs : List (World → Prop)) (Γ' : Ctx), cs.length = (o :: l).length ∧ fs.length = (o :: l).length ∧ (∀ (i : Nat) f kd', fs[i]? = some f → (kd :: ks)[i]? = some kd' → Stay1 S kd' f) ∧ Q (putL (o :: l) cs a) Γ' ∧
          (∀ w, (∀ p ∈ Γ, p.2 w) → (∀ f ∈ fs, f w) → ∀ p ∈ Γ', p.2 w) ∧
          ∀ i o1 c f, (o :: l)[i]? = some o1 → cs[i]? = some c → fs[i]? = some f → ∃ kd', (kd :: ks)[i]? = some kd' ∧ Ob P S I ops w0 σ kd' (k + i) o1 (putL ((o :: l).take i) (cs.take i) a)
            (fun w => Avail ops (k + i) Γ w ∧ ∀ j f, j < i → fs[j]? = some f → Region.waitsFor .any ops (k + i) (k + j) = true → f w) c f := by
      intro c f Γ1 hf hob hΓ h1
      obtain ⟨cs, fs, Γ', h2, h3, h4, h5, h6, h7⟩ := fx_obs σ ks (k + 1) l (a.put o.dst c) Γ1 h1
      refine ⟨c :: cs, f :: fs, Γ', by simp [h2], by simp [h3], ?_, h5, ?_, ?_⟩
      · intro i g kd' hg hkd'
        cases i with
        | zero =>
          simp only [List.getElem?_cons_zero, Option.some.injEq] at hg hkd'
          subst hg hkd'
          exact hf
        | succ i =>
          simp only [List.getElem?_cons_succ] at hg hkd'
          exact h4 i g kd' hg hkd'
      · intro w hw hall
        refine h6 w (fun p hp => ?_) (fun g hg => hall g (List.mem_cons_of_mem _ hg))
        rcases hΓ p hp with hp | rfl
        · exact hw p hp
        · exact hall _ List.mem_cons_self
      · intro i o1 c1 f1 ho1 hc1 hf1
        cases i with
        | zero =>
          simp only [List.getElem?_cons_zero, Option.some.injEq] at ho1 hc1 hf1
          subst ho1 hc1 hf1
          refine ⟨kd, rfl, ?_⟩
          simp only [List.take_zero, putL, Nat.add_zero]
          rcases hob with h | ⟨hw, hob⟩
          · exact .inl h
          · refine .inr ⟨hw, ?_⟩
            cases kd with
            | p => exact hob
            | kv => exact fun w hk hav => hob w hk hav.1
            | al => exact fun w hk hav => hob w hk hav.1
            | cv c' => exact ⟨hob.1, hob.2.1, fun w hk hav => hob.2.2 w hk hav.1⟩
            | cf mk F => exact ⟨hob.1, hob.2.1, fun w hk hav => hob.2.2 w hk hav.1⟩
            | st => exact fun w hk hav => hob w hk hav.1
        | succ i =>
          simp only [List.getElem?_cons_succ] at ho1 hc1 hf1
          obtain ⟨kd', hkd, hob'⟩ := h7 i o1 c1 f1 ho1 hc1 hf1
          refine ⟨kd', by simpa using hkd, ?_⟩
          rw [show k + (i + 1) = k + 1 + i by omega]
          simp only [List.take_succ_cons, putL]
          have hav : ∀ w, (Avail ops (k + 1 + i) Γ w ∧ ∀ j g, j < i + 1 → (f :: fs)[j]? = some g → Region.waitsFor .any ops (k + 1 + i) (k + j) = true → g w) →
              (Avail ops (k + 1 + i) Γ1 w ∧ ∀ j g, j < i → fs[j]? = some g → Region.waitsFor .any ops (k + 1 + i) (k + 1 + j) = true → g w) := by
            rintro w ⟨e1, e2⟩
            refine ⟨fun p hp hwt => ?_, fun j g hj hg hwt => e2 (j + 1) g (by omega) (by simpa using hg) (by rw [show k + (j + 1) = k + 1 + j by omega]; exact hwt)⟩
            rcases hΓ p hp with hp | rfl
            · exact e1 p hp hwt
            · exact e2 0 f (by omega) (by simp) (by simpa using hwt)
          rcases hob' with h | ⟨hw, hob'⟩
          · exact .inl h
          · refine .inr ⟨hw, ?_⟩
            cases kd' with
            | p => exact hob'
            | kv => exact fun w hk h => hob' w hk (hav w h)
            | al => exact fun w hk h => hob' w hk (hav w h)
            | cv c' => exact ⟨hob'.1, hob'.2.1, fun w hk h => hob'.2.2 w hk (hav w h)⟩
            | cf mk F => exact ⟨hob'.1, hob'.2.1, fun w hk h => hob'.2.2 w hk (hav w h)⟩
            | st => exact fun w hk h => hob' w hk (hav w h)
    simp only [wpFx] at h
    by_cases hw : Region.wanted o (yielded ops a.tmps) = true
    · rw [if_pos hw] at h
      cases kd with
      | p =>
        obtain ⟨v, h1, h2⟩ := h
        exact step v (fun _ => True) Γ ⟨fun _ _ _ _ => trivial, fun _ _ _ _ _ => trivial⟩ (.inr ⟨hw, h1, fun _ => trivial⟩) (fun p hp => .inl hp) h2
      | kv =>
        obtain ⟨v, h1, h2⟩ := h
        exact step v (fun _ => True) Γ ⟨fun _ _ _ _ => trivial, fun _ _ _ _ _ => trivial⟩ (.inr ⟨hw, fun w hk hav => runUpon_mono (fun u w' ⟨e, hk'⟩ => ⟨hk', fun _ => ⟨e.symm, trivial⟩⟩) (h1 w hk hav)⟩) (fun p hp => .inl hp) h2
      | al =>
        obtain ⟨mk, F, hF, h1, h2⟩ := h
        exact step (mk (σ k)) (F (σ k)) ((k, F (σ k)) :: Γ) ⟨fun w w' hf hk => hF _ w w' hf (.of_kept hk), fun _ w w' => hF _ w w'⟩ (.inr ⟨hw, fun w hk hav => runUpon_mono (fun u w' ⟨hk', hu, hf⟩ => ⟨hk', fun e => ⟨by rw [e]; exact hu.symm, by rw [e]; exact hf⟩⟩) (h1 w hk hav)⟩)
          (fun p hp => (List.mem_cons.1 hp).symm) (h2 _)
      | cv c =>
        obtain ⟨h1, h2⟩ := h
        exact step c (fun _ => True) Γ ⟨fun _ _ _ _ => trivial, fun _ _ _ _ _ => trivial⟩ (.inr ⟨hw, rfl, fun _ => trivial, h1⟩) (fun p hp => .inl hp) h2
      | cf mk F =>
        obtain ⟨hF, h1, h2⟩ := h
        exact step (mk (σ k)) (F (σ k)) ((k, F (σ k)) :: Γ) ⟨fun w w' hf hk => hF _ w w' hf (.of_kept hk), fun _ w w' => hF _ w w'⟩ (.inr ⟨hw, rfl, rfl, h1⟩) (fun p hp => (List.mem_cons.1 hp).symm) (h2 _)
      | st =>
        obtain ⟨F, hF, h1, h2⟩ := h
        exact step undef F ((k, F) :: Γ) ⟨hF, fun h => by cases h⟩ (.inr ⟨hw, fun w hk hav => runUpon_mono (fun u w' ⟨hu, hk', hi, hf⟩ => ⟨⟨hk', hi⟩, fun _ => ⟨hu.symm, hf⟩⟩) (h1 w hk hav)⟩) (fun p hp => (List.mem_cons.1 hp).symm) h2
    · rw [if_neg hw] at h
      exact step undef (fun _ => True) Γ ⟨fun _ _ _ _ => trivial, fun _ _ _ _ _ => trivial⟩ (.inl ⟨by simpa using hw, rfl, fun _ => trivial⟩) (fun p hp => .inl hp) h

/-! ### states in which some operations have come up -/
def dstAt (ops : Array Oper) (k : Nat) : Option Tmp := (ops[k]?).bind (·.dst)
def putSel (ops : Array Oper) (sel : Nat → Bool) (c : Nat → Value) (a : Act) : Nat → Act
  | 0 => a
  | k + 1 => if sel k = true then (putSel ops sel c a k).put (dstAt ops k) (c k) else putSel ops sel c a k

theorem putSel_succ (sel : Nat → Bool) (c : Nat → Value) (a : Act) (k : Nat) : putSel ops sel c a (k + 1) = if sel k = true then (putSel ops sel c a k).put (dstAt ops k) (c k) else putSel ops sel c a k := rfl
theorem put_tmps_ne (a : Act) (d : Option Tmp) (v : Value) (t : Tmp) (h : d ≠ some t) : (a.put d v).tmps[t]? = a.tmps[t]? := by
  cases d with
  | none => rfl
  | some d =>
    have : d ≠ t := fun e => h (by rw [e])
    simp [Act.put, Array.getElem?_setIfInBounds_ne this]
theorem put_size (a : Act) (d : Option Tmp) (v : Value) : (a.put d v).tmps.size = a.tmps.size := by
  cases d <;> simp [Act.put]
theorem putSel_size (sel : Nat → Bool) (c : Nat → Value) (a : Act) : ∀ m, (putSel ops sel c a m).tmps.size = a.tmps.size
  | 0 => rfl
  | m + 1 => by unfold putSel; split <;> simp [put_size, putSel_size sel c a m]
theorem put_tmps_same (a b : Act) (t : Tmp) (v : Value) (h : a.tmps.size = b.tmps.size) : (a.put (some t) v).tmps[t]? = (b.put (some t) v).tmps[t]? := by
  simp [Act.put, Array.getElem?_setIfInBounds, h]
/-- what stands in a temporary hangs on the operations that write it -/
theorem putSel_at (sel sel' : Nat → Bool) (c : Nat → Value) (a : Act) (t : Tmp) : ∀ m, (∀ j, j < m → dstAt ops j = some t → sel j = sel' j) → (putSel ops sel c a m).tmps[t]? = (putSel ops sel' c a m).tmps[t]?
  | 0, _ => rfl
  | m + 1, h => by
    have ih := putSel_at sel sel' c a t m (fun j hj => h j (by omega))
    by_cases hd : dstAt ops m = some t
    · have hs := h m (by omega) hd
      unfold putSel
      rw [hs]
      split
      · rw [hd]
        exact put_tmps_same _ _ _ _ (by rw [putSel_size, putSel_size])
      · exact ih
    · unfold putSel
      split <;> split <;> simp [put_tmps_ne _ _ _ _ hd, ih]
theorem putSel_end (sel : Nat → Bool) (c : Nat → Value) (a : Act) (t : Tmp) (k : Nat) : ∀ m, k ≤ m → (∀ j, k ≤ j → j < m → dstAt ops j ≠ some t) → (putSel ops sel c a m).tmps[t]? = (putSel ops sel c a k).tmps[t]?
  | 0, hk, _ => by rw [show k = 0 by omega]
  | m + 1, hk, h => by
    rcases Nat.lt_or_ge m k with hm | hm
    · rw [show k = m + 1 by omega]
    · have ih := putSel_end sel c a t k m hm (fun j h1 h2 => h j h1 (by omega))
      rw [putSel_succ]
      split
      · rw [put_tmps_ne _ _ _ _ (h m hm (by omega)), ih]
      · exact ih
theorem putSel_set (sel : Nat → Bool) (c : Nat → Value) (a : Act) (j : Nat) (hj : sel j = false) : ∀ m, j < m → (∀ i d, i < m → i ≠ j → dstAt ops j = some d → dstAt ops i ≠ some d) →
    putSel ops (fun i => sel i || i == j) c a m = (putSel ops sel c a m).put (dstAt ops j) (c j)
  | 0, hm, _ => by omega
  | m + 1, hm, hd => by
    by_cases e : m = j
    · subst e
      have h0 : ∀ m', m' ≤ m → putSel ops (fun i => sel i || i == m) c a m' = putSel ops sel c a m' := by
        intro m'
        induction m' with
        | zero => intro _; rfl
        | succ m' ih =>
          intro hm'
          have hne : (m' == m) = false := by rw [beq_eq_false_iff_ne]; omega
          unfold putSel
          rw [ih (by omega), hne, Bool.or_false]
      unfold putSel
      rw [h0 m (Nat.le_refl _), hj]
      simp
    · have ih := putSel_set sel c a j hj m (by omega) (fun i d hi => hd i d (by omega))
      have hne : (m == j) = false := by rw [beq_eq_false_iff_ne]; exact e
      unfold putSel
      rw [ih, hne, Bool.or_false]
      split
      · exact Act.put_comm _ _ _ (fun d hd' => hd m d (by omega) e hd')
      · rfl

theorem eval_of_tmps {a b : Act} {x : Operand} (h : ∀ t, x = .tmp t → a.tmps[t]? = b.tmps[t]?) : a.eval x = b.eval x := by
  cases x with
  | tmp t =>
    have := h t rfl
    simp only [Act.eval, Array.getD_eq_getD_getElem?, this]
  | _ => rfl
theorem execOp_of_tmps {a b : Act} (o : Oper) (hs : ∀ cs b, o.op ≠ .select cs b) (h : ∀ t ∈ o.looksAt ops, a.tmps[t]? = b.tmps[t]?) : execOp a.eval o = execOp b.eval o :=
  execOp_congr o hs fun x hx => eval_of_tmps fun t e => h t (by
    subst e
    exact List.mem_append_left _ (List.mem_filterMap.2 ⟨.tmp t, by simpa using hx, rfl⟩))
theorem wanted_of_tmps {a b : Act} (o : Oper) (h : ∀ t ∈ o.looksAt ops, a.tmps[t]? = b.tmps[t]?) : Region.wanted o (yielded ops a.tmps) = Region.wanted o (yielded ops b.tmps) := by
  unfold Region.wanted
  cases hg : o.guard with
  | none => rfl
  | some gw =>
    obtain ⟨g, want⟩ := gw
    have hy : yielded ops a.tmps g = yielded ops b.tmps g := by
      unfold yielded
      cases ht : (ops[g]?).bind (·.dst) with
      | none => rfl
      | some t =>
        have := h t (by simp [Oper.looksAt, hg, ht])
        simp [this]
    simp only [hy]

/-! ### what the kernel looks at -/
def firstK (ops : Array Oper) (k : Nat) : Array Bool := Array.ofFn (n := ops.size) fun i => decide (i.val < k)
def lookOk (ops : Array Oper) (n : Nat) : Bool := (List.range n).all fun k => match ops[k]? with
  | none => false
  | some o => (o.looksAt ops).all fun t => (List.range n).all fun j => !(dstAt ops j == some t) || (decide (j < k) && Region.waitsFor .any ops k j)
def dstsOk (ops : Array Oper) (n : Nat) : Bool := (List.range n).all fun k => match dstAt ops k with
  | none => true
  | some d => (List.range n).all fun j => j == k || !(dstAt ops j == some d)
def depsOk (ops : Array Oper) (n : Nat) : Bool := (List.range n).all fun k => match ops[k]? with
  | none => false
  | some o => o.after.all fun e => !Region.binds .any e || decide (e.on < k)
/-- each operation of the tail waits for an earlier one of the tail, or, maybe through others of the head, for all of the head that is not late -/
def shutB (ops : Array Oper) (n : Nat) (late : List Nat) : Bool :=
  (List.range ops.size).all fun t => decide (t < n) || (List.range t).any (fun s => decide (n ≤ s) && Region.waitsFor .any ops t s) ||
    (List.range n).all fun i => late.contains i || Region.waitsFor .any ops t i || (List.range n).any fun j => decide (i < j) && !late.contains j && Region.waitsFor .any ops j i
def lateOk (ops : Array Oper) (ks : List Kd) (late : List Nat) : Bool := late.all fun i => ((ks[i]?).map Kd.isP).getD false && Region.free .any ops (firstK ops i) i
/-- at most one store -/
def oneSt (ks : List Kd) (n : Nat) : Bool := (List.range n).all fun i => (List.range n).all fun j => i == j || !(((ks[i]?).map Kd.isSt).getD false && ((ks[j]?).map Kd.isSt).getD false)
def fxB (ops : Array Oper) (ks : List Kd) (n : Nat) (late : List Nat) : Bool :=
  Region.noSelect ops && decide (n ≤ ops.size) && ks.length == n && lookOk ops n && dstsOk ops n && depsOk ops n && shutB ops n late && lateOk ops ks late && oneSt ks n && Region.seqB .any ops (ops.size - n) n (firstK ops n)

theorem firstK_get (ops : Array Oper) (k i : Nat) (d : Bool) (hi : i < ops.size) : (firstK ops k).getD i d = decide (i < k) := by
  simp [firstK, hi]
theorem shut_of {n : Nat} {late : List Nat} {listed : Array Bool} (hc : shutB ops n late = true) (inv : HeadInv .any ops n listed) {t : Nat} (ht : n ≤ t) :
    ∀ (d i : Nat), n - i = d → i < n → late.contains i = false → listed.getD i true = false → t ∉ Region.ready .any ops listed := by
  intro d
  induction d using Nat.strongRecOn with
  | _ d ih =>
    intro i hd hi his hopen hr
    obtain ⟨_, ot, hot, hall⟩ := mem_ready.1 hr
    have htl : t < ops.size := (Array.getElem?_eq_some_iff.1 hot).1
    have h1 := List.all_eq_true.1 hc t (List.mem_range.2 htl)
    simp only [Bool.or_eq_true, decide_eq_true_eq] at h1
    rcases h1 with (h1 | h1) | h1
    · omega
    · obtain ⟨s, hs1, hs2⟩ := List.any_eq_true.1 h1
      simp only [Bool.and_eq_true, decide_eq_true_eq] at hs2
      have hst := List.mem_range.1 hs1
      obtain ⟨o', ho', e, he, hb, hon⟩ := Region.waitsFor_spec hs2.2
      cases ho'.symm.trans hot
      have h2 := hall e he hb
      rw [hon, getD_both (inv.tail s hs2.1 (by omega))] at h2
      cases h2
    · have h2 := List.all_eq_true.1 h1 i (List.mem_range.2 hi)
      simp only [Bool.or_eq_true] at h2
      rcases h2 with (h2 | h2) | h2
      · rw [his] at h2; cases h2
      · obtain ⟨o', ho', e, he, hb, hon⟩ := Region.waitsFor_spec h2
        cases ho'.symm.trans hot
        have h3 := hall e he hb
        rw [hon, getD_both hopen] at h3
        cases h3
      · obtain ⟨j, hj, hj2⟩ := List.any_eq_true.1 h2
        simp only [Bool.and_eq_true, decide_eq_true_eq, Bool.not_eq_true'] at hj2
        have hjn := List.mem_range.1 hj
        obtain ⟨oj, hoj, e, he, hb, hon⟩ := Region.waitsFor_spec hj2.2
        cases hl : listed.getD j false with
        | true =>
          have h3 := inv.closed j oj hoj hl e he hb
          rw [hon, getD_both hopen] at h3
          cases h3
        | false =>
          have hjs : j < ops.size := (Array.getElem?_eq_some_iff.1 hoj).1
          exact ih (n - j) (by have := hj2.1.1; omega) j rfl hjn hj2.1.2 (getD_in (by rw [inv.size]; omega) hl) hr

theorem least_open (p : Nat → Bool) : ∀ n, (∃ i, i < n ∧ p i = false) → ∃ i, i < n ∧ p i = false ∧ ∀ j, j < i → p j = true
  | 0, ⟨i, h, _⟩ => by omega
  | n + 1, ⟨i, h, hi⟩ => by
    by_cases hx : ∃ i, i < n ∧ p i = false
    · obtain ⟨i, h1, h2, h3⟩ := least_open p n hx
      exact ⟨i, by omega, h2, h3⟩
    · refine ⟨i, h, hi, fun j hj => ?_⟩
      cases hp : p j with
      | true => rfl
      | false => exact absurd ⟨j, by omega, hp⟩ hx

/-- what holds in each state on the way: C: the values, Fc: what is told, by the letters -/
structure FInv (S : Nat → Prop) (I : World → Prop) (ops : Array Oper) (w0 : World) (n : Nat) (a0 : Act) (C : (Nat → Ltr) → Nat → Value) (Fc : (Nat → Ltr) → Nat → World → Prop) (listed : Array Bool) (a : Act) (w : World) : Prop where
  head : HeadInv .any ops n listed
  kept : Cls S I w0 w
  at_ : ∃ τ : Nat → Ltr, ∀ σ : Nat → Ltr, (∀ k, k < n → listed.getD k false = true → σ k = τ k) → a = putSel ops (fun k => listed.getD k false) (C σ) a0 n ∧ ∀ k, k < n → listed.getD k false = true → Fc σ k w

theorem get_set (listed : Array Bool) (j k : Nat) (hj : j < listed.size) : (listed.setIfInBounds j true).getD k false = (listed.getD k false || k == j) := by
  by_cases h : j = k
  · subst h; simp [hj]
  · rw [getD_set_ne false h, beq_false_of_ne (Ne.symm h), Bool.or_false]

section
variable {S : Nat → Prop} {I : World → Prop} {w0 : World} {n : Nat} {a0 : Act} {C : (Nat → Ltr) → Nat → Value} {Fc : (Nat → Ltr) → Nat → World → Prop} {ks : List Kd}
  (hst : ∀ σ k kd, ks[k]? = some kd → Stay1 S kd (Fc σ k)) (hI : ∀ w w', I w → Kept w w' → I w') (hone : oneSt ks n = true) (hksn : ks.length = n)
  (hob : ∀ σ k o, k < n → ops[k]? = some o → ∃ kd, ks[k]? = some kd ∧ Ob P S I ops w0 σ kd k o (putSel ops (fun _ => true) (C σ) a0 k) (fun w => ∀ j, j < k → Region.waitsFor .any ops k j = true → Fc σ j w) (C σ k) (Fc σ k))
  (hn : n ≤ ops.size) (hlk : lookOk ops n = true) (hds : dstsOk ops n = true)

include hlk in
theorem same_looks {σ : Nat → Ltr} {listed : Array Bool} {j : Nat} {o : Oper} (ho : ops[j]? = some o) (hjn : j < n) (hall : ∀ e ∈ o.after, Region.binds .any e = true → listed.getD e.on false = true) :
    ∀ t ∈ o.looksAt ops, (putSel ops (fun k => listed.getD k false) (C σ) a0 n).tmps[t]? = (putSel ops (fun _ => true) (C σ) a0 j).tmps[t]? := by
  intro t ht
  have h1 := List.all_eq_true.1 hlk j (List.mem_range.2 hjn)
  simp only [ho] at h1
  have h2 := List.all_eq_true.1 h1 t ht
  have h3 : ∀ i, i < n → dstAt ops i = some t → i < j ∧ listed.getD i false = true := fun i hi hd => by
    have h4 := List.all_eq_true.1 h2 i (List.mem_range.2 hi)
    simp only [hd, beq_self_eq_true, Bool.not_true, Bool.false_or, Bool.and_eq_true, decide_eq_true_eq] at h4
    obtain ⟨oj, hoj, e, he, hb, hon⟩ := Region.waitsFor_spec h4.2
    cases hoj.symm.trans ho
    have := hall e he hb
    rw [hon] at this
    exact ⟨h4.1, this⟩
  rw [putSel_end _ _ _ t j n (by omega) (fun i h5 h6 hd => by have := (h3 i h6 hd).1; omega)]
  exact putSel_at _ _ _ _ t j (fun i hi hd => (h3 i (by omega) hd).2)

include hn hds in
theorem put_next {σ : Nat → Ltr} {listed : Array Bool} {j : Nat} (hs : listed.size = ops.size) (hjn : j < n) (hun : listed.getD j false = false) :
    putSel ops (fun k => (listed.setIfInBounds j true).getD k false) (C σ) a0 n = (putSel ops (fun k => listed.getD k false) (C σ) a0 n).put (dstAt ops j) (C σ j) := by
  have e : (fun k => (listed.setIfInBounds j true).getD k false) = fun k => listed.getD k false || k == j := funext fun k => get_set listed j k (by omega)
  rw [e]
  refine putSel_set (ops := ops) (fun k => listed.getD k false) (C σ) a0 j hun n hjn (fun i d hi hij hd hd' => ?_)
  have h1 := List.all_eq_true.1 hds j (List.mem_range.2 hjn)
  simp only [hd] at h1
  have h2 := List.all_eq_true.1 h1 i (List.mem_range.2 hi)
  simp only [Bool.or_eq_true, beq_iff_eq, hij, false_or, Bool.not_eq_true', beq_eq_false_iff_ne] at h2
  exact h2 hd'

include hst hn hds hone hksn in
/-- from one state to the next: the value u, the world w' -/
theorem finv_next {listed : Array Bool} {a : Act} {w w' : World} {j : Nat} {o : Oper} {u : Value} (x : Ltr) (inv : FInv S I ops w0 n a0 C Fc listed a w) (hj : j ∈ Region.ready .any ops listed) (hjn : j < n) (ho : ops[j]? = some o) (hk : Keep S w w') (hi : I w') {kd : Kd} (hkd : ks[j]? = some kd) (hk2 : kd.isSt = false → Kept w w')
    (h : ∀ σ : Nat → Ltr, (∀ k, k < n → listed.getD k false = true → Fc σ k w) → a = putSel ops (fun k => listed.getD k false) (C σ) a0 n → σ j = x → C σ j = u ∧ Fc σ j w') : FInv S I ops w0 n a0 C Fc (listed.setIfInBounds j true) (a.put o.dst u) w' := by
  obtain ⟨hd, hkp, τ, hτ⟩ := inv
  have hun := getD_both (mem_ready.1 hj).1
  have hsz : j < listed.size := by rw [hd.size]; omega
  have hdst : dstAt ops j = o.dst := by simp [dstAt, ho]
  refine ⟨hd.set hj hjn, ⟨hkp.keep.then_ hk, hi⟩, fun i => if i = j then x else τ i, fun σ hσ => ?_⟩
  have hσj : σ j = x := by
    have h0 : σ j = if j = j then x else τ j := hσ j hjn (by rw [get_set _ _ _ hsz]; simp)
    rwa [if_pos rfl] at h0
  have hold : ∀ k, k < n → listed.getD k false = true → σ k = τ k := fun k hk hl => by
    have h0 : σ k = if k = j then x else τ k := hσ k hk (by rw [get_set _ _ _ hsz, hl, Bool.true_or])
    rwa [if_neg (fun e => by subst e; rw [hun] at hl; cases hl)] at h0
  obtain ⟨e1, e2⟩ := hτ σ hold
  obtain ⟨e3, e4⟩ := h σ e2 e1 hσj
  refine ⟨?_, fun k hk' hl => ?_⟩
  · rw [put_next hn hds hd.size hjn hun, hdst, e3, ← e1]
  · rw [get_set _ _ _ hsz, Bool.or_eq_true] at hl
    rcases hl with hl | hl
    · have hkj : k ≠ j := fun e => by subst e; rw [hun] at hl; cases hl
      obtain ⟨kd', hkd'⟩ : ∃ kd', ks[k]? = some kd' := ⟨ks[k]'(by omega), List.getElem?_eq_getElem (by omega)⟩
      obtain ⟨s1, s2⟩ := hst σ k kd' hkd'
      cases hs : kd.isSt with
      | false => exact s1 w w' (e2 k hk' hl) (hk2 hs)
      | true =>
        have h1 := List.all_eq_true.1 (List.all_eq_true.1 hone k (List.mem_range.2 hk')) j (List.mem_range.2 hjn)
        rw [hkd, hkd'] at h1
        simp only [Option.map_some, Option.getD_some, hs, Bool.and_true, Bool.or_eq_true, beq_iff_eq, hkj, false_or, Bool.not_eq_true'] at h1
        exact s2 h1 w w' (e2 k hk' hl) hk
    · rw [beq_iff_eq] at hl
      subst hl
      exact e4

include hst hob hn hlk hds hI hone hksn in
theorem finv_step (hsel : Region.noSelect ops = true) {Q : Exit → Act → World → Prop} {listed : Array Bool} {a : Act} {w : World} {j : Nat} (inv : FInv S I ops w0 n a0 C Fc listed a w) (hj : j ∈ Region.ready .any ops listed) (hjn : j < n) :
    wpOp P ops Q j (fun a' w' => FInv S I ops w0 n a0 C Fc (listed.setIfInBounds j true) a' w') a w := by
  obtain ⟨_, o, ho, hall⟩ := mem_ready.1 hj
  have looks : ∀ σ : Nat → Ltr, a = putSel ops (fun k => listed.getD k false) (C σ) a0 n → (execOp a.eval o = execOp (putSel ops (fun _ => true) (C σ) a0 j).eval o ∧ Region.wanted o (yielded ops a.tmps) = Region.wanted o (yielded ops (putSel ops (fun _ => true) (C σ) a0 j).tmps)) := fun σ e => by
    have h1 := same_looks (ops := ops) (a0 := a0) (C := C) (σ := σ) hlk ho hjn hall
    rw [← e] at h1
    exact ⟨execOp_of_tmps o (Region.noSelect_spec hsel j o · · ho) h1, wanted_of_tmps o h1⟩
  have avail : ∀ σ : Nat → Ltr, (∀ k, k < n → listed.getD k false = true → Fc σ k w) → ∀ i, i < j → Region.waitsFor .any ops j i = true → Fc σ i w := fun σ h i hi hw => by
    obtain ⟨oj, hoj, e, he, hb, hon⟩ := Region.waitsFor_spec hw
    cases hoj.symm.trans ho
    have := hall e he hb
    rw [hon] at this
    exact h i (by omega) this
  obtain ⟨τ, hτ⟩ := inv.at_
  obtain ⟨e1, e2⟩ := hτ τ (fun _ _ _ => rfl)
  obtain ⟨l1, l2⟩ := looks τ e1
  unfold wpOp
  simp only [ho]
  by_cases hw : Region.wanted o (yielded ops a.tmps) = true
  · rw [if_pos hw]
    refine .inl ?_
    obtain ⟨kd, hkd, hobτ⟩ := hob τ j o hjn ho
    rcases hobτ with ⟨h0, _⟩ | ⟨_, hobτ⟩
    · rw [l2, h0] at hw; cases hw
    have others : ∀ σ : Nat → Ltr, a = putSel ops (fun k => listed.getD k false) (C σ) a0 n → Ob P S I ops w0 σ kd j o (putSel ops (fun _ => true) (C σ) a0 j) (fun w => ∀ i, i < j → Region.waitsFor .any ops j i = true → Fc σ i w) (C σ j) (Fc σ j) ∧ ¬ Region.wanted o (yielded ops (putSel ops (fun _ => true) (C σ) a0 j).tmps) = false := fun σ e => by
      obtain ⟨kd', hkd', h⟩ := hob σ j o hjn ho
      obtain rfl : kd' = kd := Option.some.inj (hkd'.symm.trans hkd)
      exact ⟨h, by rw [← (looks σ e).2, hw]; simp⟩
    unfold Oper.wp
    cases kd with
    | p =>
      rw [l1, hobτ.1 w]
      refine finv_next hst hone hksn hn hds default inv hj hjn ho (Keep.refl _ _) inv.kept.inv hkd (fun _ => Keep.refl _ _) (fun σ h1 h2 h3 => ?_)
      obtain ⟨h4, h5⟩ := others σ h2
      rcases h4 with h4 | ⟨_, h4⟩
      · exact absurd h4.1 h5
      · have := h4.1 w
        rw [← (looks σ h2).1, l1, hobτ.1 w] at this
        simp only [Result.ok.injEq, Next.value.injEq, and_true] at this
        exact ⟨this.symm, h4.2 w⟩
    | kv =>
      have hr := hobτ w inv.kept (avail τ e2)
      have ho' : ∀ σ : Nat → Ltr, (∀ k, k < n → listed.getD k false = true → Fc σ k w) → a = putSel ops (fun k => listed.getD k false) (C σ) a0 n → runUpon (fun u w' => Kept w w' ∧ (σ j = .at_ w → C σ j = u ∧ Fc σ j w')) ((execOp a.eval o).run P w) := fun σ h1 h2 => by
        obtain ⟨h4, h5⟩ := others σ h2
        rcases h4 with h4 | ⟨_, h4⟩
        · exact absurd h4.1 h5
        · rw [(looks σ h2).1]; exact h4 w inv.kept (avail σ h1)
      rw [← l1] at hr
      generalize (execOp a.eval o).run P w = r at *
      cases r with
      | halt x w' => exact hr.elim
      | ok nx w' =>
        cases nx <;> simp only [runUpon] at hr <;> simp only [Oper.upon]
        · exact finv_next hst hone hksn hn hds (.at_ w) inv hj hjn ho (.of_kept hr.1) (hI _ _ inv.kept.inv hr.1) hkd (fun _ => hr.1) (fun σ h1 h2 h3 => (ho' σ h1 h2).2 h3)
        · exact finv_next hst hone hksn hn hds (.at_ w) inv hj hjn ho (.of_kept hr.1) (hI _ _ inv.kept.inv hr.1) hkd (fun _ => hr.1) (fun σ h1 h2 h3 => (ho' σ h1 h2).2 h3)
    | al =>
      have hr := hobτ w inv.kept (avail τ e2)
      have ho' : ∀ σ : Nat → Ltr, (∀ k, k < n → listed.getD k false = true → Fc σ k w) → a = putSel ops (fun k => listed.getD k false) (C σ) a0 n → runUpon (fun u w' => Kept w w' ∧ (σ j = .at_ w → C σ j = u ∧ Fc σ j w')) ((execOp a.eval o).run P w) := fun σ h1 h2 => by
        obtain ⟨h4, h5⟩ := others σ h2
        rcases h4 with h4 | ⟨_, h4⟩
        · exact absurd h4.1 h5
        · rw [(looks σ h2).1]; exact h4 w inv.kept (avail σ h1)
      rw [← l1] at hr
      generalize (execOp a.eval o).run P w = r at *
      cases r with
      | halt x w' => exact hr.elim
      | ok nx w' =>
        cases nx <;> simp only [runUpon] at hr <;> simp only [Oper.upon]
        · exact finv_next hst hone hksn hn hds (.at_ w) inv hj hjn ho (.of_kept hr.1) (hI _ _ inv.kept.inv hr.1) hkd (fun _ => hr.1) (fun σ h1 h2 h3 => (ho' σ h1 h2).2 h3)
        · exact finv_next hst hone hksn hn hds (.at_ w) inv hj hjn ho (.of_kept hr.1) (hI _ _ inv.kept.inv hr.1) hkd (fun _ => hr.1) (fun σ h1 h2 h3 => (ho' σ h1 h2).2 h3)
    | cv c =>
      have hr := hobτ.2.2 w inv.kept (avail τ e2)
      rw [← l1] at hr
      generalize (execOp a.eval o).run P w = r at *
      cases r with
      | halt x w' => exact hr.elim
      | ok nx w' =>
        cases nx <;> simp only [callUpon] at hr <;> simp only [Oper.upon]
        obtain ⟨rfl, hc⟩ := hr
        refine hc.mono ?_
        rintro e w'' ⟨v, rfl, rfl, hk⟩
        refine finv_next hst hone hksn hn hds default inv hj hjn ho (.of_kept hk) (hI _ _ inv.kept.inv hk) hkd (fun _ => hk) (fun σ h1 h2 h3 => ?_)
        obtain ⟨h4, h5⟩ := others σ h2
        rcases h4 with h4 | ⟨_, h4⟩
        · exact absurd h4.1 h5
        · exact ⟨h4.1, h4.2.1 _⟩
    | cf mk F =>
      have hr := hobτ.2.2 w inv.kept (avail τ e2)
      rw [← l1] at hr
      generalize (execOp a.eval o).run P w = r at *
      cases r with
      | halt x w' => exact hr.elim
      | ok nx w' =>
        cases nx <;> simp only [callUpon] at hr <;> simp only [Oper.upon]
        obtain ⟨rfl, hc⟩ := hr
        refine hc.mono ?_
        rintro e w'' ⟨v, rfl, hk, x, rfl, hF⟩
        refine finv_next hst hone hksn hn hds x inv hj hjn ho (.of_kept hk) (hI _ _ inv.kept.inv hk) hkd (fun _ => hk) (fun σ h1 h2 h3 => ?_)
        obtain ⟨h4, h5⟩ := others σ h2
        rcases h4 with h4 | ⟨_, h4⟩
        · exact absurd h4.1 h5
        · obtain ⟨h6, h7, -⟩ := h4
          exact ⟨by rw [h6, h3], by rw [h7, h3]; exact hF⟩
    | st =>
      have hr := hobτ w inv.kept (avail τ e2)
      have ho' : ∀ σ : Nat → Ltr, (∀ k, k < n → listed.getD k false = true → Fc σ k w) → a = putSel ops (fun k => listed.getD k false) (C σ) a0 n → runUpon (fun u w' => (Keep S w w' ∧ I w') ∧ (σ j = .at_ w → C σ j = u ∧ Fc σ j w')) ((execOp a.eval o).run P w) := fun σ h1 h2 => by
        obtain ⟨h4, h5⟩ := others σ h2
        rcases h4 with h4 | ⟨_, h4⟩
        · exact absurd h4.1 h5
        · rw [(looks σ h2).1]; exact h4 w inv.kept (avail σ h1)
      rw [← l1] at hr
      generalize (execOp a.eval o).run P w = r at *
      cases r with
      | halt x w' => exact hr.elim
      | ok nx w' =>
        cases nx <;> simp only [runUpon] at hr <;> simp only [Oper.upon]
        · exact finv_next hst hone hksn hn hds (.at_ w) inv hj hjn ho hr.1.1 hr.1.2 hkd (fun h => by cases h) (fun σ h1 h2 h3 => (ho' σ h1 h2).2 h3)
        · exact finv_next hst hone hksn hn hds (.at_ w) inv hj hjn ho hr.1.1 hr.1.2 hkd (fun h => by cases h) (fun σ h1 h2 h3 => (ho' σ h1 h2).2 h3)
  · rw [if_neg hw]
    obtain ⟨kd, hkd, _⟩ := hob τ j o hjn ho
    refine finv_next hst hone hksn hn hds default inv hj hjn ho (Keep.refl _ _) inv.kept.inv hkd (fun _ => Keep.refl _ _) (fun σ h1 h2 h3 => ?_)
    obtain ⟨kd', hkd', h⟩ := hob σ j o hjn ho
    rcases h with ⟨_, h4, h5⟩ | ⟨h4, _⟩
    · exact ⟨h4, h5 w⟩
    · rw [← (looks σ h2).2] at h4
      exact absurd h4 hw

include hst hob hn hlk hds hone hksn in
theorem finv_late (hsel : Region.noSelect ops = true) {listed : Array Bool} {a : Act} {w : World} {j : Nat} {o : Oper} (inv : FInv S I ops w0 n a0 C Fc listed a w) (hj : j ∈ Region.ready .any ops listed) (hjn : j < n) (ho : ops[j]? = some o) (hp : ks[j]? = some .p) :
    ∃ v, Yields P ops o v a ∧ FInv S I ops w0 n a0 C Fc (listed.setIfInBounds j true) (a.put o.dst v) w := by
  obtain ⟨_, o', ho', hall⟩ := mem_ready.1 hj
  cases ho'.symm.trans ho
  have looks : ∀ σ : Nat → Ltr, a = putSel ops (fun k => listed.getD k false) (C σ) a0 n → (execOp a.eval o = execOp (putSel ops (fun _ => true) (C σ) a0 j).eval o ∧ Region.wanted o (yielded ops a.tmps) = Region.wanted o (yielded ops (putSel ops (fun _ => true) (C σ) a0 j).tmps)) := fun σ e => by
    have h1 := same_looks (ops := ops) (a0 := a0) (C := C) (σ := σ) hlk ho hjn hall
    rw [← e] at h1
    exact ⟨execOp_of_tmps o (Region.noSelect_spec hsel j o · · ho) h1, wanted_of_tmps o h1⟩
  have one : ∀ σ : Nat → Ltr, a = putSel ops (fun k => listed.getD k false) (C σ) a0 n → Yields P ops o (C σ j) a ∧ ∀ w, Fc σ j w := fun σ e => by
    obtain ⟨kd, hkd, h⟩ := hob σ j o hjn ho
    obtain rfl : kd = .p := Option.some.inj (hkd.symm.trans hp)
    obtain ⟨l1, l2⟩ := looks σ e
    rcases h with ⟨h1, h2, h3⟩ | ⟨h1, h2, h3⟩
    · exact ⟨.inr ⟨by rw [l2]; exact h1, h2⟩, h3⟩
    · exact ⟨.inl ⟨by rw [l2]; exact h1, fun w => by rw [l1]; exact h2 w⟩, h3⟩
  obtain ⟨τ, hτ⟩ := inv.at_
  obtain ⟨e1, _⟩ := hτ τ (fun _ _ _ => rfl)
  obtain ⟨y1, _⟩ := one τ e1
  refine ⟨C τ j, y1, finv_next hst hone hksn hn hds default inv hj hjn ho (Keep.refl _ _) inv.kept.inv hp (fun _ => Keep.refl _ _) (fun σ h1 h2 _ => ?_)⟩
  obtain ⟨y2, y3⟩ := one σ h2
  refine ⟨?_, y3 w⟩
  rcases y1 with ⟨a1, b1⟩ | ⟨a1, b1⟩ <;> rcases y2 with ⟨a2, b2⟩ | ⟨a2, b2⟩
  · have := (b1 w).symm.trans (b2 w)
    simp only [Result.ok.injEq, Next.value.injEq, and_true] at this
    exact this.symm
  · rw [a1] at a2; cases a2
  · rw [a1] at a2; cases a2
  · rw [b1, b2]

include hst hob hn hlk hds hI hone hksn in
theorem finv_all (hsel : Region.noSelect ops = true) (hde : depsOk ops n = true) {late : List Nat} (hsh : shutB ops n late = true) (hla : lateOk ops ks late = true) {Q : Exit → Act → World → Prop} (hQ : late ≠ [] → ∀ c a w, ∀ (d : Option Tmp) (v : Value), Q (.panic c) (a.put d v) w → Q (.panic c) a w)
    {g : Nat} (hfin : ∀ a w, FInv S I ops w0 n a0 C Fc (firstK ops n) a w → wpAny P .any ops Q g (firstK ops n) a w) :
    ∀ (f : Nat) (rem : List Nat) (listed : Array Bool) (a : Act) (w : World), FInv S I ops w0 n a0 C Fc listed a w → rem.Nodup → rem.length = f → (∀ i, i < n → (listed.getD i false = false ↔ i ∈ rem)) → (∀ i ∈ rem, i < n) → wpAny P .any ops Q (f + g) listed a w := by
  intro f
  induction f with
  | zero =>
    intro rem listed a w inv hnd hlen hrem hlt
    have hr : rem = [] := List.length_eq_zero_iff.1 hlen
    subst hr
    have e : listed = firstK ops n := by
      apply Array.ext
      · rw [inv.head.size]; simp [firstK]
      · intro i h1 h2
        have hi : i < ops.size := by rw [← inv.head.size]; exact h1
        have g1 : listed.getD i false = listed[i] := by simp [h1]
        have g2 := firstK_get ops n i false hi
        have g3 : (firstK ops n).getD i false = (firstK ops n)[i] := by simp [h2]
        rw [← g1, ← g3, g2]
        rcases Nat.lt_or_ge i n with hin | hin
        · have := hrem i hin
          simp only [List.not_mem_nil, iff_false, Bool.not_eq_false] at this
          rw [this, decide_eq_true hin]
        · have := getD_both (inv.head.tail i hin hi)
          rw [this, decide_eq_false (by omega)]
    subst e
    rw [Nat.zero_add]
    exact hfin a w inv
  | succ f ih =>
    intro rem listed a w inv hnd hlen hrem hlt
    have hsz := inv.head.size
    have next : ∀ j, j ∈ rem → ((rem.erase j).Nodup ∧ (rem.erase j).length = f ∧ (∀ i, i < n → ((listed.setIfInBounds j true).getD i false = false ↔ i ∈ rem.erase j)) ∧ ∀ i ∈ rem.erase j, i < n) := fun j hj => by
      refine ⟨hnd.erase j, by rw [List.length_erase_of_mem hj, hlen]; rfl, fun i hi => ?_, fun i hi => hlt i (List.mem_of_mem_erase hi)⟩
      rw [get_set _ _ _ (by have := hlt j hj; omega), hnd.mem_erase_iff, Bool.or_eq_false_iff, hrem i hi, beq_eq_false_iff_ne]
      exact And.comm
    have hne : rem ≠ [] := fun e => by rw [e] at hlen; simp at hlen
    obtain ⟨i0, hi0⟩ := List.exists_mem_of_ne_nil rem hne
    obtain ⟨i, hin, hio, hbe⟩ := least_open (fun i => listed.getD i false) n ⟨i0, hlt i0 hi0, (hrem i0 (hlt i0 hi0)).2 hi0⟩
    have hir : i ∈ Region.ready .any ops listed := by
      have hio' : i < ops.size := by omega
      refine mem_ready.2 ⟨getD_in (by omega) hio, ops[i], by simp [hio'], fun e he hb => ?_⟩
      have h1 := List.all_eq_true.1 hde i (List.mem_range.2 hin)
      have h0 : ops[i]? = some ops[i] := by simp [hio']
      simp only [h0] at h1
      have h2 := (Array.all_eq_true_iff_forall_mem.1 h1) e he
      simp only [hb, Bool.not_true, Bool.false_or, decide_eq_true_eq] at h2
      exact hbe e.on h2
    rw [show f + 1 + g = (f + g) + 1 by omega]
    by_cases hA : ∃ k, k < n ∧ late.contains k = false ∧ listed.getD k false = false
    · obtain ⟨k, hk, hkl, hko⟩ := hA
      refine ⟨fun h => by rw [h] at hir; (exact absurd hir (by simp)), fun j hj => ?_⟩
      have hjn : j < n := by
        rcases Nat.lt_or_ge j n with h | h
        · exact h
        · exact absurd hj (shut_of hsh inv.head h _ k rfl hk hkl (getD_in (by omega) hko))
      refine wpOp_mono (fun a' w' h => ?_) (finv_step hst hI hone hksn hob hn hlk hds hsel inv hj hjn)
      obtain ⟨n1, n2, n3, n4⟩ := next j ((hrem j hjn).1 (getD_both (mem_ready.1 hj).1))
      exact ih (rem.erase j) _ a' w' h n1 n2 n3 n4
    · have hil : late.contains i = true := by
        cases hc : late.contains i with
        | true => rfl
        | false => exact absurd ⟨i, hin, hc, hio⟩ hA
      have hl := List.all_eq_true.1 hla i (by simpa using hil)
      simp only [Bool.and_eq_true] at hl
      have hio' : i < ops.size := by omega
      have h0 : ops[i]? = some ops[i] := by simp [hio']
      have hp : ks[i]? = some .p := by
        cases hk : ks[i]? with
        | none => rw [hk] at hl; simp at hl
        | some kd => rw [hk] at hl; cases kd <;> simp [Kd.isP] at hl ⊢
      obtain ⟨v, hy, hinv⟩ := finv_late hst hone hksn hob hn hlk hds hsel inv hir hin h0 hp
      obtain ⟨n1, n2, n3, n4⟩ := next i ((hrem i hin).1 hio)
      refine wpAny_first h0 (Region.noSelect_spec hsel) (fun c a w => hQ (fun e => by rw [e] at hil; simp at hil) c a w _ v) (f + g) listed a w ?_ hir hy (ih (rem.erase i) _ _ w hinv n1 n2 n3 n4)
      intro j oj hj hji hju hno
      refine Region.free_spec h0 hl.2 j oj hj hji ?_ hno
      have hjs : j < ops.size := (Array.getElem?_eq_some_iff.1 hj).1
      rw [firstK_get ops i j true hjs, decide_eq_false_iff_not]
      intro hlt'
      have := hbe j hlt'
      rw [getD_both hju] at this
      cases this
end

theorem putL_sel (c : Nat → Value) (a : Act) : ∀ (i : Nat) (l : List Oper) (cs : List Value), i ≤ l.length → cs.length = l.length → (∀ j, j < i → ops[j]? = l[j]?) → (∀ j, j < i → cs[j]? = some (c j)) →
    putL (l.take i) (cs.take i) a = putSel ops (fun _ => true) c a i := by
  have snoc : ∀ (l : List Oper) (cs : List Value) (o : Oper) (v : Value) (a : Act), l.length = cs.length → putL (l ++ [o]) (cs ++ [v]) a = (putL l cs a).put o.dst v := by
    intro l
    induction l with
    | nil => intro cs o v a h; cases cs with
      | nil => rfl
      | cons _ _ => simp at h
    | cons x l ih => intro cs o v a h; cases cs with
      | nil => simp at h
      | cons y cs => exact ih cs o v _ (by simpa using h)
  intro i
  induction i with
  | zero => intro l cs _ _ _ _; simp [putL, putSel]
  | succ i ih =>
    intro l cs hi hlen ho hc
    have h1 : l.take (i + 1) = l.take i ++ [l[i]'(by omega)] := by rw [List.take_succ_eq_append_getElem]
    have h2 : cs.take (i + 1) = cs.take i ++ [cs[i]'(by omega)] := by rw [List.take_succ_eq_append_getElem]
    rw [h1, h2, snoc _ _ _ _ _ (by simp [hlen]), ih l cs (by omega) hlen (fun j hj => ho j (by omega)) (fun j hj => hc j (by omega)), putSel_succ, if_pos rfl]
    have e1 : dstAt ops i = (l[i]'(by omega)).dst := by
      unfold dstAt
      rw [ho i (by omega), List.getElem?_eq_getElem (by omega)]
      rfl
    have e2 : cs[i]'(by omega) = c i := by
      have := hc i (by omega)
      rw [List.getElem?_eq_getElem (by omega)] at this
      exact Option.some.inj this
    rw [e1, e2]

theorem wp_region_fx {id : Nat} {Q : Exit → Act → World → Prop} {a : Act} {w : World} {l : List Oper} (n : Nat) (ks : List Kd) (late : List Nat) (S : Nat → Prop) (I : World → Prop) (hI : ∀ w w', I w → Kept w w' → I w') (hI0 : I w) (hm : P.follows .mixedOrders = true) (hB : fxB l.toArray ks n late = true)
    (hQ : late ≠ [] → ∀ c a w, ∀ (d : Option Tmp) (v : Value), Q (.panic c) (a.put d v) w → Q (.panic c) a w)
    (h : QV (wpFx P l.toArray S I w (fun a' Γ => ∀ w', Cls S I w w' → (∀ p ∈ Γ, p.2 w') → wpList P l.toArray Q (l.drop n) a' w') ks 0 (l.take n) a [])) : (Code.region id l.toArray true).wp P Q a w := by
  simp only [fxB, Bool.and_eq_true, decide_eq_true_eq, beq_iff_eq] at hB
  obtain ⟨⟨⟨⟨⟨⟨⟨⟨⟨hsel, hn⟩, hks⟩, hlk⟩, hds⟩, hde⟩, hsh⟩, hla⟩, hone⟩, hseq⟩ := hB
  have hn' : n ≤ l.length := by simpa using hn
  have H := fun σ => fx_obs σ ks 0 (l.take n) a [] h.out
  obtain ⟨cs, H⟩ := Classical.skolem.1 H
  obtain ⟨fs, H⟩ := Classical.skolem.1 H
  obtain ⟨Γf, HS⟩ := Classical.skolem.1 H
  have hcs : ∀ σ, (cs σ).length = n := fun σ => by have := (HS σ).1; rw [List.length_take] at this; omega
  have hfs : ∀ σ, (fs σ).length = n := fun σ => by have := (HS σ).2.1; rw [List.length_take] at this; omega
  let C := fun (σ : Nat → Ltr) (k : Nat) => (cs σ).getD k undef
  let Fc := fun (σ : Nat → Ltr) (k : Nat) => (fs σ).getD k (fun _ => True)
  have hcg : ∀ σ k, k < n → (cs σ)[k]? = some (C σ k) := fun σ k hk => by
    show _ = some ((cs σ).getD k undef)
    rw [List.getD_eq_getElem?_getD, List.getElem?_eq_getElem (by rw [hcs]; exact hk)]; rfl
  have hfg : ∀ σ k, k < n → (fs σ)[k]? = some (Fc σ k) := fun σ k hk => by
    show _ = some ((fs σ).getD k _)
    rw [List.getD_eq_getElem?_getD, List.getElem?_eq_getElem (by rw [hfs]; exact hk)]; rfl
  have hput : ∀ σ k, k ≤ n → putL ((l.take n).take k) ((cs σ).take k) a = putSel l.toArray (fun _ => true) (C σ) a k := fun σ k hk =>
    putL_sel (ops := l.toArray) (C σ) a k (l.take n) (cs σ) (by rw [List.length_take]; omega) (by rw [hcs, List.length_take]; omega) (fun j hj => by simp [show j < n by omega]) (fun j hj => hcg σ j (by omega))
  have hst : ∀ σ k kd, ks[k]? = some kd → Stay1 S kd (Fc σ k) := fun σ k kd hkd =>
    (HS σ).2.2.1 k (Fc σ k) kd (hfg σ k (by have := (List.getElem?_eq_some_iff.1 hkd).1; omega)) hkd
  have hob : ∀ σ k o, k < n → l.toArray[k]? = some o → ∃ kd, ks[k]? = some kd ∧ Ob P S I l.toArray w σ kd k o (putSel l.toArray (fun _ => true) (C σ) a k) (fun w => ∀ j, j < k → Region.waitsFor .any l.toArray k j = true → Fc σ j w) (C σ k) (Fc σ k) := fun σ k o hk ho => by
    obtain ⟨kd, h1, h2⟩ := (HS σ).2.2.2.2.2 k o (C σ k) (Fc σ k) (by rw [List.getElem?_take, if_pos hk]; simpa using ho) (hcg σ k hk) (hfg σ k hk)
    refine ⟨kd, h1, ?_⟩
    rw [Nat.zero_add, hput σ k (by omega)] at h2
    have hav : ∀ w1, (∀ j, j < k → Region.waitsFor .any l.toArray k j = true → Fc σ j w1) → (Avail l.toArray k [] w1 ∧ ∀ j f, j < k → (fs σ)[j]? = some f → Region.waitsFor .any l.toArray k (0 + j) = true → f w1) := fun w1 h3 =>
      ⟨fun p hp => (by cases hp), fun j f hj hf hw => by
        rw [hfg σ j (by omega)] at hf
        obtain rfl := Option.some.inj hf
        exact h3 j hj (by rwa [Nat.zero_add] at hw)⟩
    rcases h2 with h2 | ⟨h2, h3⟩
    · exact .inl h2
    · refine .inr ⟨h2, ?_⟩
      cases kd with
      | p => exact h3
      | kv => exact fun w1 hk1 ha => h3 w1 hk1 (hav w1 ha)
      | al => exact fun w1 hk1 ha => h3 w1 hk1 (hav w1 ha)
      | cv c => exact ⟨h3.1, h3.2.1, fun w1 hk1 ha => h3.2.2 w1 hk1 (hav w1 ha)⟩
      | cf mk F => exact ⟨h3.1, h3.2.1, fun w1 hk1 ha => h3.2.2 w1 hk1 (hav w1 ha)⟩
      | st => exact fun w1 hk1 ha => h3 w1 hk1 (hav w1 ha)
  refine wp_region_any hm ?_
  have hg : ∀ i, (Array.replicate l.toArray.size false).getD i false = false := getD_replicate_false _
  have inv0 : FInv S I l.toArray w n a C Fc (Array.replicate l.toArray.size false) a { w with drawn := w.drawn + 1 } := by
    refine ⟨⟨by simp, fun j oj _ hl => (by rw [hg] at hl; cases hl), fun t _ ht => getD_in (by simpa using ht) (hg _)⟩, ⟨(Keep.refl _ w).drew, hI w _ hI0 ((Keep.refl _ w).drew)⟩, fun _ => default, fun σ _ => ⟨?_, fun k _ hl => by rw [hg] at hl; cases hl⟩⟩
    have : ∀ m, putSel l.toArray (fun k => (Array.replicate l.toArray.size false).getD k false) (C σ) a m = a := fun m => by
      induction m with
      | zero => rfl
      | succ m ih => rw [putSel_succ, hg, ih]; rfl
    exact (this n).symm
  have := finv_all (P := P) (Q := Q) (late := late) (g := l.toArray.size - n) hst hI hone hks hob hn hlk hds hsel hde hsh hla hQ (fun a' w' inv => by
    obtain ⟨τ, hτ⟩ := inv.at_
    obtain ⟨e1, e2⟩ := hτ τ (fun _ _ _ => rfl)
    have e3 : a' = putL (l.take n) (cs τ) a := by
      have h1 := hput τ n (Nat.le_refl _)
      rw [List.take_take, Nat.min_self, List.take_of_length_le (l := cs τ) (by rw [hcs]; exact Nat.le_refl _)] at h1
      rw [h1, e1]
      have h2 : ∀ m, m ≤ n → putSel l.toArray (fun k => (firstK l.toArray n).getD k false) (C τ) a m = putSel l.toArray (fun _ => true) (C τ) a m := fun m => by
        induction m with
        | zero => intro _; rfl
        | succ m ih =>
          intro hm'
          rw [putSel_succ, putSel_succ, ih (by omega), firstK_get _ _ _ _ (by omega), decide_eq_true (by omega)]
      exact h2 n (Nat.le_refl _)
    have hdl : (l.drop n).length = l.toArray.size - n := by simp
    have h5 := (HS τ).2.2.2.1 w' inv.kept (fun p hp => (HS τ).2.2.2.2.1 w' (fun p hp => by cases hp) (fun f hf => by
      obtain ⟨k, hk⟩ := List.getElem?_of_mem hf
      have hkn : k < n := by
        have := (List.getElem?_eq_some_iff.1 hk).1
        rw [hfs τ] at this
        exact this
      have h6 := hfg τ k hkn
      rw [hk] at h6
      obtain rfl := Option.some.inj h6
      exact e2 k hkn (by rw [firstK_get _ _ _ _ (by omega), decide_eq_true hkn])) p hp)
    rw [← e3] at h5
    have := wpAny_of_seq (md := .any) (Q' := Q) (l.drop n) n (firstK l.toArray n) a' w' (fun j => by simp [List.getElem?_drop]) (by rw [hdl]; exact hseq) h5
    rwa [hdl] at this) n (List.range n) (Array.replicate l.toArray.size false) a _ inv0 List.nodup_range (List.length_range) (fun i hi => by rw [hg]; simp [hi]) (fun i hi => List.mem_range.1 hi)
  rw [show n + (l.toArray.size - n) = l.toArray.size by omega] at this
  exact this

/-- the end of a region that does not end otherwise -/
def tailQ (Q : Exit → Act → World → Prop) : Exit → Act → World → Prop
  | .normal, a, w => Q .normal a w
  | _, _, _ => False
theorem tailQ_n {Q : Exit → Act → World → Prop} {a : Act} {w : World} (h : Q .normal a w) : tailQ Q .normal a w := h
/-- the same, where some operations of the head may come up behind the tail's first -/
theorem wp_region_fxl {id : Nat} {Q : Exit → Act → World → Prop} {a : Act} {w : World} {l : List Oper} (n : Nat) (ks : List Kd) (late : List Nat) (S : Nat → Prop) (I : World → Prop) (hI : ∀ w w', I w → Kept w w' → I w') (hI0 : I w) (hm : P.follows .mixedOrders = true) (hB : fxB l.toArray ks n late = true)
    (h : QV (wpFx P l.toArray S I w (fun a' Γ => ∀ w', Cls S I w w' → (∀ p ∈ Γ, p.2 w') → wpList P l.toArray (tailQ Q) (l.drop n) a' w') ks 0 (l.take n) a [])) : (Code.region id l.toArray true).wp P Q a w :=
  Code.wp_mono (fun e a w h => by cases e <;> first | exact h | exact h.elim) (wp_region_fx n ks late S I hI hI0 hm hB (fun _ _ _ _ _ _ h => h) h)

/-! ### the walk, step by step -/
section
variable {S : Nat → Prop} {I : World → Prop} {w0 : World} {Q : Act → Ctx → Prop} {ks : List Kd} {k : Nat} {l : List Oper} {o : Oper} {a : Act} {Γ : Ctx}
theorem fx_nil (h : Q a Γ) : QV (wpFx P ops S I w0 Q ks k [] a Γ) := ⟨by cases ks <;> exact h⟩
theorem fx_skip {kd : Kd} (hw : Region.wanted o (yielded ops a.tmps) = false) (h : ∀ K : Act → Prop, (∀ a, QV (wpFx P ops S I w0 Q ks (k + 1) l a Γ) → K a) → K (a.put o.dst undef)) : QV (wpFx P ops S I w0 Q (kd :: ks) k (o :: l) a Γ) :=
  ⟨by unfold wpFx; rw [if_neg (by rw [hw]; simp)]; exact (h _ (fun _ h => h)).out⟩
theorem fx_p (v : Value) (hw : Region.wanted o (yielded ops a.tmps) = true) (hr : ∀ w, (execOp a.eval o).run P w = .ok (.value v) w) (h : ∀ K : Act → Prop, (∀ a, QV (wpFx P ops S I w0 Q ks (k + 1) l a Γ) → K a) → K (a.put o.dst v)) : QV (wpFx P ops S I w0 Q (.p :: ks) k (o :: l) a Γ) :=
  ⟨by unfold wpFx; rw [if_pos hw]; exact ⟨v, hr, (h _ (fun _ h => h)).out⟩⟩
theorem fx_kv (v : Value) (hw : Region.wanted o (yielded ops a.tmps) = true) (hr : ∀ w, Cls S I w0 w → Avail ops k Γ w → (execOp a.eval o).run P w = .ok (.value v) w) (h : ∀ K : Act → Prop, (∀ a, QV (wpFx P ops S I w0 Q ks (k + 1) l a Γ) → K a) → K (a.put o.dst v)) : QV (wpFx P ops S I w0 Q (.kv :: ks) k (o :: l) a Γ) :=
  ⟨by unfold wpFx; rw [if_pos hw]; exact ⟨v, fun w hk ha => by rw [hr w hk ha]; exact ⟨rfl, Keep.refl _ _⟩, (h _ (fun _ h => h)).out⟩⟩
theorem fx_al (mk : Ltr → Value) (F : Ltr → World → Prop) (x : World → World) (hw : Region.wanted o (yielded ops a.tmps) = true) (hF : Stays S F) (hr : ∀ w, Cls S I w0 w → Avail ops k Γ w → (execOp a.eval o).run P w = .ok (.value (mk (.at_ w))) (x w)) (hx : ∀ w, Cls S I w0 w → Kept w (x w) ∧ F (.at_ w) (x w))
    (h : ∀ K : Act → Ctx → Prop, (∀ a Γ, QV (wpFx P ops S I w0 Q ks (k + 1) l a Γ) → K a Γ) → ∀ x, K (a.put o.dst (mk x)) ((k, F x) :: Γ)) : QV (wpFx P ops S I w0 Q (.al :: ks) k (o :: l) a Γ) :=
  ⟨by unfold wpFx; rw [if_pos hw]; exact ⟨mk, F, hF, fun w hk ha => by rw [hr w hk ha]; exact ⟨(hx w hk).1, rfl, (hx w hk).2⟩, fun v => (h (fun a Γ => QV (wpFx P ops S I w0 Q ks (k + 1) l a Γ)) (fun _ _ h => h) v).out⟩⟩
/-- a new block b holds the cells C -/
def NewAt (w0 : World) (C : List Value) (b : Nat) (w : World) : Prop := w0.heap.size ≤ b ∧ w.rangeAt b 0 C ∧ w.there b 0 C.length
theorem newAt_stays (w0 : World) (hS : ∀ b, S b → b < w0.heap.size) (C : List Value) : Stays S fun x w => NewAt w0 C x.n w := fun x _ _ ⟨h1, h2, h3⟩ hk =>
  have hn : ¬ S x.n := fun h => absurd (hS _ h) (by omega)
  ⟨h1, hk.range h2 hn, hk.there h3 hn⟩
theorem newAt_new {w0 w : World} (C : Array Value) (T : TypeId) (hk : Keep S w0 w) : NewAt w0 C.toList (Ltr.at_ w).n (w.alloc (.cells C T)) :=
  ⟨hk.size, range_alloc_new w C T _ (fun j v hj => by simpa using hj), there_alloc_new w C T _ (by simp)⟩
/-- a new block, told by its number -/
theorem fx_new (hS : ∀ b, S b → b < w0.heap.size) (mk : Nat → Value) (C : Array Value) (T : TypeId) (hw : Region.wanted o (yielded ops a.tmps) = true) (hr : ∀ w, Cls S I w0 w → Avail ops k Γ w → (execOp a.eval o).run P w = .ok (.value (mk w.heap.size)) (w.alloc (.cells C T)))
    (h : ∀ K : Act → Ctx → Prop, (∀ a Γ, QV (wpFx P ops S I w0 Q ks (k + 1) l a Γ) → K a Γ) → ∀ b, K (a.put o.dst (mk b)) ((k, NewAt w0 C.toList b) :: Γ)) : QV (wpFx P ops S I w0 Q (.al :: ks) k (o :: l) a Γ) :=
  fx_al (fun x => mk x.n) (fun x w => NewAt w0 C.toList x.n w) (fun w => w.alloc (.cells C T)) hw (newAt_stays w0 hS _) hr (fun _ hk => ⟨(Keep.refl _ _).alloc _, newAt_new C T hk.keep⟩) (fun K hK x => h K hK x.n)
theorem fx_st (x : World → World) (F : World → Prop) (hw : Region.wanted o (yielded ops a.tmps) = true) (hF : ∀ w w', F w → Kept w w' → F w') (hr : ∀ w, Cls S I w0 w → Avail ops k Γ w → (execOp a.eval o).run P w = .ok .skip (x w)) (hx : ∀ w, Cls S I w0 w → Keep S w (x w) ∧ I (x w) ∧ F (x w))
    (h : ∀ K : Act → Ctx → Prop, (∀ a Γ, QV (wpFx P ops S I w0 Q ks (k + 1) l a Γ) → K a Γ) → K (a.put o.dst undef) ((k, F) :: Γ)) : QV (wpFx P ops S I w0 Q (.st :: ks) k (o :: l) a Γ) :=
  ⟨by unfold wpFx; rw [if_pos hw]; exact ⟨F, hF, fun w hk ha => by rw [hr w hk ha]; exact ⟨rfl, hx w hk⟩, (h (fun a Γ => QV (wpFx P ops S I w0 Q ks (k + 1) l a Γ)) (fun _ _ h => h)).out⟩⟩
/-- a Value stored into cells of one's own: one operation of the head -/
theorem there_set {w : World} {b o n : Nat} (h : w.there b o n) (p : Addr) (v : Value) : (w.setCell p v).there b o n := fun j hj => by
  obtain ⟨h1, h2⟩ := h j hj
  refine ⟨?_, by rw [World.frozen?_setCell]; exact h2⟩
  obtain ⟨u, hu⟩ := Option.isSome_iff_exists.1 h1
  by_cases e : p = ⟨b, o + j, none⟩
  · subst e
    rw [World.cell?_setCell_same _ _ _ hu]
    rfl
  · rw [World.cell?_setCell_other _ _ _ _ e, hu]
    rfl
def put8W (b : Nat) (a0 a1 a2 a3 a4 a5 a6 a7 : Value) (w : World) : World := (((((((w.setCell ⟨b, 0, none⟩ a0).setCell ⟨b, 1, none⟩ a1).setCell ⟨b, 2, none⟩ a2).setCell ⟨b, 3, none⟩ a3).setCell ⟨b, 4, none⟩ a4).setCell ⟨b, 5, none⟩ a5).setCell ⟨b, 6, none⟩ a6).setCell ⟨b, 7, none⟩ a7
theorem fx_st8 (b : Nat) (r : Raw) (a0 a1 a2 a3 a4 a5 a6 a7 : Value) (he : [a0, a1, a2, a3, a4, a5, a6, a7] = ER.cells r) (hI : I = fun w => w.there b 0 8) (hSb : S b) (hw : Region.wanted o (yielded ops a.tmps) = true)
    (hr : ∀ w, Cls S I w0 w → w.there b 0 8 → Avail ops k Γ w → (execOp a.eval o).run P w = .ok .skip (put8W b a0 a1 a2 a3 a4 a5 a6 a7 w))
    (h : ∀ K : Act → Ctx → Prop, (∀ a Γ, QV (wpFx P ops S I w0 Q ks (k + 1) l a Γ) → K a Γ) → K (a.put o.dst undef) ((k, fun w => w.rangeAt b 0 (ER.cells r)) :: Γ)) : QV (wpFx P ops S I w0 Q (.st :: ks) k (o :: l) a Γ) := by
  subst hI
  refine fx_st (put8W b a0 a1 a2 a3 a4 a5 a6 a7) (fun w => w.rangeAt b 0 (ER.cells r)) hw (fun w w' h1 h2 => h2.range h1 (fun h => h)) (fun w hk ha => hr w hk hk.inv ha) (fun w hk => ?_) h
  obtain ⟨w2, e2, h2, h3⟩ := put8 hk.inv r a0 a1 a2 a3 a4 a5 a6 a7 he
  have e : put8W b a0 a1 a2 a3 a4 a5 a6 a7 w = w2 := e2.out
  rw [e]
  refine ⟨h3.mono (fun k _ e => by subst e; exact hSb), ?_, h2⟩
  rw [← e]
  exact there_set (there_set (there_set (there_set (there_set (there_set (there_set (there_set hk.inv _ _) _ _) _ _) _ _) _ _) _ _) _ _) _ _
theorem fx_cv {c : Value} {f : FuncId} {args : Array Value} (hw : Region.wanted o (yielded ops a.tmps) = true) (hr : ∀ w, (execOp a.eval o).run P w = .ok (.enter f args) w) (hc : ∀ w, Cls S I w0 w → Avail ops k Γ w → Calls P f args w fun e w' => e = .returned c ∧ Kept w w')
    (h : ∀ K : Act → Prop, (∀ a, QV (wpFx P ops S I w0 Q ks (k + 1) l a Γ) → K a) → K (a.put o.dst c)) : QV (wpFx P ops S I w0 Q (.cv c :: ks) k (o :: l) a Γ) :=
  ⟨by unfold wpFx; rw [if_pos hw]; exact ⟨fun w hk ha => by rw [hr w]; exact ⟨rfl, (hc w hk ha).mono fun e w' ⟨h1, h2⟩ => ⟨c, h1, rfl, h2⟩⟩, (h _ (fun _ h => h)).out⟩⟩
theorem fx_cf {mk : Ltr → Value} {F : Ltr → World → Prop} {f : FuncId} {args : Array Value} (hw : Region.wanted o (yielded ops a.tmps) = true) (hF : Stays S F) (hr : ∀ w, (execOp a.eval o).run P w = .ok (.enter f args) w) (hc : ∀ w, Cls S I w0 w → Avail ops k Γ w → Calls P f args w fun e w' => ∃ x, e = .returned (mk x) ∧ Kept w w' ∧ F x w')
    (h : ∀ K : Act → Ctx → Prop, (∀ a Γ, QV (wpFx P ops S I w0 Q ks (k + 1) l a Γ) → K a Γ) → ∀ x, K (a.put o.dst (mk x)) ((k, F x) :: Γ)) : QV (wpFx P ops S I w0 Q (.cf mk F :: ks) k (o :: l) a Γ) :=
  ⟨by unfold wpFx; rw [if_pos hw]; exact ⟨hF, fun w hk ha => by rw [hr w]; exact ⟨rfl, (hc w hk ha).mono fun e w' ⟨x, h1, h2, h3⟩ => ⟨mk x, h1, h2, x, rfl, h3⟩⟩, fun v => (h (fun a Γ => QV (wpFx P ops S I w0 Q ks (k + 1) l a Γ)) (fun _ _ h => h) v).out⟩⟩
end
end
end Go.Proofs.YtiemkfibpfndaaaGreatDoor

/- The reference's Next and Read. Printed by mkzj. -/
namespace Go.Proofs.YtiemkfibpfndaaaGreatDoor
open Go.RowKit

theorem three {W : World} {b : Nat} (h : W.there b 0 3) : ∃ v0 v1 v2, (W.cell? ⟨b, 0, none⟩ = some v0 ∧ W.cell? ⟨b, 1, none⟩ = some v1 ∧ W.cell? ⟨b, 2, none⟩ = some v2) ∧ W.frozen? ⟨b, 0, none⟩ = false ∧ W.frozen? ⟨b, 1, none⟩ = false ∧ W.frozen? ⟨b, 2, none⟩ = false := by
  have c : ∀ j, j < 3 → ∃ v, W.cell? ⟨b, j, none⟩ = some v := fun j hj => by
    have := (h j hj).1
    rw [Nat.zero_add] at this
    exact Option.isSome_iff_exists.1 this
  have f : ∀ j, j < 3 → W.frozen? ⟨b, j, none⟩ = false := fun j hj => by
    have := (h j hj).2
    rwa [Nat.zero_add] at this
  obtain ⟨v0, c0⟩ := c 0 (by decide)
  obtain ⟨v1, c1⟩ := c 1 (by decide)
  obtain ⟨v2, c2⟩ := c 2 (by decide)
  exact ⟨v0, v1, v2, ⟨c0, c1, c2⟩, f 0 (by decide), f 1 (by decide), f 2 (by decide)⟩
theorem put3 {w1 : World} {b4 : Nat} (th : w1.there b4 0 3) (a0 a1 a2 : Value) :
    ∃ w2, Hid (((w1.setCell ⟨b4, 0, none⟩ a0).setCell ⟨b4, 1, none⟩ a1).setCell ⟨b4, 2, none⟩ a2 = w2) ∧ (w2.cell? ⟨b4, 0, none⟩ = some a0 ∧ w2.cell? ⟨b4, 1, none⟩ = some a1 ∧ w2.cell? ⟨b4, 2, none⟩ = some a2) ∧ Keep (· = b4) w1 w2 := by
  refine ⟨_, Lib.hid rfl, ⟨?_, ?_, ?_⟩, ?_⟩
  · exact World.rangeAt_setCells_same w1 b4 0 [a0, a1, a2] th 0 a0 rfl
  · exact World.rangeAt_setCells_same w1 b4 0 [a0, a1, a2] th 1 a1 rfl
  · exact World.rangeAt_setCells_same w1 b4 0 [a0, a1, a2] th 2 a2 rfl
  · exact (Keep.refl (· = b4) w1).setCells (b := b4) [a0, a1, a2] 0 (fun _ => rfl)
/-- a fault of the reference -/
def fltV (c q : Nat) : Value := .agg #[.int .i64 (c : Int), .int .i64 (q : Int), .string ⟨#[]⟩]
theorem load_flt {w : World} {b c q : Nat} (h : w.cell? ⟨b, 0, none⟩ = some (.int .i64 (c : Int)) ∧ w.cell? ⟨b, 1, none⟩ = some (.int .i64 (q : Int)) ∧ w.cell? ⟨b, 2, none⟩ = some (.string ⟨#[]⟩)) : (loadVar 57 ⟨b, 0, none⟩).run Tryz.prog w = .ok (fltV c q) w := by
  obtain ⟨h0, h1, h2⟩ := h
  go_simp
  rfl
theorem ret_vtf {fn : Func} {p u f : Tmp} {R : Ending → World → Prop} {a : Act} {w : World} {b bf c q : Nat} {r : Raw} {v : Value} (h : fn.results = #[.cell p 55, .tmp u, .cell f 57]) (hp : a.tmps.getD p undef = .pointer (some ⟨b, 0, none⟩)) (hv : a.tmps.getD u undef = v) (hf : a.tmps.getD f undef = .pointer (some ⟨bf, 0, none⟩)) (hd : a.defers = [])
    (hr : w.rangeAt b 0 (ER.cells r)) (hg : w.cell? ⟨bf, 0, none⟩ = some (.int .i64 (c : Int)) ∧ w.cell? ⟨bf, 1, none⟩ = some (.int .i64 (q : Int)) ∧ w.cell? ⟨bf, 2, none⟩ = some (.string ⟨#[]⟩)) (hR : R (.returned (.tuple #[ER.val r, v, fltV c q])) w) : bodyPost Tryz.prog fn R .ret a w := by
  refine bodyPost_ret (v := .tuple #[ER.val r, v, fltV c q]) ?_ hd hR
  have hl := load_val hr
  have hl2 := load_flt hg
  have hp' : a.tmps[p]?.getD undef = .pointer (some ⟨b, 0, none⟩) := by rw [← hp]; simp
  have hv' : a.tmps[u]?.getD undef = v := by rw [← hv]; simp
  have hf' : a.tmps[f]?.getD undef = .pointer (some ⟨bf, 0, none⟩) := by rw [← hf]; simp
  simp [results, h, hp', hv', hf', asAddr, hl, hl2]
theorem ret_vf {fn : Func} {p f : Tmp} {R : Ending → World → Prop} {a : Act} {w : World} {b bf c q : Nat} {r : Raw} (h : fn.results = #[.cell p 55, .cell f 57]) (hp : a.tmps.getD p undef = .pointer (some ⟨b, 0, none⟩)) (hf : a.tmps.getD f undef = .pointer (some ⟨bf, 0, none⟩)) (hd : a.defers = [])
    (hr : w.rangeAt b 0 (ER.cells r)) (hg : w.cell? ⟨bf, 0, none⟩ = some (.int .i64 (c : Int)) ∧ w.cell? ⟨bf, 1, none⟩ = some (.int .i64 (q : Int)) ∧ w.cell? ⟨bf, 2, none⟩ = some (.string ⟨#[]⟩)) (hR : R (.returned (.tuple #[ER.val r, fltV c q])) w) : bodyPost Tryz.prog fn R .ret a w := by
  refine bodyPost_ret (v := .tuple #[ER.val r, fltV c q]) ?_ hd hR
  have hl := load_val hr
  have hl2 := load_flt hg
  have hp' : a.tmps[p]?.getD undef = .pointer (some ⟨b, 0, none⟩) := by rw [← hp]; simp
  have hf' : a.tmps[f]?.getD undef = .pointer (some ⟨bf, 0, none⟩) := by rw [← hf]; simp
  simp [results, h, hp', hf', asAddr, hl, hl2]
theorem rr_new (w : World) (s : ByteArray) (p : Nat) (T : TypeId) : RR (w.alloc (.cells #[.string s, .int .i64 (p : Int), .int .i64 0, .int .i64 0, .int .i64 0, .string ⟨#[]⟩] T)) w.heap.size s p 0 0 0 :=
  ⟨by simp, by simp, by simp, by simp, by simp, by simp, fun i _ => by simp⟩
/-- a value and a fault, both new -/
theorem startf (w : World) : ∃ w0 b4 b6, Hid ((w.alloc (.cells #[.int .i8 0, .int .u64 0, .bool false, .slice none 0 0, .int .u64 0, .int .i8 0, .string ⟨#[]⟩, .slice none 0 0] 55)).alloc (.cells #[.int .i64 0, .int .i64 0, .string ⟨#[]⟩] 57) = w0) ∧ Hid (w.heap.size = b4) ∧ Hid (w.heap.size + 1 = b6) ∧ Hid (Keep nob w w0) ∧ Hid (w0.there b4 0 8) ∧ Hid (w0.there b6 0 3) ∧ Hid (w.heap.size ≤ b4 ∧ b4 < b6 ∧ b6 < w0.heap.size) := by
  obtain ⟨w1, b4, HW, HB, HK, HT, HL⟩ := start w
  have h1 := there_alloc_new w1 #[.int .i64 0, .int .i64 0, .string ⟨#[]⟩] 57 3 (Nat.le_refl _)
  have hz : w1.heap.size = w.heap.size + 1 := by rw [← HW.out]; simp
  refine ⟨_, b4, w.heap.size + 1, Lib.hid rfl, HB, Lib.hid rfl, ?_, ?_, ?_, ?_⟩
  · rw [HW.out]; exact Lib.hid (HK.out.alloc _)
  · rw [HW.out]; exact Lib.hid (HT.out.keep' ((Keep.refl nob _).alloc _))
  · rw [HW.out, ← hz]; exact Lib.hid h1
  · rw [HW.out]
    have := HB.out
    exact Lib.hid ⟨by omega, by omega, by simp [hz]⟩
set_option maxRecDepth 100000 in
set_option maxHeartbeats 1000000 in
theorem rnext_good (s : ByteArray) (p : Nat) (r : Raw) (p1 : Nat) (hp : p ≤ s.size) (hs : s.size ≤ 1048576) (w : World) (hi : ∀ b W, RR W b s p 0 0 0 → Calls Tryz.prog 24 #[.pointer (some ⟨b, 0, none⟩)] W fun e w' => Keep (· = b) W w' ∧ e = .returned (.agg #[.int .i8 (r.kind : Int), .int .u64 (r.n : Int), .bool r.neg, .slice r.mA r.mL r.mC, .int .u64 (r.bits : Int), .int .i8 r.ext, .string r.text, .slice r.kA r.kL r.kC]) ∧ RR w' b s p1 0 0 0) :
    Calls Tryz.prog 13 #[.string s, .int .i64 (p : Int)] w fun e w' => Keep nob w w' ∧ e = .returned (.tuple #[ER.val r, .int .i64 (p1 : Int), fltV 0 0]) := by
  obtain ⟨w0, b4, b6, HW0, HB4, HB6, HK0, HT4, HT6, HL0⟩ := startf w
  have HI := Lib.hid hi
  have d1 : decide ((p : Int) < 0) = false := by rw [decide_eq_false_iff_not]; omega
  have d2 : decide ((p : Int) > (s.size : Int)) = false := by rw [decide_eq_false_iff_not]; omega
  have d2' : decide (s.size < p) = false := by rw [decide_eq_false_iff_not]; omega
  have d3 : decide ((s.size : Int) > 1048576) = false := by rw [decide_eq_false_iff_not]; omega
  have d3' : decide (1048576 < s.size) = false := by rw [decide_eq_false_iff_not]; omega
  clear hi hp hs
  go_enter Tryz.func13, Tryz.ntmps13
  go_upto_region 1 with (fail)
  rw [HW0.out]
  simp only [HB6.out]
  rw [HB4.out]
  go_upto_region 6 with (fail)
  obtain ⟨w1, HW1⟩ : ∃ w1, Hid (w0.alloc (.cells #[.string s, .int .i64 (p : Int), .int .i64 0, .int .i64 0, .int .i64 0, .string ⟨#[]⟩] 84) = w1) := ⟨_, Lib.hid rfl⟩
  obtain ⟨b, HB⟩ : ∃ b, Hid (w0.heap.size = b) := ⟨_, Lib.hid rfl⟩
  have HK1 : Hid (Keep nob w0 w1) := by unfold Hid; rw [← HW1.out]; exact (Keep.refl _ _).alloc _
  have HR1 : Hid (RR w1 b s p 0 0 0) := by unfold Hid; rw [← HW1.out, ← HB.out]; exact rr_new w0 s p _
  rw [HW1.out, HB.out]
  go_upto_region 7 with (go_at_call 24; go_must (refine (HI.out _ _ HR1.out).mono ?_); rintro e w2 ⟨hk2, rfl, hr2⟩; have HK2 := Lib.hid hk2; have HR2 := Lib.hid hr2; clear hk2 hr2)
  obtain ⟨w3, HW3⟩ : ∃ w3, Hid (w2.alloc (.cells #[.int .i8 (r.kind : Int), .int .u64 (r.n : Int), .bool r.neg, .slice r.mA r.mL r.mC, .int .u64 (r.bits : Int), .int .i8 r.ext, .string r.text, .slice r.kA r.kL r.kC] 55) = w3) := ⟨_, Lib.hid rfl⟩
  obtain ⟨b8, HB8⟩ : ∃ b8, Hid (w2.heap.size = b8) := ⟨_, Lib.hid rfl⟩
  have HK3 : Hid (Keep nob w2 w3) := by unfold Hid; rw [← HW3.out]; exact (Keep.refl _ _).alloc _
  have HR8 := Lib.hid (range_new w2 r 55)
  rw [show w2.alloc (.cells (ER.cells r).toArray 55) = w3 from HW3.out, HB8.out] at HR8
  rw [HW3.out, HB8.out]
  have HRR8 := Lib.hid (HR2.out.keep HK3.out (fun h => h))
  have hz1 := HK1.out.size
  have hz2 := HK2.out.size
  have hz3 := HK3.out.size
  have hl0 := HL0.out
  have hbb := HB.out
  have hb8 := HB8.out
  have HNEb : Hid (¬ b = b4) := Lib.hid (by omega)
  have HNE8 : Hid (¬ b8 = b4) := Lib.hid (by omega)
  have HNE6 : Hid (¬ b6 = b4) := Lib.hid (by omega)
  have HB48 : Hid (b4 < w3.heap.size) := Lib.hid (by omega)
  have kk : Keep (· = b) w0 w3 := (HK1.out.mono (fun _ _ h => h.elim)).then_ (HK2.out.then_ (HK3.out.mono (fun _ _ h => h.elim)))
  have HT48 : Hid (w3.there b4 0 8) := Lib.hid (kk.there HT4.out (fun e => HNEb.out e.symm))
  have HT68 : Hid (w3.there b6 0 3) := Lib.hid (kk.there HT6.out (fun e => by omega))
  have HKW : Hid (Keep nob w w3) := Lib.hid (HK0.out.trans kk (fun j h1 h2 => by omega))
  have HBD := Lib.hid (rbad0_ok b s p1 0 0 w3 HRR8.out)
  clear kk hz1 hz2 hz3 hl0 hbb hb8
  go_upto_region 9 with (go_at_call 25; go_must (refine HBD.out.mono ?_); rintro e w4 ⟨rfl, rfl⟩)
  refine wp_region_fx 11 [.kv, .p, .p, .p, .kv, .p, .p, .p, .kv, .st, .p] [] (· = b4) (fun w => w.there b4 0 8) (fun _ _ h k => h.keep' k) HT48.out (by kernel_rfl) (by kernel_rfl) (fun h => absurd rfl h) ?_
  simp only [List.take_succ_cons, List.take_zero, List.drop_succ_cons, List.drop_zero]
  refine fx_kv ?_ (by rfl) (fun w' hw' ha => ?_) (fun K hK => ?_); rotate_left; (obtain ⟨e0, e1, e2, e3, e4, e5, e6, e7⟩ := cells_val (range_keepS hw'.keep HNE8.out HR8.out); have g1 := hw'.keep.cell HRR8.out.c1 HNEb.out; have g3 := hw'.keep.cell HRR8.out.c3 HNEb.out; have g4 := hw'.keep.cell HRR8.out.c4 HNEb.out; have g5 := hw'.keep.cell HRR8.out.c5 HNEb.out; go_simp; first | done | exact rfl); go_simp; refine hK _ ?_; clear hK K
  refine fx_p ?_ (by rfl) (fun w' => ?_) (fun K hK => ?_); rotate_left; (go_simp; first | done | exact rfl); go_simp; refine hK _ ?_; clear hK K
  refine fx_p ?_ (by rfl) (fun w' => ?_) (fun K hK => ?_); rotate_left; (go_simp; first | done | exact rfl); go_simp; refine hK _ ?_; clear hK K
  refine fx_p ?_ (by rfl) (fun w' => ?_) (fun K hK => ?_); rotate_left; (go_simp; first | done | exact rfl); go_simp; refine hK _ ?_; clear hK K
  refine fx_kv ?_ (by rfl) (fun w' hw' ha => ?_) (fun K hK => ?_); rotate_left; (obtain ⟨e0, e1, e2, e3, e4, e5, e6, e7⟩ := cells_val (range_keepS hw'.keep HNE8.out HR8.out); have g1 := hw'.keep.cell HRR8.out.c1 HNEb.out; have g3 := hw'.keep.cell HRR8.out.c3 HNEb.out; have g4 := hw'.keep.cell HRR8.out.c4 HNEb.out; have g5 := hw'.keep.cell HRR8.out.c5 HNEb.out; go_simp; first | done | exact rfl); go_simp; refine hK _ ?_; clear hK K
  refine fx_p ?_ (by rfl) (fun w' => ?_) (fun K hK => ?_); rotate_left; (go_simp; first | done | exact rfl); go_simp; refine hK _ ?_; clear hK K
  refine fx_p ?_ (by rfl) (fun w' => ?_) (fun K hK => ?_); rotate_left; (go_simp; first | done | exact rfl); go_simp; refine hK _ ?_; clear hK K
  refine fx_p ?_ (by rfl) (fun w' => ?_) (fun K hK => ?_); rotate_left; (go_simp; first | done | exact rfl); go_simp; refine hK _ ?_; clear hK K
  refine fx_kv ?_ (by rfl) (fun w' hw' ha => ?_) (fun K hK => ?_); rotate_left; (obtain ⟨e0, e1, e2, e3, e4, e5, e6, e7⟩ := cells_val (range_keepS hw'.keep HNE8.out HR8.out); have g1 := hw'.keep.cell HRR8.out.c1 HNEb.out; have g3 := hw'.keep.cell HRR8.out.c3 HNEb.out; have g4 := hw'.keep.cell HRR8.out.c4 HNEb.out; have g5 := hw'.keep.cell HRR8.out.c5 HNEb.out; go_simp; first | done | exact rfl); go_simp; refine hK _ ?_; clear hK K
  refine fx_st8 b4 (r) (.int .i8 (r.kind : Int)) (.int .u64 (r.n : Int)) (.bool r.neg) (.slice r.mA r.mL r.mC) (.int .u64 (r.bits : Int)) (.int .i8 r.ext) (.string r.text) (.slice r.kA r.kL r.kC) rfl rfl rfl (by rfl) (fun w' hw' ht' ha => ?_) (fun K hK => ?_); (obtain ⟨e0, e1, e2, e3, e4, e5, e6, e7⟩ := cells_val (range_keepS hw'.keep HNE8.out HR8.out); have g1 := hw'.keep.cell HRR8.out.c1 HNEb.out; have g3 := hw'.keep.cell HRR8.out.c3 HNEb.out; have g4 := hw'.keep.cell HRR8.out.c4 HNEb.out; have g5 := hw'.keep.cell HRR8.out.c5 HNEb.out; obtain ⟨v0, v1, v2, v3, v4, v5, v6, v7, ⟨c0, c1, c2, c3, c4, c5, c6, c7⟩, f0, f1, f2, f3, f4, f5, f6, f7⟩ := eight ht'; go_simp; first | done | exact rfl); go_simp; refine hK _ _ ?_; clear hK K
  refine fx_p ?_ (by rfl) (fun w' => ?_) (fun K hK => ?_); rotate_left; (go_simp; first | done | exact rfl); go_simp; refine hK _ ?_; clear hK K
  refine fx_nil ?_
  intro w9 hk9 hΓ
  have HK9 := Lib.hid hk9.keep
  have HFst := Lib.hid (hΓ _ List.mem_cons_self)
  clear hk9 hΓ
  have HT9 : Hid (w9.there b6 0 3) := Lib.hid (HK9.out.there HT68.out HNE6.out)
  obtain ⟨v0, v1, v2, ⟨d0, d1, d2⟩, f0, f1, f2⟩ := three HT9.out
  go_wp2_with (fail)
  obtain ⟨w10, e10, g10, k10⟩ := put3 HT9.out (.int .i64 0) (.int .i64 0) (.string ⟨#[]⟩)
  rw [e10.out]
  have hl0 := HL0.out
  have hk : Keep nob w w10 := (HKW.out.trans HK9.out (fun j h1 h2 => by omega)).trans k10 (fun j h1 h2 => by omega)
  exact ret_vtf (c := 0) (q := 0) rfl rfl rfl rfl rfl (range_keepS k10 (fun e => HNE6.out e.symm) HFst.out) g10 ⟨hk, rfl⟩
set_option maxRecDepth 100000 in
set_option maxHeartbeats 1000000 in
theorem rnext_bad (s : ByteArray) (p : Nat) (r : Raw) (p1 : Nat) (c q : Nat) (hc : 0 < c) (hp : p ≤ s.size) (hs : s.size ≤ 1048576) (w : World) (hi : ∀ b W, RR W b s p 0 0 0 → Calls Tryz.prog 24 #[.pointer (some ⟨b, 0, none⟩)] W fun e w' => Keep (· = b) W w' ∧ e = .returned (.agg #[.int .i8 (r.kind : Int), .int .u64 (r.n : Int), .bool r.neg, .slice r.mA r.mL r.mC, .int .u64 (r.bits : Int), .int .i8 r.ext, .string r.text, .slice r.kA r.kL r.kC]) ∧ RR w' b s p1 0 c q) :
    Calls Tryz.prog 13 #[.string s, .int .i64 (p : Int)] w fun e w' => Keep nob w w' ∧ e = .returned (.tuple #[ER.val Raw.zero, .int .i64 0, fltV c q]) := by
  obtain ⟨w0, b4, b6, HW0, HB4, HB6, HK0, HT4, HT6, HL0⟩ := startf w
  have HI := Lib.hid hi
  have d1 : decide ((p : Int) < 0) = false := by rw [decide_eq_false_iff_not]; omega
  have d2 : decide ((p : Int) > (s.size : Int)) = false := by rw [decide_eq_false_iff_not]; omega
  have d2' : decide (s.size < p) = false := by rw [decide_eq_false_iff_not]; omega
  have d3 : decide ((s.size : Int) > 1048576) = false := by rw [decide_eq_false_iff_not]; omega
  have d3' : decide (1048576 < s.size) = false := by rw [decide_eq_false_iff_not]; omega
  clear hi hp hs
  go_enter Tryz.func13, Tryz.ntmps13
  go_upto_region 1 with (fail)
  rw [HW0.out]
  simp only [HB6.out]
  rw [HB4.out]
  go_upto_region 6 with (fail)
  obtain ⟨w1, HW1⟩ : ∃ w1, Hid (w0.alloc (.cells #[.string s, .int .i64 (p : Int), .int .i64 0, .int .i64 0, .int .i64 0, .string ⟨#[]⟩] 84) = w1) := ⟨_, Lib.hid rfl⟩
  obtain ⟨b, HB⟩ : ∃ b, Hid (w0.heap.size = b) := ⟨_, Lib.hid rfl⟩
  have HK1 : Hid (Keep nob w0 w1) := by unfold Hid; rw [← HW1.out]; exact (Keep.refl _ _).alloc _
  have HR1 : Hid (RR w1 b s p 0 0 0) := by unfold Hid; rw [← HW1.out, ← HB.out]; exact rr_new w0 s p _
  rw [HW1.out, HB.out]
  go_upto_region 7 with (go_at_call 24; go_must (refine (HI.out _ _ HR1.out).mono ?_); rintro e w2 ⟨hk2, rfl, hr2⟩; have HK2 := Lib.hid hk2; have HR2 := Lib.hid hr2; clear hk2 hr2)
  obtain ⟨w3, HW3⟩ : ∃ w3, Hid (w2.alloc (.cells #[.int .i8 (r.kind : Int), .int .u64 (r.n : Int), .bool r.neg, .slice r.mA r.mL r.mC, .int .u64 (r.bits : Int), .int .i8 r.ext, .string r.text, .slice r.kA r.kL r.kC] 55) = w3) := ⟨_, Lib.hid rfl⟩
  obtain ⟨b8, HB8⟩ : ∃ b8, Hid (w2.heap.size = b8) := ⟨_, Lib.hid rfl⟩
  have HK3 : Hid (Keep nob w2 w3) := by unfold Hid; rw [← HW3.out]; exact (Keep.refl _ _).alloc _
  have HR8 := Lib.hid (range_new w2 r 55)
  rw [show w2.alloc (.cells (ER.cells r).toArray 55) = w3 from HW3.out, HB8.out] at HR8
  rw [HW3.out, HB8.out]
  have HRR8 := Lib.hid (HR2.out.keep HK3.out (fun h => h))
  have hz1 := HK1.out.size
  have hz2 := HK2.out.size
  have hz3 := HK3.out.size
  have hl0 := HL0.out
  have hbb := HB.out
  have hb8 := HB8.out
  have HNEb : Hid (¬ b = b4) := Lib.hid (by omega)
  have HNE8 : Hid (¬ b8 = b4) := Lib.hid (by omega)
  have HNE6 : Hid (¬ b6 = b4) := Lib.hid (by omega)
  have HB48 : Hid (b4 < w3.heap.size) := Lib.hid (by omega)
  have kk : Keep (· = b) w0 w3 := (HK1.out.mono (fun _ _ h => h.elim)).then_ (HK2.out.then_ (HK3.out.mono (fun _ _ h => h.elim)))
  have HT48 : Hid (w3.there b4 0 8) := Lib.hid (kk.there HT4.out (fun e => HNEb.out e.symm))
  have HT68 : Hid (w3.there b6 0 3) := Lib.hid (kk.there HT6.out (fun e => by omega))
  have HKW : Hid (Keep nob w w3) := Lib.hid (HK0.out.trans kk (fun j h1 h2 => by omega))
  have HBD := Lib.hid (rbad1_ok b s p1 0 c q hc w3 HRR8.out)
  clear kk hz1 hz2 hz3 hl0 hbb hb8 hc
  go_upto_region 8 with (go_at_call 25; go_must (refine HBD.out.mono ?_); rintro e w4 ⟨rfl, rfl⟩)
  refine wp_region_fx 7 [.p, .p, .p, .p, .kv, .st, .p] [] (· = b4) (fun w => w.there b4 0 8) (fun _ _ h k => h.keep' k) HT48.out (by kernel_rfl) (by kernel_rfl) (fun h => absurd rfl h) ?_
  simp only [List.take_succ_cons, List.take_zero, List.drop_succ_cons, List.drop_zero]
  refine fx_p ?_ (by rfl) (fun w' => ?_) (fun K hK => ?_); rotate_left; (go_simp; first | done | exact rfl); go_simp; refine hK _ ?_; clear hK K
  refine fx_p ?_ (by rfl) (fun w' => ?_) (fun K hK => ?_); rotate_left; (go_simp; first | done | exact rfl); go_simp; refine hK _ ?_; clear hK K
  refine fx_p ?_ (by rfl) (fun w' => ?_) (fun K hK => ?_); rotate_left; (go_simp; first | done | exact rfl); go_simp; refine hK _ ?_; clear hK K
  refine fx_p ?_ (by rfl) (fun w' => ?_) (fun K hK => ?_); rotate_left; (go_simp; first | done | exact rfl); go_simp; refine hK _ ?_; clear hK K
  refine fx_kv ?_ (by rfl) (fun w' hw' ha => ?_) (fun K hK => ?_); rotate_left; (obtain ⟨e0, e1, e2, e3, e4, e5, e6, e7⟩ := cells_val (range_keepS hw'.keep HNE8.out HR8.out); have g1 := hw'.keep.cell HRR8.out.c1 HNEb.out; have g3 := hw'.keep.cell HRR8.out.c3 HNEb.out; have g4 := hw'.keep.cell HRR8.out.c4 HNEb.out; have g5 := hw'.keep.cell HRR8.out.c5 HNEb.out; go_simp; first | done | exact rfl); go_simp; refine hK _ ?_; clear hK K
  refine fx_st8 b4 ((Raw.zero)) (.int .i8 0) (.int .u64 0) (.bool false) (.slice none 0 0) (.int .u64 0) (.int .i8 0) (.string ⟨#[]⟩) (.slice none 0 0) rfl rfl rfl (by rfl) (fun w' hw' ht' ha => ?_) (fun K hK => ?_); (obtain ⟨e0, e1, e2, e3, e4, e5, e6, e7⟩ := cells_val (range_keepS hw'.keep HNE8.out HR8.out); have g1 := hw'.keep.cell HRR8.out.c1 HNEb.out; have g3 := hw'.keep.cell HRR8.out.c3 HNEb.out; have g4 := hw'.keep.cell HRR8.out.c4 HNEb.out; have g5 := hw'.keep.cell HRR8.out.c5 HNEb.out; obtain ⟨v0, v1, v2, v3, v4, v5, v6, v7, ⟨c0, c1, c2, c3, c4, c5, c6, c7⟩, f0, f1, f2, f3, f4, f5, f6, f7⟩ := eight ht'; go_simp; first | done | exact rfl); go_simp; refine hK _ _ ?_; clear hK K
  refine fx_p ?_ (by rfl) (fun w' => ?_) (fun K hK => ?_); rotate_left; (go_simp; first | done | exact rfl); go_simp; refine hK _ ?_; clear hK K
  refine fx_nil ?_
  intro w9 hk9 hΓ
  have HK9 := Lib.hid hk9.keep
  have HFst := Lib.hid (hΓ _ List.mem_cons_self)
  clear hk9 hΓ
  have HT9 : Hid (w9.there b6 0 3) := Lib.hid (HK9.out.there HT68.out HNE6.out)
  obtain ⟨v0, v1, v2, ⟨d0, d1, d2⟩, f0, f1, f2⟩ := three HT9.out
  go_wp2_with (fail)
  obtain ⟨w10, e10, g10, k10⟩ := put3 HT9.out (.int .i64 (c : Int)) (.int .i64 (q : Int)) (.string ⟨#[]⟩)
  rw [e10.out]
  have hl0 := HL0.out
  have hk : Keep nob w w10 := (HKW.out.trans HK9.out (fun j h1 h2 => by omega)).trans k10 (fun j h1 h2 => by omega)
  exact ret_vtf (c := c) (q := q) rfl rfl rfl rfl rfl (range_keepS k10 (fun e => HNE6.out e.symm) HFst.out) g10 ⟨hk, rfl⟩
end Go.Proofs.YtiemkfibpfndaaaGreatDoor

/- The reference: at the end, too long a text, Read. Printed by mkzk. -/
namespace Go.Proofs.YtiemkfibpfndaaaGreatDoor
open Go.RowKit

/-- a value and a fault in new blocks -/
theorem newvf (w : World) (r : Raw) (c q : Nat) : ∃ w2 bv bf, Hid ((w.alloc (.cells #[.int .i8 (r.kind : Int), .int .u64 (r.n : Int), .bool r.neg, .slice r.mA r.mL r.mC, .int .u64 (r.bits : Int), .int .i8 r.ext, .string r.text, .slice r.kA r.kL r.kC] 55)).alloc (.cells #[.int .i64 (c : Int), .int .i64 (q : Int), .string ⟨#[]⟩] 57) = w2) ∧ Hid (w.heap.size = bv) ∧ Hid (w.heap.size + 1 = bf) ∧ Hid (Keep nob w w2) ∧ Hid (w2.rangeAt bv 0 (ER.cells r)) ∧
    Hid (w2.cell? ⟨bf, 0, none⟩ = some (.int .i64 (c : Int)) ∧ w2.cell? ⟨bf, 1, none⟩ = some (.int .i64 (q : Int)) ∧ w2.cell? ⟨bf, 2, none⟩ = some (.string ⟨#[]⟩)) ∧ Hid (w.heap.size ≤ bv ∧ bv < bf ∧ bf < w2.heap.size) := by
  have h1 := range_new w r 55
  refine ⟨_, w.heap.size, w.heap.size + 1, Lib.hid rfl, Lib.hid rfl, Lib.hid rfl, Lib.hid (((Keep.refl _ _).alloc _).alloc _), Lib.hid (range_keepS ((Keep.refl nob _).alloc _) (fun h => h) h1), Lib.hid ⟨?_, ?_, ?_⟩, Lib.hid ⟨Nat.le_refl _, Nat.lt_succ_self _, by simp⟩⟩
  all_goals simp
set_option maxRecDepth 100000 in
theorem ritem_end (b : Nat) (s : ByteArray) (hs : s.size ≤ 1048576) (w : World) (h : RR w b s s.size 0 0 0) : Calls Tryz.prog 24 #[.pointer (some ⟨b, 0, none⟩)] w fun e w' => Keep (· = b) w w' ∧ e = .returned (.agg #[.int .i8 0, .int .u64 0, .bool false, .slice none 0 0, .int .u64 0, .int .i8 0, .string ⟨#[]⟩, .slice none 0 0]) ∧ RR w' b s s.size 0 3 s.size := by
  have hbl := World.block_lt_of_cell? w _ h.c0
  obtain ⟨w0, b4, HW0, HB4, HK0, HT0, HL0⟩ := start w
  have HNE : Hid (¬ b4 = b) := Lib.hid (by have := HL0.out; simp only at hbl; omega)
  have h0 := h.keep HK0.out (fun h => h)
  have HN := rnumber_ok b s s.size 0 0 1 w0 h0 (Nat.le_refl _) (by omega) (by decide)
  rw [show takeR s s.size 1 = .bad 3 s.size by unfold takeR; rw [if_pos (by omega)]] at HN
  dsimp only at HN
  have HN := Lib.hid HN
  have HN : Hid (Calls Tryz.prog 31 #[.pointer (some ⟨b, 0, none⟩), .int .i64 1] w0 fun e w' => Keep (· = b) w0 w' ∧ e = .returned (.int .u64 0) ∧ RR w' b s s.size 0 3 s.size) := HN
  have HBD := Lib.hid (fun (W : World) (hr : RR W b s s.size 0 3 s.size) => rbad1_ok b s s.size 0 3 s.size (by decide) W hr)
  have c1 := h0.c1
  clear h hs hbl h0
  go_enter Tryz.func24, Tryz.ntmps24
  go_upto_region 1 with (fail)
  rw [HW0.out, HB4.out]
  go_wp2_with (first | (go_at_call 31; go_must (refine HN.out.mono ?_); rintro e w2 ⟨hk2, rfl, hr2⟩; have HK2 := Lib.hid hk2; have HR2 := Lib.hid hr2; clear hk2 hr2) | (go_at_call 25; go_must (refine (HBD.out _ HR2.out).mono ?_); rintro e w3 ⟨rfl, rfl⟩; have hth := HK2.out.there HT0.out HNE.out; obtain ⟨v0, v1, v2, v3, v4, v5, v6, v7, ⟨d0, d1, d2, d3, d4, d5, d6, d7⟩, f0, f1, f2, f3, f4, f5, f6, f7⟩ := eight hth))
  have hth := HK2.out.there HT0.out HNE.out
  obtain ⟨w5, e5, r5, k5⟩ := put8 hth Raw.zero (.int .i8 0) (.int .u64 0) (.bool false) (.slice none 0 0) (.int .u64 0) (.int .i8 0) (.string ⟨#[]⟩) (.slice none 0 0) rfl
  rw [e5.out]
  have hL := HL0.out
  have k9 : Keep (· = b) w w5 := ((HK0.out.mono (fun _ _ h => h.elim)).then_ HK2.out).trans k5 (fun j h1 h2 => by omega)
  exact ret_v rfl rfl rfl r5 ⟨k9, rfl, HR2.out.keep k5 (fun e => HNE.out e.symm)⟩
set_option maxRecDepth 100000 in
theorem rnext_long (s : ByteArray) (p : Nat) (hp : p ≤ s.size) (hs : 1048576 < s.size) (w : World) : Calls Tryz.prog 13 #[.string s, .int .i64 (p : Int)] w fun e w' => Keep nob w w' ∧ e = .returned (.tuple #[ER.val Raw.zero, .int .i64 0, fltV 5 1048576]) := by
  obtain ⟨w0, b4, b6, HW0, HB4, HB6, HK0, HT4, HT6, HL0⟩ := startf w
  have d1 : decide ((p : Int) < 0) = false := by rw [decide_eq_false_iff_not]; omega
  have d2 : decide ((p : Int) > (s.size : Int)) = false := by rw [decide_eq_false_iff_not]; omega
  have d2' : decide (s.size < p) = false := by rw [decide_eq_false_iff_not]; omega
  have d3 : decide ((s.size : Int) > 1048576) = true := by rw [decide_eq_true_iff]; omega
  have d3' : decide (1048576 < s.size) = true := by rw [decide_eq_true_iff]; exact hs
  have hne : ¬ b6 = b4 := by have := HL0.out; omega
  have HT6' : ∀ W, Keep (· = b4) w0 W → W.there b6 0 3 := fun W k => k.there HT6.out hne
  have HT6' := Lib.hid HT6'
  clear hp hs
  obtain ⟨v0, v1, v2, v3, v4, v5, v6, v7, ⟨d0, d1, d2, d3, d4, d5, d6, d7⟩, f0, f1, f2, f3, f4, f5, f6, f7⟩ := eight HT4.out
  go_enter Tryz.func13, Tryz.ntmps13
  go_upto_region 1 with (fail)
  rw [HW0.out]
  simp only [HB6.out]
  rw [HB4.out]
  obtain ⟨w5, e5, r5, k5⟩ := put8 HT4.out Raw.zero (.int .i8 0) (.int .u64 0) (.bool false) (.slice none 0 0) (.int .u64 0) (.int .i8 0) (.string ⟨#[]⟩) (.slice none 0 0) rfl
  obtain ⟨w6, e6, g6, k6⟩ := put3 (HT6'.out w5 k5) (.int .i64 5) (.int .i64 1048576) (.string ⟨#[]⟩)
  obtain ⟨y0, y1, y2, ⟨x0, x1, x2⟩, z0, z1, z2⟩ := three HT6.out
  go_wp2_with (fail)
  rw [e5.out, e6.out]
  have hl0 := HL0.out
  exact ret_vtf (c := 5) (q := 1048576) rfl rfl rfl rfl rfl (range_keepS k6 (fun e => hne e.symm) r5) g6 ⟨(HK0.out.trans k5 (fun j h1 h2 => by omega)).trans k6 (fun j h1 h2 => by omega), rfl⟩
set_option maxRecDepth 100000 in
set_option maxHeartbeats 1000000 in
theorem rread_good (s : ByteArray) (r : Raw) (p1 : Nat) (hq : s.size ≤ p1) (w : World) (hn : ∀ W, Calls Tryz.prog 13 #[.string s, .int .i64 0] W fun e w' => Keep nob W w' ∧ e = .returned (.tuple #[ER.val r, .int .i64 (p1 : Int), fltV 0 0])) : Calls Tryz.prog 8 #[.string s] w fun e w' => Keep nob w w' ∧ e = .returned (.tuple #[ER.val r, fltV 0 0]) := by
  obtain ⟨w0, b4, b6, HW0, HB4, HB6, HK0, HT4, HT6, HL0⟩ := startf w
  have HN : Hid (∀ W, Calls Tryz.prog 13 #[.string s, .int .i64 0] W fun e w' => Keep nob W w' ∧ e = .returned (.tuple #[.agg #[.int .i8 (r.kind : Int), .int .u64 (r.n : Int), .bool r.neg, .slice r.mA r.mL r.mC, .int .u64 (r.bits : Int), .int .i8 r.ext, .string r.text, .slice r.kA r.kL r.kC], .int .i64 (p1 : Int), .agg #[.int .i64 0, .int .i64 0, .string ⟨#[]⟩]])) := Lib.hid hn
  have d1 : decide ((p1 : Int) < (s.size : Int)) = false := by rw [decide_eq_false_iff_not]; omega
  have d1' : decide (p1 < s.size) = false := by rw [decide_eq_false_iff_not]; omega
  clear hq
  clear hn
  go_enter Tryz.func8, Tryz.ntmps8
  go_upto_region 1 with (fail)
  rw [HW0.out]
  simp only [HB6.out]
  rw [HB4.out]
  go_upto_region 2 with (go_at_call 13; go_must (refine (HN.out _).mono ?_); rintro e w1 ⟨hk1, rfl⟩; have HK1 := Lib.hid hk1; clear hk1)
  obtain ⟨w2, bv, bf, HX, HBV, HBF, HK2, HR2, HF2, HL2⟩ := newvf w1 r 0 0
  have HX : Hid ((w1.alloc (.cells #[.int .i8 (r.kind : Int), .int .u64 (r.n : Int), .bool r.neg, .slice r.mA r.mL r.mC, .int .u64 (r.bits : Int), .int .i8 r.ext, .string r.text, .slice r.kA r.kL r.kC] 55)).alloc (.cells #[.int .i64 0, .int .i64 0, .string ⟨#[]⟩] 57) = w2) := HX
  rw [HX.out]
  simp only [HBF.out]
  rw [HBV.out]
  have hz1 := HK1.out.size
  have hz2 := HK2.out.size
  have hl0 := HL0.out
  have hl2 := HL2.out
  have HNV : Hid (¬ bv = b4) := Lib.hid (by omega)
  have HNF : Hid (¬ bf = b4) := Lib.hid (by omega)
  have HN6 : Hid (¬ b6 = b4) := Lib.hid (by omega)
  have HB48 : Hid (b4 < w2.heap.size) := Lib.hid (by omega)
  have HT48 : Hid (w2.there b4 0 8) := Lib.hid ((HT4.out.keep' HK1.out).keep' HK2.out)
  have HT68 : Hid (w2.there b6 0 3) := Lib.hid ((HT6.out.keep' HK1.out).keep' HK2.out)
  have HKW : Hid (Keep nob w w2) := Lib.hid ((HK0.out.then_ HK1.out).then_ HK2.out)
  clear hz1 hz2 hl0 hl2
  have g0 := HF2.out.1
  have g0 : w2.cell? ⟨bf, 0, none⟩ = some (.int .i64 0) := g0
  go_upto_region 4 with (fail)
  clear g0
  refine wp_region_fx 3 [.kv, .kv, .st] [] (· = b4) (fun w => w.there b4 0 8) (fun _ _ h k => h.keep' k) HT48.out (by kernel_rfl) (by kernel_rfl) (fun h => absurd rfl h) ?_
  simp only [List.take_succ_cons, List.take_zero, List.drop_succ_cons, List.drop_zero]
  refine fx_kv ?_ (by rfl) (fun w' hw' ha => ?_) (fun K hK => ?_); rotate_left; (obtain ⟨e0, e1, e2, e3, e4, e5, e6, e7⟩ := cells_val (range_keepS hw'.keep HNV.out HR2.out); have g1 := hw'.keep.cell HF2.out.1 HNF.out; have g3 := hw'.keep.cell HF2.out.2.1 HNF.out; have g4 := hw'.keep.cell HF2.out.2.2 HNF.out; go_simp; first | done | exact rfl); go_simp; refine hK _ ?_; clear hK K
  refine fx_kv ?_ (by rfl) (fun w' hw' ha => ?_) (fun K hK => ?_); rotate_left; (obtain ⟨e0, e1, e2, e3, e4, e5, e6, e7⟩ := cells_val (range_keepS hw'.keep HNV.out HR2.out); have g1 := hw'.keep.cell HF2.out.1 HNF.out; have g3 := hw'.keep.cell HF2.out.2.1 HNF.out; have g4 := hw'.keep.cell HF2.out.2.2 HNF.out; go_simp; first | done | exact rfl); go_simp; refine hK _ ?_; clear hK K
  refine fx_st8 b4 (r) (.int .i8 (r.kind : Int)) (.int .u64 (r.n : Int)) (.bool r.neg) (.slice r.mA r.mL r.mC) (.int .u64 (r.bits : Int)) (.int .i8 r.ext) (.string r.text) (.slice r.kA r.kL r.kC) rfl rfl rfl (by rfl) (fun w' hw' ht' ha => ?_) (fun K hK => ?_); (obtain ⟨e0, e1, e2, e3, e4, e5, e6, e7⟩ := cells_val (range_keepS hw'.keep HNV.out HR2.out); have g1 := hw'.keep.cell HF2.out.1 HNF.out; have g3 := hw'.keep.cell HF2.out.2.1 HNF.out; have g4 := hw'.keep.cell HF2.out.2.2 HNF.out; obtain ⟨v0, v1, v2, v3, v4, v5, v6, v7, ⟨c0, c1, c2, c3, c4, c5, c6, c7⟩, f0, f1, f2, f3, f4, f5, f6, f7⟩ := eight ht'; go_simp; first | done | exact rfl); go_simp; refine hK _ _ ?_; clear hK K
  refine fx_nil ?_
  intro w9 hk9 hΓ
  have HK9 := Lib.hid hk9.keep
  have HFst := Lib.hid (hΓ _ List.mem_cons_self)
  clear hk9 hΓ
  have HT9 : Hid (w9.there b6 0 3) := Lib.hid (HK9.out.there HT68.out HN6.out)
  obtain ⟨v0, v1, v2, ⟨d0, d1, d2⟩, f0, f1, f2⟩ := three HT9.out
  go_wp2_with (fail)
  obtain ⟨w10, e10, g10, k10⟩ := put3 HT9.out (.int .i64 0) (.int .i64 0) (.string ⟨#[]⟩)
  rw [e10.out]
  have hl0 := HL0.out
  have hk : Keep nob w w10 := (HKW.out.trans HK9.out (fun j h1 h2 => by omega)).trans k10 (fun j h1 h2 => by omega)
  exact ret_vf (c := 0) (q := 0) rfl rfl rfl rfl (range_keepS k10 (fun e => HN6.out e.symm) HFst.out) g10 ⟨hk, rfl⟩
set_option maxRecDepth 100000 in
set_option maxHeartbeats 1000000 in
theorem rread_bad (s : ByteArray) (r : Raw) (p1 : Nat) (c q : Nat) (hc : 0 < c) (w : World) (hn : ∀ W, Calls Tryz.prog 13 #[.string s, .int .i64 0] W fun e w' => Keep nob W w' ∧ e = .returned (.tuple #[ER.val Raw.zero, .int .i64 0, fltV c q])) : Calls Tryz.prog 8 #[.string s] w fun e w' => Keep nob w w' ∧ e = .returned (.tuple #[ER.val Raw.zero, fltV c q]) := by
  obtain ⟨w0, b4, b6, HW0, HB4, HB6, HK0, HT4, HT6, HL0⟩ := startf w
  have HN : Hid (∀ W, Calls Tryz.prog 13 #[.string s, .int .i64 0] W fun e w' => Keep nob W w' ∧ e = .returned (.tuple #[.agg #[.int .i8 0, .int .u64 0, .bool false, .slice none 0 0, .int .u64 0, .int .i8 0, .string ⟨#[]⟩, .slice none 0 0], .int .i64 0, .agg #[.int .i64 (c : Int), .int .i64 (q : Int), .string ⟨#[]⟩]])) := Lib.hid hn
  have d1 : ((c : Int) == 0) = false := by rw [beq_eq_false_iff_ne]; omega
  clear hc
  clear hn
  go_enter Tryz.func8, Tryz.ntmps8
  go_upto_region 1 with (fail)
  rw [HW0.out]
  simp only [HB6.out]
  rw [HB4.out]
  go_upto_region 2 with (go_at_call 13; go_must (refine (HN.out _).mono ?_); rintro e w1 ⟨hk1, rfl⟩; have HK1 := Lib.hid hk1; clear hk1)
  obtain ⟨w2, bv, bf, HX, HBV, HBF, HK2, HR2, HF2, HL2⟩ := newvf w1 Raw.zero c q
  have HX : Hid ((w1.alloc (.cells #[.int .i8 0, .int .u64 0, .bool false, .slice none 0 0, .int .u64 0, .int .i8 0, .string ⟨#[]⟩, .slice none 0 0] 55)).alloc (.cells #[.int .i64 (c : Int), .int .i64 (q : Int), .string ⟨#[]⟩] 57) = w2) := HX
  rw [HX.out]
  simp only [HBF.out]
  rw [HBV.out]
  have hz1 := HK1.out.size
  have hz2 := HK2.out.size
  have hl0 := HL0.out
  have hl2 := HL2.out
  have HNV : Hid (¬ bv = b4) := Lib.hid (by omega)
  have HNF : Hid (¬ bf = b4) := Lib.hid (by omega)
  have HN6 : Hid (¬ b6 = b4) := Lib.hid (by omega)
  have HB48 : Hid (b4 < w2.heap.size) := Lib.hid (by omega)
  have HT48 : Hid (w2.there b4 0 8) := Lib.hid ((HT4.out.keep' HK1.out).keep' HK2.out)
  have HT68 : Hid (w2.there b6 0 3) := Lib.hid ((HT6.out.keep' HK1.out).keep' HK2.out)
  have HKW : Hid (Keep nob w w2) := Lib.hid ((HK0.out.then_ HK1.out).then_ HK2.out)
  clear hz1 hz2 hl0 hl2
  have g0 := HF2.out.1
  skip
  go_upto_region 4 with (fail)
  clear g0
  refine wp_region_fx 3 [.kv, .kv, .st] [] (· = b4) (fun w => w.there b4 0 8) (fun _ _ h k => h.keep' k) HT48.out (by kernel_rfl) (by kernel_rfl) (fun h => absurd rfl h) ?_
  simp only [List.take_succ_cons, List.take_zero, List.drop_succ_cons, List.drop_zero]
  refine fx_kv ?_ (by rfl) (fun w' hw' ha => ?_) (fun K hK => ?_); rotate_left; (obtain ⟨e0, e1, e2, e3, e4, e5, e6, e7⟩ := cells_val (range_keepS hw'.keep HNV.out HR2.out); dsimp only [Raw.zero] at e0 e1 e2 e3 e4 e5 e6 e7; have g1 := hw'.keep.cell HF2.out.1 HNF.out; have g3 := hw'.keep.cell HF2.out.2.1 HNF.out; have g4 := hw'.keep.cell HF2.out.2.2 HNF.out; go_simp; first | done | exact rfl); go_simp; refine hK _ ?_; clear hK K
  refine fx_kv ?_ (by rfl) (fun w' hw' ha => ?_) (fun K hK => ?_); rotate_left; (obtain ⟨e0, e1, e2, e3, e4, e5, e6, e7⟩ := cells_val (range_keepS hw'.keep HNV.out HR2.out); dsimp only [Raw.zero] at e0 e1 e2 e3 e4 e5 e6 e7; have g1 := hw'.keep.cell HF2.out.1 HNF.out; have g3 := hw'.keep.cell HF2.out.2.1 HNF.out; have g4 := hw'.keep.cell HF2.out.2.2 HNF.out; go_simp; first | done | exact rfl); go_simp; refine hK _ ?_; clear hK K
  refine fx_st8 b4 ((Raw.zero)) (.int .i8 0) (.int .u64 0) (.bool false) (.slice none 0 0) (.int .u64 0) (.int .i8 0) (.string ⟨#[]⟩) (.slice none 0 0) rfl rfl rfl (by rfl) (fun w' hw' ht' ha => ?_) (fun K hK => ?_); (obtain ⟨e0, e1, e2, e3, e4, e5, e6, e7⟩ := cells_val (range_keepS hw'.keep HNV.out HR2.out); dsimp only [Raw.zero] at e0 e1 e2 e3 e4 e5 e6 e7; have g1 := hw'.keep.cell HF2.out.1 HNF.out; have g3 := hw'.keep.cell HF2.out.2.1 HNF.out; have g4 := hw'.keep.cell HF2.out.2.2 HNF.out; obtain ⟨v0, v1, v2, v3, v4, v5, v6, v7, ⟨c0, c1, c2, c3, c4, c5, c6, c7⟩, f0, f1, f2, f3, f4, f5, f6, f7⟩ := eight ht'; go_simp; first | done | exact rfl); go_simp; refine hK _ _ ?_; clear hK K
  refine fx_nil ?_
  intro w9 hk9 hΓ
  have HK9 := Lib.hid hk9.keep
  have HFst := Lib.hid (hΓ _ List.mem_cons_self)
  clear hk9 hΓ
  have HT9 : Hid (w9.there b6 0 3) := Lib.hid (HK9.out.there HT68.out HN6.out)
  obtain ⟨v0, v1, v2, ⟨d0, d1, d2⟩, f0, f1, f2⟩ := three HT9.out
  go_wp2_with (fail)
  obtain ⟨w10, e10, g10, k10⟩ := put3 HT9.out (.int .i64 (c : Int)) (.int .i64 (q : Int)) (.string ⟨#[]⟩)
  rw [e10.out]
  have hl0 := HL0.out
  have hk : Keep nob w w10 := (HKW.out.trans HK9.out (fun j h1 h2 => by omega)).trans k10 (fun j h1 h2 => by omega)
  exact ret_vf (c := c) (q := q) rfl rfl rfl rfl (range_keepS k10 (fun e => HN6.out e.symm) HFst.out) g10 ⟨hk, rfl⟩
end Go.Proofs.YtiemkfibpfndaaaGreatDoor

/- A book that keeps lists: what may be told of it while nothing asks it. Printed by mkzd. -/
namespace Go.Proofs.YtiemkfibpfndaaaGreatDoor
open Go.RowKit

/-- a list that is held: where it lies, how long, its room, its number -/
def EH : El (Option Addr × Nat × Nat × Int) where
  sz := 3
  pos := by decide
  cells := fun x => [.slice x.1 x.2.1 x.2.2.1, .slice none 0 0, .int .i64 x.2.2.2]
  len := fun _ => rfl
  one := fun x v h => by simp at h; rcases h with rfl | rfl | rfl <;> rfl
  val := fun x => .agg #[.slice x.1 x.2.1 x.2.2.1, .slice none 0 0, .int .i64 x.2.2.2]
theorem infoLimb : (Tryz.prog.info? 94).map (fun i => (i.zero, i.size, i.bytes)) = some (some (.agg #[.slice none 0 0, .slice none 0 0, .int .i64 0]), 3, 56) := by kernel_rfl
theorem infoHeld : (Tryz.prog.info? 115).map (fun i => (i.zero, i.size, i.bytes)) = some (some (.agg #[.slice none 0 0, .slice none 0 0, .int .i64 0]), 3, 56) := by kernel_rfl
/-- a book in block b with at most k lists of each kind; all that is its own lies in blocks of O -/
structure BK (W : World) (b k : Nat) (O : Nat → Prop) : Prop where
  ex : ∃ (n : Int) (A1 A2 : Option Addr) (c1 c2 : Nat) (l1 l2 : List (Option Addr × Nat × Nat × Int)), W.cell? ⟨b, 0, none⟩ = some (.int .i64 n) ∧ W.cell? ⟨b, 1, none⟩ = some (.slice A1 l1.length c1) ∧ W.cell? ⟨b, 2, none⟩ = some (.slice A2 l2.length c2) ∧
    Ow EH W A1 c1 l1 ∧ Ow EH W A2 c2 l2 ∧ l1.length ≤ k ∧ l2.length ≤ k ∧ (∀ a, A1 = some a → b < a.block ∧ a.block < W.heap.size ∧ O a.block) ∧ (∀ a, A2 = some a → b < a.block ∧ a.block < W.heap.size ∧ O a.block) ∧ (∀ a a', A1 = some a → A2 = some a' → a.block ≠ a'.block)
  fz : ∀ i, i < 3 → W.frozen? ⟨b, i, none⟩ = false
  ob : O b
theorem BK.keep {W W' : World} {b k : Nat} {O : Nat → Prop} (h : BK W b k O) (hk : Keep nob W W') : BK W' b k O := by
  obtain ⟨⟨n, A1, A2, c1, c2, l1, l2, h0, h1, h2, h3, h4, h5, h6, h7, h8, h9⟩, hf, ho⟩ := h
  have hnb : ∀ A, ¬ InB nob A := fun A ⟨_, _, h⟩ => h
  have hz := hk.size
  exact ⟨⟨n, A1, A2, c1, c2, l1, l2, hk.cell h0 (fun h => h), hk.cell h1 (fun h => h), hk.cell h2 (fun h => h), h3.keep hk (hnb _), h4.keep hk (hnb _), h5, h6, fun a ha => ⟨(h7 a ha).1, Nat.lt_of_lt_of_le (h7 a ha).2.1 hz, (h7 a ha).2.2⟩, fun a ha => ⟨(h8 a ha).1, Nat.lt_of_lt_of_le (h8 a ha).2.1 hz, (h8 a ha).2.2⟩, h9⟩, fun i hi => by
    rw [← hf i hi]
    exact World.frozen?_of_block (hk.block b (World.block_lt_of_cell? W _ h0) (fun h => h)), ho⟩
theorem BK.lt {W : World} {b k : Nat} {O : Nat → Prop} (h : BK W b k O) : b < W.heap.size := by
  obtain ⟨⟨n, A1, A2, c1, c2, l1, l2, h0, -⟩, -⟩ := h
  exact World.block_lt_of_cell? W _ h0
theorem BK.mono {W : World} {b k k' : Nat} {O O' : Nat → Prop} (h : BK W b k O) (hk : k ≤ k') (ho : ∀ x, O x → O' x) : BK W b k' O' := by
  obtain ⟨⟨n, A1, A2, c1, c2, l1, l2, h0, h1, h2, h3, h4, h5, h6, h7, h8, h9⟩, hf, hb⟩ := h
  exact ⟨⟨n, A1, A2, c1, c2, l1, l2, h0, h1, h2, h3, h4, Nat.le_trans h5 hk, Nat.le_trans h6 hk, fun a ha => ⟨(h7 a ha).1, (h7 a ha).2.1, ho _ (h7 a ha).2.2⟩, fun a ha => ⟨(h8 a ha).1, (h8 a ha).2.1, ho _ (h8 a ha).2.2⟩, h9⟩, hf, ho _ hb⟩
set_option maxRecDepth 100000 in
set_option maxHeartbeats 1000000 in
theorem keepLimb_ok (b k : Nat) (A : Option Addr) (n c : Nat) (O : Nat → Prop) (w : World) (h : BK w b k O) (hk : k ≤ 1000) : Calls Tryz.prog 17 #[.pointer (some ⟨b, 0, none⟩), .slice A n c] w fun e w' => e = .returned (.tuple #[]) ∧ Keep O w w' ∧ BK w' b (k + 1) (fun x => O x ∨ w.heap.size ≤ x) := by
  obtain ⟨⟨z, A1, A2, c1, c2, l1, l2, h0, h1, h2, h3, h4, h5, h6, h7, h8, h9⟩, hf, ho⟩ := h
  have HOB := Lib.hid ho
  have f0 := hf 0 (by decide)
  obtain ⟨z1, HZ⟩ : ∃ z1, Hid (IntKind.i64.wrap (z + 1) = z1) := ⟨_, Lib.hid rfl⟩
  have i1 : IntKind.i64.wrap (z + 1) = z1 := HZ.out
  have HH := Lib.hid (And.intro h0 (And.intro h1 (And.intro h2 (And.intro h3 (And.intro h4 (And.intro h5 (And.intro h6 (And.intro h7 (And.intro h8 (And.intro h9 hf))))))))))
  clear h1 h2 h3 h4 h5 h6 h7 h8 h9 hf ho
  go_enter Tryz.func17, Tryz.ntmps17
  go_upto_region 1 with (fail)
  obtain ⟨w1, HW1⟩ : ∃ w1, Hid (w.setCell ⟨b, 0, none⟩ (.int .i64 z1) = w1) := ⟨_, Lib.hid rfl⟩
  have HK1 : Hid (Keep (· = b) w w1) := by unfold Hid; rw [← HW1.out]; exact (Keep.refl (· = b) w).setCell (fun _ => rfl) _
  have HC0 : Hid (w1.cell? ⟨b, 0, none⟩ = some (.int .i64 z1)) := by unfold Hid; rw [← HW1.out]; exact World.cell?_setCell_same _ _ _ h0
  have HF1 : Hid (∀ i, i < 3 → w1.frozen? ⟨b, i, none⟩ = false) := by unfold Hid; rw [← HW1.out]; intro i hi; rw [World.frozen?_setCell]; exact HH.out.2.2.2.2.2.2.2.2.2.2 i hi
  have HC1 : Hid (w1.cell? ⟨b, 1, none⟩ = some (.slice A1 l1.length c1)) := by unfold Hid; rw [← HW1.out, World.cell?_setCell_other _ _ _ _ (by simp)]; exact HH.out.2.1
  have HC2 : Hid (w1.cell? ⟨b, 2, none⟩ = some (.slice A2 l2.length c2)) := by unfold Hid; rw [← HW1.out, World.cell?_setCell_other _ _ _ _ (by simp)]; exact HH.out.2.2.1
  rw [HW1.out]
  clear h0 f0 i1
  refine wp_region_fxl 12 [.p, .p, .p, .p, .kv, .p, .p, .p, .p, .kv, .p, .al] [0] nob (fun _ => True) (fun _ _ _ _ => trivial) trivial (by kernel_rfl) (by kernel_rfl) ?_
  simp only [List.take_succ_cons, List.take_zero, List.drop_succ_cons, List.drop_zero]
  refine fx_p ?_ (by rfl) (fun w' => ?_) (fun K hK => ?_); rotate_left; (go_simp; first | done | exact rfl); go_simp; refine hK _ ?_; clear hK K
  refine fx_p ?_ (by rfl) (fun w' => ?_) (fun K hK => ?_); rotate_left; (go_simp; first | done | exact rfl); go_simp; refine hK _ ?_; clear hK K
  refine fx_p ?_ (by rfl) (fun w' => ?_) (fun K hK => ?_); rotate_left; (go_simp; first | done | exact rfl); go_simp; refine hK _ ?_; clear hK K
  refine fx_p ?_ (by rfl) (fun w' => ?_) (fun K hK => ?_); rotate_left; (go_simp; first | done | exact rfl); go_simp; refine hK _ ?_; clear hK K
  refine fx_kv ?_ (by rfl) (fun w' hw' ha => ?_) (fun K hK => ?_); rotate_left; (have g0 := hw'.keep.cell HC0.out (fun h => h); have g1 := hw'.keep.cell HC1.out (fun h => h); go_simp; first | done | exact rfl); go_simp; refine hK _ ?_; clear hK K
  refine fx_p ?_ (by rfl) (fun w' => ?_) (fun K hK => ?_); rotate_left; (go_simp; first | done | exact rfl); go_simp; refine hK _ ?_; clear hK K
  refine fx_p ?_ (by rfl) (fun w' => ?_) (fun K hK => ?_); rotate_left; (go_simp; first | done | exact rfl); go_simp; refine hK _ ?_; clear hK K
  refine fx_p ?_ (by rfl) (fun w' => ?_) (fun K hK => ?_); rotate_left; (go_simp; first | done | exact rfl); go_simp; refine hK _ ?_; clear hK K
  refine fx_p ?_ (by rfl) (fun w' => ?_) (fun K hK => ?_); rotate_left; (go_simp; first | done | exact rfl); go_simp; refine hK _ ?_; clear hK K
  refine fx_kv ?_ (by rfl) (fun w' hw' ha => ?_) (fun K hK => ?_); rotate_left; (have g0 := hw'.keep.cell HC0.out (fun h => h); have g1 := hw'.keep.cell HC1.out (fun h => h); go_simp; first | done | exact rfl); go_simp; refine hK _ ?_; clear hK K
  refine fx_p ?_ (by rfl) (fun w' => ?_) (fun K hK => ?_); rotate_left; (go_simp; first | done | exact rfl); go_simp; refine hK _ ?_; clear hK K
  refine fx_new (fun _ h => h.elim) (fun b => .slice (some ⟨b, 0, none⟩) 1 1) ?_ ?_ (by rfl) (fun w' hw' ha => ?_) (fun K hK ba => ?_); rotate_left 2; (have g0 := hw'.keep.cell HC0.out (fun h => h); have g1 := hw'.keep.cell HC1.out (fun h => h); go_simp; first | done | exact rfl); go_simp; refine hK _ _ ?_; clear hK K
  refine fx_nil ?_
  intro w9 hk9 hΓ
  have HK9 := Lib.hid hk9.keep
  have HFba := Lib.hid (hΓ _ List.mem_cons_self)
  clear hk9 hΓ
  obtain ⟨L, HL⟩ : ∃ L, Hid (l1.length = L) := ⟨_, Lib.hid rfl⟩
  rw [HL.out] at HC1 ⊢
  have hL : L ≤ 1000 := by have h5 := HH.out.2.2.2.2.2.1; have h6 := HL.out; omega
  have HOW : Hid (∀ A0 c0 (l0 : List (Option Addr × Nat × Nat × Int)), Ow EH w A0 c0 l0 → (∀ a, A0 = some a → b < a.block ∧ a.block < w.heap.size ∧ O a.block) → Ow EH w9 A0 c0 l0) := Lib.hid (fun A0 c0 l0 h1 h2 => (h1.keep HK1.out (fun ⟨a, ha, e⟩ => by have h3 := (h2 a ha).1; omega)).keep HK9.out (fun ⟨_, _, h⟩ => h))
  have HO9 := Lib.hid (HOW.out A1 c1 l1 HH.out.2.2.2.1 HH.out.2.2.2.2.2.2.2.1)
  have HP9 := Lib.hid (HOW.out A2 c2 l2 HH.out.2.2.2.2.1 HH.out.2.2.2.2.2.2.2.2.1)
  have HSL : Hid (Sl EH w9 (some ⟨ba, 0, none⟩) 1 [(A, n, c, z1)]) := Lib.hid ⟨Nat.le_refl _, by decide, fun _ => ⟨ba, 0, rfl, by simpa [El.flat_cons, El.flat_nil, EH] using HFba.out.2.1⟩⟩
  have HZ9 : Hid (w.heap.size ≤ w9.heap.size) := Lib.hid (Nat.le_trans HK1.out.size HK9.out.size)
  have HBA : Hid (∀ a, A1 = some a → b < a.block ∧ a.block < w9.heap.size ∧ O a.block) := Lib.hid (fun a ha => by have h3 := HH.out.2.2.2.2.2.2.2.1 a ha; have h4 := HZ9.out; exact ⟨h3.1, by omega, h3.2.2⟩)
  have HBB : Hid (∀ a, A2 = some a → b < a.block ∧ (a.block < w9.heap.size ∧ O a.block) ∧ ∀ a', A1 = some a' → a.block ≠ a'.block) := Lib.hid (fun a ha => by have h3 := HH.out.2.2.2.2.2.2.2.2.1 a ha; have h4 := HZ9.out; exact ⟨h3.1, ⟨by omega, h3.2.2⟩, fun a' ha' => (HH.out.2.2.2.2.2.2.2.2.2.1 a' a ha' ha).symm⟩)
  go_wp2_with (at_builtin; refine wpList_append_ow EH rfl _ _ 25 rfl 94 _ 56 Tryz.underlying25 infoLimb rfl A1 L c1 rfl l1 HL.out HO9.out (some ⟨ba, 0, none⟩) 1 1 rfl [(A, n, c, z1)] rfl HSL.out (by omega) (by omega) ?_; intro A' c' w6 hap; have HAP := Lib.hid hap; have hab : ¬ AtB A1 b := (fun ⟨a, ha, hb⟩ => by have h3 := (HBA.out a ha).1; omega); have g1 := hap.keep.cell (HK9.out.cell HC1.out (fun h => h)) hab; have fz6 : ∀ i, i < 3 → w6.frozen? ⟨b, i, none⟩ = false := (fun i hi => by rw [World.frozen?_of_block (hap.keep.block b (World.block_lt_of_cell? _ _ (HK9.out.cell HC0.out (fun h => h))) hab), World.frozen?_of_block (HK9.out.block b (World.block_lt_of_cell? _ _ HC0.out) (fun h => h))]; exact HF1.out i hi); have HF6 := Lib.hid fz6; have f1 := fz6 1 (by decide); clear hap fz6 hab)
  refine tailQ_n ?_
  go_end0
  obtain ⟨w7, HW7⟩ : ∃ w7, Hid (w6.setCell ⟨b, 1, none⟩ (.slice A' (L + 1) c') = w7) := ⟨_, Lib.hid rfl⟩
  have HK7 : Hid (Keep (· = b) w6 w7) := by unfold Hid; rw [← HW7.out]; exact (Keep.refl (· = b) w6).setCell (fun _ => rfl) _
  rw [HW7.out]
  have hz9 := HZ9.out
  have hz6 := HAP.out.keep.size
  have hz7 := HK7.out.size
  have hnA : ¬ AtB A1 b := fun ⟨a, ha, hb⟩ => by have h3 := (HBA.out a ha).1; omega
  have hA' : ∀ a, A' = some a → b < a.block ∧ (a.block < w7.heap.size ∧ (O a.block ∨ w.heap.size ≤ a.block)) ∧ ∀ a', A2 = some a' → a.block ≠ a'.block := fun a ha => by
    rcases HAP.out.lies a ha with ⟨a0, e0, e1⟩ | ⟨e1, e2⟩
    · have h3 := HBA.out a0 e0
      refine ⟨by omega, ⟨by omega, .inl (by rw [← e1]; exact h3.2.2)⟩, fun a' ha' => ?_⟩
      have h4 := (HBB.out a' ha').2.2 a0 e0
      rw [← e1]
      exact fun e => h4 e.symm
    · have hb := World.block_lt_of_cell? w9 _ (HK9.out.cell HC0.out (fun h => h))
      refine ⟨by simp only at hb; omega, ⟨by omega, .inr (by omega)⟩, fun a' ha' => ?_⟩
      have h4 := (HBB.out a' ha').2.1.1
      omega
  have kA : Keep O w w7 := (((HK1.out.mono (fun j _ e => by rw [show j = b from e]; exact HOB.out)).then_ (HK9.out.mono (fun _ _ h => h.elim))).then_ (HAP.out.keep.mono (fun j _ ⟨a, ha, hb⟩ => by have h3 := (HBA.out a ha).2.2; rw [hb] at h3; exact h3))).then_ (HK7.out.mono (fun j _ e => by rw [show j = b from e]; exact HOB.out))
  have oA : Ow EH w7 A' c' (l1 ++ [(A, n, c, z1)]) := HAP.out.ow.keep HK7.out (fun ⟨a, ha, e⟩ => by have h3 := (hA' a ha).1; omega)
  have oB : Ow EH w7 A2 c2 l2 := (HP9.out.keep HAP.out.keep (fun ⟨a, ha, a0, e0, e1⟩ => (HBB.out a ha).2.2 a0 e0 e1.symm)).keep HK7.out (fun ⟨a, ha, e⟩ => by have h3 := (HBB.out a ha).1; omega)
  have d0 : w7.cell? ⟨b, 0, none⟩ = some (.int .i64 z1) := by rw [← HW7.out, World.cell?_setCell_other _ _ _ _ (by simp)]; exact HAP.out.keep.cell (HK9.out.cell HC0.out (fun h => h)) hnA
  have d1 : w7.cell? ⟨b, 1, none⟩ = some (.slice A' (l1 ++ [(A, n, c, z1)]).length c') := by rw [List.length_append, HL.out, ← HW7.out]; exact World.cell?_setCell_same _ _ _ g1
  have d2 : w7.cell? ⟨b, 2, none⟩ = some (.slice A2 l2.length c2) := by rw [← HW7.out, World.cell?_setCell_other _ _ _ _ (by simp)]; exact HAP.out.keep.cell (HK9.out.cell HC2.out (fun h => h)) hnA
  have eA : (l1 ++ [(A, n, c, z1)]).length ≤ k + 1 := by have h5 := HH.out.2.2.2.2.2.1; rw [List.length_append]; exact Nat.succ_le_succ h5
  have eB : l2.length ≤ k + 1 := Nat.le_succ_of_le HH.out.2.2.2.2.2.2.1
  exact ⟨rfl, kA, ⟨⟨z1, A', A2, c', c2, l1 ++ [(A, n, c, z1)], l2, d0, d1, d2, oA, oB, eA, eB, fun a ha => ⟨(hA' a ha).1, (hA' a ha).2.1.1, (hA' a ha).2.1.2⟩, fun a ha => ⟨(HBB.out a ha).1, by have h3 := (HBB.out a ha).2.1.1; omega, .inl (HBB.out a ha).2.1.2⟩, fun a a' ha ha' => (hA' a ha).2.2 a' ha'⟩, fun i hi => by rw [← HW7.out, World.frozen?_setCell]; exact HF6.out i hi, .inl HOB.out⟩⟩
set_option maxRecDepth 100000 in
set_option maxHeartbeats 1000000 in
theorem keepValue_ok (b k : Nat) (A : Option Addr) (n c : Nat) (O : Nat → Prop) (w : World) (h : BK w b k O) (hk : k ≤ 1000) : Calls Tryz.prog 27 #[.pointer (some ⟨b, 0, none⟩), .slice A n c] w fun e w' => e = .returned (.tuple #[]) ∧ Keep O w w' ∧ BK w' b (k + 1) (fun x => O x ∨ w.heap.size ≤ x) := by
  obtain ⟨⟨z, A1, A2, c1, c2, l1, l2, h0, h1, h2, h3, h4, h5, h6, h7, h8, h9⟩, hf, ho⟩ := h
  have HOB := Lib.hid ho
  have f0 := hf 0 (by decide)
  obtain ⟨z1, HZ⟩ : ∃ z1, Hid (IntKind.i64.wrap (z + 1) = z1) := ⟨_, Lib.hid rfl⟩
  have i1 : IntKind.i64.wrap (z + 1) = z1 := HZ.out
  have HH := Lib.hid (And.intro h0 (And.intro h1 (And.intro h2 (And.intro h3 (And.intro h4 (And.intro h5 (And.intro h6 (And.intro h7 (And.intro h8 (And.intro h9 hf))))))))))
  clear h1 h2 h3 h4 h5 h6 h7 h8 h9 hf ho
  go_enter Tryz.func27, Tryz.ntmps27
  go_upto_region 1 with (fail)
  obtain ⟨w1, HW1⟩ : ∃ w1, Hid (w.setCell ⟨b, 0, none⟩ (.int .i64 z1) = w1) := ⟨_, Lib.hid rfl⟩
  have HK1 : Hid (Keep (· = b) w w1) := by unfold Hid; rw [← HW1.out]; exact (Keep.refl (· = b) w).setCell (fun _ => rfl) _
  have HC0 : Hid (w1.cell? ⟨b, 0, none⟩ = some (.int .i64 z1)) := by unfold Hid; rw [← HW1.out]; exact World.cell?_setCell_same _ _ _ h0
  have HF1 : Hid (∀ i, i < 3 → w1.frozen? ⟨b, i, none⟩ = false) := by unfold Hid; rw [← HW1.out]; intro i hi; rw [World.frozen?_setCell]; exact HH.out.2.2.2.2.2.2.2.2.2.2 i hi
  have HC1 : Hid (w1.cell? ⟨b, 2, none⟩ = some (.slice A2 l2.length c2)) := by unfold Hid; rw [← HW1.out, World.cell?_setCell_other _ _ _ _ (by simp)]; exact HH.out.2.2.1
  have HC2 : Hid (w1.cell? ⟨b, 1, none⟩ = some (.slice A1 l1.length c1)) := by unfold Hid; rw [← HW1.out, World.cell?_setCell_other _ _ _ _ (by simp)]; exact HH.out.2.1
  rw [HW1.out]
  clear h0 f0 i1
  refine wp_region_fxl 12 [.p, .p, .p, .p, .kv, .p, .p, .p, .p, .kv, .p, .al] [0] nob (fun _ => True) (fun _ _ _ _ => trivial) trivial (by kernel_rfl) (by kernel_rfl) ?_
  simp only [List.take_succ_cons, List.take_zero, List.drop_succ_cons, List.drop_zero]
  refine fx_p ?_ (by rfl) (fun w' => ?_) (fun K hK => ?_); rotate_left; (go_simp; first | done | exact rfl); go_simp; refine hK _ ?_; clear hK K
  refine fx_p ?_ (by rfl) (fun w' => ?_) (fun K hK => ?_); rotate_left; (go_simp; first | done | exact rfl); go_simp; refine hK _ ?_; clear hK K
  refine fx_p ?_ (by rfl) (fun w' => ?_) (fun K hK => ?_); rotate_left; (go_simp; first | done | exact rfl); go_simp; refine hK _ ?_; clear hK K
  refine fx_p ?_ (by rfl) (fun w' => ?_) (fun K hK => ?_); rotate_left; (go_simp; first | done | exact rfl); go_simp; refine hK _ ?_; clear hK K
  refine fx_kv ?_ (by rfl) (fun w' hw' ha => ?_) (fun K hK => ?_); rotate_left; (have g0 := hw'.keep.cell HC0.out (fun h => h); have g1 := hw'.keep.cell HC1.out (fun h => h); go_simp; first | done | exact rfl); go_simp; refine hK _ ?_; clear hK K
  refine fx_p ?_ (by rfl) (fun w' => ?_) (fun K hK => ?_); rotate_left; (go_simp; first | done | exact rfl); go_simp; refine hK _ ?_; clear hK K
  refine fx_p ?_ (by rfl) (fun w' => ?_) (fun K hK => ?_); rotate_left; (go_simp; first | done | exact rfl); go_simp; refine hK _ ?_; clear hK K
  refine fx_p ?_ (by rfl) (fun w' => ?_) (fun K hK => ?_); rotate_left; (go_simp; first | done | exact rfl); go_simp; refine hK _ ?_; clear hK K
  refine fx_p ?_ (by rfl) (fun w' => ?_) (fun K hK => ?_); rotate_left; (go_simp; first | done | exact rfl); go_simp; refine hK _ ?_; clear hK K
  refine fx_kv ?_ (by rfl) (fun w' hw' ha => ?_) (fun K hK => ?_); rotate_left; (have g0 := hw'.keep.cell HC0.out (fun h => h); have g1 := hw'.keep.cell HC1.out (fun h => h); go_simp; first | done | exact rfl); go_simp; refine hK _ ?_; clear hK K
  refine fx_p ?_ (by rfl) (fun w' => ?_) (fun K hK => ?_); rotate_left; (go_simp; first | done | exact rfl); go_simp; refine hK _ ?_; clear hK K
  refine fx_new (fun _ h => h.elim) (fun b => .slice (some ⟨b, 0, none⟩) 1 1) ?_ ?_ (by rfl) (fun w' hw' ha => ?_) (fun K hK ba => ?_); rotate_left 2; (have g0 := hw'.keep.cell HC0.out (fun h => h); have g1 := hw'.keep.cell HC1.out (fun h => h); go_simp; first | done | exact rfl); go_simp; refine hK _ _ ?_; clear hK K
  refine fx_nil ?_
  intro w9 hk9 hΓ
  have HK9 := Lib.hid hk9.keep
  have HFba := Lib.hid (hΓ _ List.mem_cons_self)
  clear hk9 hΓ
  obtain ⟨L, HL⟩ : ∃ L, Hid (l2.length = L) := ⟨_, Lib.hid rfl⟩
  rw [HL.out] at HC1 ⊢
  have hL : L ≤ 1000 := by have h5 := HH.out.2.2.2.2.2.2.1; have h6 := HL.out; omega
  have HOW : Hid (∀ A0 c0 (l0 : List (Option Addr × Nat × Nat × Int)), Ow EH w A0 c0 l0 → (∀ a, A0 = some a → b < a.block ∧ a.block < w.heap.size ∧ O a.block) → Ow EH w9 A0 c0 l0) := Lib.hid (fun A0 c0 l0 h1 h2 => (h1.keep HK1.out (fun ⟨a, ha, e⟩ => by have h3 := (h2 a ha).1; omega)).keep HK9.out (fun ⟨_, _, h⟩ => h))
  have HO9 := Lib.hid (HOW.out A2 c2 l2 HH.out.2.2.2.2.1 HH.out.2.2.2.2.2.2.2.2.1)
  have HP9 := Lib.hid (HOW.out A1 c1 l1 HH.out.2.2.2.1 HH.out.2.2.2.2.2.2.2.1)
  have HSL : Hid (Sl EH w9 (some ⟨ba, 0, none⟩) 1 [(A, n, c, z1)]) := Lib.hid ⟨Nat.le_refl _, by decide, fun _ => ⟨ba, 0, rfl, by simpa [El.flat_cons, El.flat_nil, EH] using HFba.out.2.1⟩⟩
  have HZ9 : Hid (w.heap.size ≤ w9.heap.size) := Lib.hid (Nat.le_trans HK1.out.size HK9.out.size)
  have HBA : Hid (∀ a, A2 = some a → b < a.block ∧ a.block < w9.heap.size ∧ O a.block) := Lib.hid (fun a ha => by have h3 := HH.out.2.2.2.2.2.2.2.2.1 a ha; have h4 := HZ9.out; exact ⟨h3.1, by omega, h3.2.2⟩)
  have HBB : Hid (∀ a, A1 = some a → b < a.block ∧ (a.block < w9.heap.size ∧ O a.block) ∧ ∀ a', A2 = some a' → a.block ≠ a'.block) := Lib.hid (fun a ha => by have h3 := HH.out.2.2.2.2.2.2.2.1 a ha; have h4 := HZ9.out; exact ⟨h3.1, ⟨by omega, h3.2.2⟩, fun a' ha' => HH.out.2.2.2.2.2.2.2.2.2.1 a a' ha ha'⟩)
  go_wp2_with (at_builtin; refine wpList_append_ow EH rfl _ _ 26 rfl 115 _ 56 Tryz.underlying26 infoHeld rfl A2 L c2 rfl l2 HL.out HO9.out (some ⟨ba, 0, none⟩) 1 1 rfl [(A, n, c, z1)] rfl HSL.out (by omega) (by omega) ?_; intro A' c' w6 hap; have HAP := Lib.hid hap; have hab : ¬ AtB A2 b := (fun ⟨a, ha, hb⟩ => by have h3 := (HBA.out a ha).1; omega); have g1 := hap.keep.cell (HK9.out.cell HC1.out (fun h => h)) hab; have fz6 : ∀ i, i < 3 → w6.frozen? ⟨b, i, none⟩ = false := (fun i hi => by rw [World.frozen?_of_block (hap.keep.block b (World.block_lt_of_cell? _ _ (HK9.out.cell HC0.out (fun h => h))) hab), World.frozen?_of_block (HK9.out.block b (World.block_lt_of_cell? _ _ HC0.out) (fun h => h))]; exact HF1.out i hi); have HF6 := Lib.hid fz6; have f1 := fz6 2 (by decide); clear hap fz6 hab)
  refine tailQ_n ?_
  go_end0
  obtain ⟨w7, HW7⟩ : ∃ w7, Hid (w6.setCell ⟨b, 2, none⟩ (.slice A' (L + 1) c') = w7) := ⟨_, Lib.hid rfl⟩
  have HK7 : Hid (Keep (· = b) w6 w7) := by unfold Hid; rw [← HW7.out]; exact (Keep.refl (· = b) w6).setCell (fun _ => rfl) _
  rw [HW7.out]
  have hz9 := HZ9.out
  have hz6 := HAP.out.keep.size
  have hz7 := HK7.out.size
  have hnA : ¬ AtB A2 b := fun ⟨a, ha, hb⟩ => by have h3 := (HBA.out a ha).1; omega
  have hA' : ∀ a, A' = some a → b < a.block ∧ (a.block < w7.heap.size ∧ (O a.block ∨ w.heap.size ≤ a.block)) ∧ ∀ a', A1 = some a' → a.block ≠ a'.block := fun a ha => by
    rcases HAP.out.lies a ha with ⟨a0, e0, e1⟩ | ⟨e1, e2⟩
    · have h3 := HBA.out a0 e0
      refine ⟨by omega, ⟨by omega, .inl (by rw [← e1]; exact h3.2.2)⟩, fun a' ha' => ?_⟩
      have h4 := (HBB.out a' ha').2.2 a0 e0
      rw [← e1]
      exact fun e => h4 e.symm
    · have hb := World.block_lt_of_cell? w9 _ (HK9.out.cell HC0.out (fun h => h))
      refine ⟨by simp only at hb; omega, ⟨by omega, .inr (by omega)⟩, fun a' ha' => ?_⟩
      have h4 := (HBB.out a' ha').2.1.1
      omega
  have kA : Keep O w w7 := (((HK1.out.mono (fun j _ e => by rw [show j = b from e]; exact HOB.out)).then_ (HK9.out.mono (fun _ _ h => h.elim))).then_ (HAP.out.keep.mono (fun j _ ⟨a, ha, hb⟩ => by have h3 := (HBA.out a ha).2.2; rw [hb] at h3; exact h3))).then_ (HK7.out.mono (fun j _ e => by rw [show j = b from e]; exact HOB.out))
  have oA : Ow EH w7 A' c' (l2 ++ [(A, n, c, z1)]) := HAP.out.ow.keep HK7.out (fun ⟨a, ha, e⟩ => by have h3 := (hA' a ha).1; omega)
  have oB : Ow EH w7 A1 c1 l1 := (HP9.out.keep HAP.out.keep (fun ⟨a, ha, a0, e0, e1⟩ => (HBB.out a ha).2.2 a0 e0 e1.symm)).keep HK7.out (fun ⟨a, ha, e⟩ => by have h3 := (HBB.out a ha).1; omega)
  have d0 : w7.cell? ⟨b, 0, none⟩ = some (.int .i64 z1) := by rw [← HW7.out, World.cell?_setCell_other _ _ _ _ (by simp)]; exact HAP.out.keep.cell (HK9.out.cell HC0.out (fun h => h)) hnA
  have d1 : w7.cell? ⟨b, 2, none⟩ = some (.slice A' (l2 ++ [(A, n, c, z1)]).length c') := by rw [List.length_append, HL.out, ← HW7.out]; exact World.cell?_setCell_same _ _ _ g1
  have d2 : w7.cell? ⟨b, 1, none⟩ = some (.slice A1 l1.length c1) := by rw [← HW7.out, World.cell?_setCell_other _ _ _ _ (by simp)]; exact HAP.out.keep.cell (HK9.out.cell HC2.out (fun h => h)) hnA
  have eA : (l2 ++ [(A, n, c, z1)]).length ≤ k + 1 := by have h5 := HH.out.2.2.2.2.2.2.1; rw [List.length_append]; exact Nat.succ_le_succ h5
  have eB : l1.length ≤ k + 1 := Nat.le_succ_of_le HH.out.2.2.2.2.2.1
  exact ⟨rfl, kA, ⟨⟨z1, A1, A', c1, c', l1, l2 ++ [(A, n, c, z1)], d0, d2, d1, oB, oA, eB, eA, fun a ha => ⟨(HBB.out a ha).1, by have h3 := (HBB.out a ha).2.1.1; omega, .inl (HBB.out a ha).2.1.2⟩, fun a ha => ⟨(hA' a ha).1, (hA' a ha).2.1.1, (hA' a ha).2.1.2⟩, fun a a' ha ha' => ((hA' a' ha').2.2 a ha).symm⟩, fun i hi => by rw [← HW7.out, World.frozen?_setCell]; exact HF6.out i hi, .inl HOB.out⟩⟩
end Go.Proofs.YtiemkfibpfndaaaGreatDoor

/- A book keeps a value without limbs and kids. -/
namespace Go.Proofs.YtiemkfibpfndaaaGreatDoor
open Go.RowKit

set_option maxRecDepth 100000 in
theorem bkValues0_ok (b k : Nat) (A : Option Addr) (c : Nat) (O : Nat → Prop) (w : World) (h : BK w b k O) (hk : k ≤ 1000) : Calls Tryz.prog 18 #[.pointer (some ⟨b, 0, none⟩), .slice A 0 c] w fun e w' => e = .returned (.tuple #[]) ∧ Keep O w w' ∧ BK w' b (k + 1) (fun x => O x ∨ w.heap.size ≤ x) := by
  have HV := Lib.hid (keepValue_ok b k A 0 c O w h hk)
  clear h
  go_enter Tryz.func18, Tryz.ntmps18
  go_wp2_with (go_at_call 27; go_must (refine HV.out.mono ?_); rintro e w1 ⟨rfl, hk1, hb1⟩; have HK1 := Lib.hid hk1; have HB1 := Lib.hid hb1; clear hk1 hb1)
  refine wp_loop_rounds 1 ?_
  rw [rounds_succ]
  go_wp2
  go_end0
  exact ⟨rfl, HK1.out, HB1.out⟩
set_option maxRecDepth 100000 in
theorem bkValue_ok (b k : Nat) (kind n : Nat) (g : Bool) (mA : Option Addr) (mL mC bits : Nat) (ext : Int) (text : ByteArray) (kA : Option Addr) (kC : Nat) (O : Nat → Prop) (w : World) (hO : ∀ x, O x → x < w.heap.size) (h : BK w b k O) (hk : k ≤ 900) :
    Calls Tryz.prog 10 #[.pointer (some ⟨b, 0, none⟩), .agg #[.int .i8 (kind : Int), .int .u64 (n : Int), .bool g, .slice mA mL mC, .int .u64 (bits : Int), .int .i8 ext, .string text, .slice kA 0 kC]] w fun e w' => e = .returned (.tuple #[]) ∧ Keep O w w' ∧ BK w' b (k + 2) (fun x => O x ∨ w.heap.size ≤ x) := by
  obtain ⟨w0, HW⟩ : ∃ w0, Hid (w.alloc (.cells #[.int .i8 (kind : Int), .int .u64 (n : Int), .bool g, .slice mA mL mC, .int .u64 (bits : Int), .int .i8 ext, .string text, .slice kA 0 kC] 55) = w0) := ⟨_, Lib.hid rfl⟩
  obtain ⟨b0, HB⟩ : ∃ b0, Hid (w.heap.size = b0) := ⟨_, Lib.hid rfl⟩
  have HK0 : Hid (Keep nob w w0) := by unfold Hid; rw [← HW.out]; exact (Keep.refl _ _).alloc _
  have HR : Hid (w0.rangeAt b0 0 (ER.cells ⟨kind, n, g, mA, mL, mC, bits, ext, text, kA, 0, kC⟩)) := by unfold Hid; rw [← HW.out, ← HB.out]; exact range_new w ⟨kind, n, g, mA, mL, mC, bits, ext, text, kA, 0, kC⟩ 55
  have HL := Lib.hid (keepLimb_ok b k mA mL mC O w0 (h.keep HK0.out) (by omega))
  have HV := Lib.hid (fun (W : World) (O' : Nat → Prop) (hW : BK W b (k + 1) O') => bkValues0_ok b (k + 1) kA kC O' W hW (by omega))
  have HNE := Lib.hid (show ¬ O b0 from fun e => by have := hO _ e; have := HB.out; omega)
  clear h hO
  go_enter Tryz.func10, Tryz.ntmps10
  go_upto_region 1 with (fail)
  rw [HW.out, HB.out]
  obtain ⟨c0, c1, c2, c3, c4, c5, c6, c7⟩ := cells_val HR.out
  go_wp2_with (first | (go_at_call 17; go_must (refine HL.out.mono ?_); rintro e w1 ⟨rfl, hk1, hb1⟩; have HK1 := Lib.hid hk1; have HB1 := Lib.hid hb1; have c7 := hk1.cell c7 HNE.out; clear hk1 hb1) | (go_at_call 18; go_must (refine (HV.out _ _ HB1.out).mono ?_); rintro e w2 ⟨rfl, hk2, hb2⟩))
  go_end0
  have hz0 := HK0.out.size
  have hz1 := HK1.out.size
  refine ⟨rfl, ((HK0.out.mono (fun _ _ h => h.elim)).then_ HK1.out).trans hk2 (fun j h1 h2 => ?_), hb2.mono (by omega) (fun x hx => ?_)⟩
  · rcases h2 with h2 | h2
    · exact h2
    · omega
  · rcases hx with (hx | hx) | hx
    · exact .inl hx
    · exact .inr (by omega)
    · exact .inr (by omega)
end Go.Proofs.YtiemkfibpfndaaaGreatDoor

/- nothing of this seat. -/

/- packread.Next and Read, wherever and of whatever length. -/
namespace Go.Proofs.YtiemkfibpfndaaaGreatDoor
open Go.RowKit

set_option maxRecDepth 100000 in
/-- too many bytes -/
theorem next_long (s : ByteArray) (p : Nat) (hp : p ≤ s.size) (hs : 1048576 < s.size) (B : Nat) (sa : Nat → Addr) (w : World) (g : GL B sa w) : Calls Tryz.prog 14 #[.string s, .int .i64 (p : Int)] w fun e w' => ∃ ev, e = .returned (.tuple #[ER.val Raw.zero, .int .i64 0, ev]) ∧ Keep nob w w' ∧ FErr sa w' (fun k => w.heap.size ≤ k) ev 5 1048576 := by
  obtain ⟨w0, b4, HW0, HB4, HK0, HT0, HL0⟩ := start w
  have g1 := (g.keep HK0.out (fun _ h => h.elim)).err 5 (by decide) (by decide)
  simp only [gerr, sent] at g1
  have hd0 : decide ((p : Int) < 0) = false := by rw [decide_eq_false_iff_not]; omega
  have hd1 : decide ((p : Int) > (s.size : Int)) = false := by rw [decide_eq_false_iff_not]; omega
  have hn1 : decide (s.size < p) = false := by rw [decide_eq_false_iff_not]; omega
  have hd2 : decide ((s.size : Int) > 1048576) = true := by rw [decide_eq_true_iff]; omega
  have hn2 : decide (1048576 < s.size) = true := by rw [decide_eq_true_iff]; exact hs
  have G1 := Lib.hid g1
  have n4 : ¬ 1 = b4 := by have h1 := g.le; have h2 := g.lt; have h3 := HL0.out; omega
  clear g hp hs g1
  go_enter Tryz.func14, Tryz.ntmps14
  go_upto_region 1 with (fail)
  rw [HW0.out, HB4.out]
  go_upto_region 4 with (fail)
  refine wp_region_fx 8 [.p, .kv, .p, .al, .p, .st, .p, .p] [] (· = b4) (fun w => w.there b4 0 8) (fun _ _ h k => h.keep' k) HT0.out (by kernel_rfl) (by kernel_rfl) (fun h => absurd rfl h) ?_
  simp only [List.take_succ_cons, List.take_zero, List.drop_succ_cons, List.drop_zero]
  refine fx_p ?_ (by rfl) (fun w' => ?_) (fun K hK => ?_); rotate_left; (go_simp; first | done | exact rfl); go_simp; refine hK _ ?_; clear hK K
  refine fx_kv ?_ (by rfl) (fun w' hw' ha => ?_) (fun K hK => ?_); rotate_left; (have c0 := hw'.keep.cell G1.out n4; go_simp; first | done | exact rfl); go_simp; refine hK _ ?_; clear hK K
  refine fx_p ?_ (by rfl) (fun w' => ?_) (fun K hK => ?_); rotate_left; (go_simp; first | done | exact rfl); go_simp; refine hK _ ?_; clear hK K
  refine fx_new (fun _ h => by subst h; exact HL0.out.2) (fun b => .pointer (some ⟨b, 0, none⟩)) ?_ ?_ (by rfl) (fun w' hw' ha => ?_) (fun K hK b8 => ?_); rotate_left 2; (have c0 := hw'.keep.cell G1.out n4; go_simp; first | done | exact rfl); go_simp; refine hK _ _ ?_; clear hK K
  refine fx_p ?_ (by rfl) (fun w' => ?_) (fun K hK => ?_); rotate_left; (go_simp; first | done | exact rfl); go_simp; refine hK _ ?_; clear hK K
  refine fx_st8 b4 (Raw.zero) (.int .i8 0) (.int .u64 0) (.bool false) (.slice none 0 0) (.int .u64 0) (.int .i8 0) (.string ⟨#[]⟩) (.slice none 0 0) rfl rfl rfl (by rfl) (fun w' hw' ht' ha => ?_) (fun K hK => ?_); (have c0 := hw'.keep.cell G1.out n4; obtain ⟨v0, v1, v2, v3, v4, v5, v6, v7, ⟨c0, c1, c2, c3, c4, c5, c6, c7⟩, f0, f1, f2, f3, f4, f5, f6, f7⟩ := eight ht'; go_simp; first | done | exact rfl); go_simp; refine hK _ _ ?_; clear hK K
  refine fx_p ?_ (by rfl) (fun w' => ?_) (fun K hK => ?_); rotate_left; (go_simp; first | done | exact rfl); go_simp; refine hK _ ?_; clear hK K
  refine fx_p ?_ (by rfl) (fun w' => ?_) (fun K hK => ?_); rotate_left; (go_simp; first | done | exact rfl); go_simp; refine hK _ ?_; clear hK K
  refine fx_nil ?_
  intro w9 hk9 hΓ
  have HK9 := Lib.hid hk9.keep
  have HFb8 := Lib.hid (hΓ _ (List.mem_cons_of_mem _ List.mem_cons_self))
  have HFst := Lib.hid (hΓ _ List.mem_cons_self)
  clear hk9 hΓ
  have h1 := HL0.out
  go_wp2_with (fail)
  obtain ⟨n1, n2, -⟩ := HFb8.out
  have h5 := HK0.out.size
  exact ret_vtt rfl rfl rfl rfl rfl HFst.out ⟨_, rfl, HK0.out.trans HK9.out (fun j h6 e => by omega), b8, rfl, by show w.heap.size ≤ b8; omega, n2 0 _ rfl, n2 1 _ rfl, n2 2 _ rfl⟩

set_option maxRecDepth 100000 in
/-- a place that may not be -/
theorem next_off (s : ByteArray) (p : Int) (hp : p < 0 ∨ (s.size : Int) < p) (hb : p < 9223372036854775808) (B : Nat) (sa : Nat → Addr) (w : World) (g : GL B sa w) : Calls Tryz.prog 14 #[.string s, .int .i64 p] w fun e w' => e = .returned (.tuple #[ER.val Raw.zero, .int .i64 0, sent sa 1]) ∧ Keep nob w w' := by
  by_cases h0 : 0 ≤ p
  · obtain ⟨q, rfl⟩ := Int.eq_ofNat_of_zero_le h0
    have hq : s.size < q := by omega
    obtain ⟨w0, b4, HW0, HB4, HK0, HT0, HL0⟩ := start w
    have g1 := (g.keep HK0.out (fun _ h => h.elim)).err 1 (by decide) (by decide)
    simp only [gerr, sent] at g1
    have hd0 : decide ((q : Int) < 0) = false := by rw [decide_eq_false_iff_not]; omega
    have hd1 : decide ((q : Int) > (s.size : Int)) = true := by rw [decide_eq_true_iff]; omega
    have hn1 : decide (s.size < q) = true := by rw [decide_eq_true_iff]; exact hq
    have n4 : ¬ 0 = b4 := by have h1 := g.le; have h2 := g.lt; have h3 := HL0.out; omega
    have G1 := Lib.hid g1
    clear g hp hq g1 hb h0
    go_enter Tryz.func14, Tryz.ntmps14
    go_upto_region 1 with (fail)
    rw [HW0.out, HB4.out]
    go_upto_region 2 with (fail)
    refine wp_region_fx 5 [.p, .kv, .st, .p, .p] [] (· = b4) (fun w => w.there b4 0 8) (fun _ _ h k => h.keep' k) HT0.out (by kernel_rfl) (by kernel_rfl) (fun h => absurd rfl h) ?_
    simp only [List.take_succ_cons, List.take_zero, List.drop_succ_cons, List.drop_zero]
    refine fx_p ?_ (by rfl) (fun w' => ?_) (fun K hK => ?_); rotate_left; (go_simp; first | done | exact rfl); go_simp; refine hK _ ?_; clear hK K
    refine fx_kv ?_ (by rfl) (fun w' hw' ha => ?_) (fun K hK => ?_); rotate_left; (have c0 := hw'.keep.cell G1.out n4; go_simp; first | done | exact rfl); go_simp; refine hK _ ?_; clear hK K
    refine fx_st8 b4 (Raw.zero) (.int .i8 0) (.int .u64 0) (.bool false) (.slice none 0 0) (.int .u64 0) (.int .i8 0) (.string ⟨#[]⟩) (.slice none 0 0) rfl rfl rfl (by rfl) (fun w' hw' ht' ha => ?_) (fun K hK => ?_); (have c0 := hw'.keep.cell G1.out n4; obtain ⟨v0, v1, v2, v3, v4, v5, v6, v7, ⟨c0, c1, c2, c3, c4, c5, c6, c7⟩, f0, f1, f2, f3, f4, f5, f6, f7⟩ := eight ht'; go_simp; first | done | exact rfl); go_simp; refine hK _ _ ?_; clear hK K
    refine fx_p ?_ (by rfl) (fun w' => ?_) (fun K hK => ?_); rotate_left; (go_simp; first | done | exact rfl); go_simp; refine hK _ ?_; clear hK K
    refine fx_p ?_ (by rfl) (fun w' => ?_) (fun K hK => ?_); rotate_left; (go_simp; first | done | exact rfl); go_simp; refine hK _ ?_; clear hK K
    refine fx_nil ?_
    intro w9 hk9 hΓ
    have HK9 := Lib.hid hk9.keep
    have HFst := Lib.hid (hΓ _ List.mem_cons_self)
    clear hk9 hΓ
    have h1 := HL0.out
    go_wp2_with (fail)
    exact ret_vtt rfl rfl rfl rfl rfl HFst.out ⟨rfl, HK0.out.trans HK9.out (fun j h6 e => by omega)⟩
  · obtain ⟨w0, b4, HW0, HB4, HK0, HT0, HL0⟩ := start w
    have g1 := (g.keep HK0.out (fun _ h => h.elim)).err 1 (by decide) (by decide)
    simp only [gerr, sent] at g1
    have hd0 : decide (p < 0) = true := by rw [decide_eq_true_iff]; omega
    have hd1 : p < 0 := by omega
    have n4 : ¬ 0 = b4 := by have h1 := g.le; have h2 := g.lt; have h3 := HL0.out; omega
    have G1 := Lib.hid g1
    clear g hp g1 hb h0
    go_enter Tryz.func14, Tryz.ntmps14
    go_upto_region 1 with (fail)
    rw [HW0.out, HB4.out]
    go_upto_region 2 with (fail)
    refine wp_region_fx 5 [.p, .kv, .st, .p, .p] [] (· = b4) (fun w => w.there b4 0 8) (fun _ _ h k => h.keep' k) HT0.out (by kernel_rfl) (by kernel_rfl) (fun h => absurd rfl h) ?_
    simp only [List.take_succ_cons, List.take_zero, List.drop_succ_cons, List.drop_zero]
    refine fx_p ?_ (by rfl) (fun w' => ?_) (fun K hK => ?_); rotate_left; (go_simp; first | done | exact rfl); go_simp; refine hK _ ?_; clear hK K
    refine fx_kv ?_ (by rfl) (fun w' hw' ha => ?_) (fun K hK => ?_); rotate_left; (have c0 := hw'.keep.cell G1.out n4; go_simp; first | done | exact rfl); go_simp; refine hK _ ?_; clear hK K
    refine fx_st8 b4 (Raw.zero) (.int .i8 0) (.int .u64 0) (.bool false) (.slice none 0 0) (.int .u64 0) (.int .i8 0) (.string ⟨#[]⟩) (.slice none 0 0) rfl rfl rfl (by rfl) (fun w' hw' ht' ha => ?_) (fun K hK => ?_); (have c0 := hw'.keep.cell G1.out n4; obtain ⟨v0, v1, v2, v3, v4, v5, v6, v7, ⟨c0, c1, c2, c3, c4, c5, c6, c7⟩, f0, f1, f2, f3, f4, f5, f6, f7⟩ := eight ht'; go_simp; first | done | exact rfl); go_simp; refine hK _ _ ?_; clear hK K
    refine fx_p ?_ (by rfl) (fun w' => ?_) (fun K hK => ?_); rotate_left; (go_simp; first | done | exact rfl); go_simp; refine hK _ ?_; clear hK K
    refine fx_p ?_ (by rfl) (fun w' => ?_) (fun K hK => ?_); rotate_left; (go_simp; first | done | exact rfl); go_simp; refine hK _ ?_; clear hK K
    refine fx_nil ?_
    intro w9 hk9 hΓ
    have HK9 := Lib.hid hk9.keep
    have HFst := Lib.hid (hΓ _ List.mem_cons_self)
    clear hk9 hΓ
    have h1 := HL0.out
    go_wp2_with (fail)
    exact ret_vtt rfl rfl rfl rfl rfl HFst.out ⟨rfl, HK0.out.trans HK9.out (fun j h6 e => by omega)⟩
set_option maxRecDepth 100000 in
theorem read_long (s : ByteArray) (hs : 1048576 < s.size) (B : Nat) (sa : Nat → Addr) (w : World) (g : GL B sa w) : Calls Tryz.prog 9 #[.string s] w (ReadPost sa w (.bad 5 1048576)) := by
  obtain ⟨w0, b2, HW0, HB2, HK0, HT0, HL0⟩ := start w
  have HG0 := Lib.hid (g.keep HK0.out (fun _ h => h.elim))
  have HJ := Lib.hid (next_long s 0 (Nat.zero_le _) hs B sa w0 HG0.out)
  have HJ : Hid (Calls Tryz.prog 14 #[.string s, .int .i64 0] w0 (fun e w' => ∃ ev, e = .returned (.tuple #[.agg #[.int .i8 0, .int .u64 0, .bool false, .slice none 0 0, .int .u64 0, .int .i8 0, .string ⟨#[]⟩, .slice none 0 0], .int .i64 0, ev]) ∧ Keep nob w0 w' ∧ FErr sa w' (fun k => w0.heap.size ≤ k) ev 5 1048576)) := HJ
  clear g hs
  go_enter Tryz.func9, Tryz.ntmps9
  go_upto_region 1 with (fail)
  rw [HW0.out, HB2.out]
  go_wp2_with (go_at_call 14; go_must (refine HJ.out.mono ?_); rintro e w9 ⟨ev, rfl, hk9, he⟩; have HK9 := Lib.hid hk9; clear hk9; obtain ⟨bb, rfl, he1⟩ := he; have HT9 : Hid (w9.there b2 0 8) := Lib.hid (HT0.out.keep' HK9.out); obtain ⟨v0, v1, v2, v3, v4, v5, v6, v7, ⟨c0, c1, c2, c3, c4, c5, c6, c7⟩, f0, f1, f2, f3, f4, f5, f6, f7⟩ := eight (HT9.out.keep' ((Keep.refl nob w9).alloc (.cells #[.int .i8 0, .int .u64 0, .bool false, .slice none 0 0, .int .u64 0, .int .i8 0, .string ⟨#[]⟩, .slice none 0 0] 55))))
  obtain ⟨w8, HW8⟩ : ∃ w8, Hid (w9.alloc (.cells #[.int .i8 0, .int .u64 0, .bool false, .slice none 0 0, .int .u64 0, .int .i8 0, .string ⟨#[]⟩, .slice none 0 0] 55) = w8) := ⟨_, Lib.hid rfl⟩
  have hk8 : Keep nob w9 w8 := by rw [← HW8.out]; exact (Keep.refl _ _).alloc _
  rw [HW8.out]
  obtain ⟨w10, e10, r10, k10⟩ := put8 (HT9.out.keep' hk8) Raw.zero (.int .i8 0) (.int .u64 0) (.bool false) (.slice none 0 0) (.int .u64 0) (.int .i8 0) (.string ⟨#[]⟩) (.slice none 0 0) rfl
  rw [e10.out]
  have h1 := HL0.out
  have h5 := HK0.out.size
  refine ret_vt rfl rfl rfl rfl r10 ⟨_, rfl, ((HK0.out.then_ HK9.out).then_ hk8).trans k10 (fun j h6 e => by omega), ?_⟩
  exact (((FErr.keep (S := nob) ⟨bb, rfl, he1⟩ hk8 (fun _ _ h => h)).keep k10 (fun j hj e => by omega)).mono (fun j _ hj => by omega))
/-- what Read reads, whatever the length -/
def readT (s : ByteArray) : R V := if 1048576 < s.size then .bad 5 1048576 else readN Wd s
theorem read_all (s : ByteArray) (B : Nat) (sa : Nat → Addr) (w : World) (g : GL B sa w) : Calls Tryz.prog 9 #[.string s] w (ReadPost sa w (readT s)) := by
  unfold readT
  split
  · rename_i h; exact read_long s h B sa w g
  · rename_i h; exact read_ok s (by omega) B sa w g
end Go.Proofs.YtiemkfibpfndaaaGreatDoor

/- reads and nexts: the program's answer and the reference's, of a value without kids or an error. Printed by mkzl. -/
namespace Go.Proofs.YtiemkfibpfndaaaGreatDoor
open Go.RowKit

theorem isat_nil (w : World) : Calls Tryz.prog 11 #[.nilIface, .int .i64 0, .int .i64 0] w fun e w' => e = .returned (.bool true) ∧ Keep nob w w' := by
  go_enter Tryz.func11, Tryz.ntmps11
  go_wp2
  go_ret
  exact ⟨rfl, Keep.refl _ _⟩
set_option maxRecDepth 100000 in
theorem isat5_ok {B : Nat} {sa : Nat → Addr} {w : World} (g : GL B sa w) {D : Nat → Prop} {ev : Value} {p : Nat} (h : FErr sa w D ev 5 p) : Calls Tryz.prog 11 #[ev, .int .i64 5, .int .i64 (p : Int)] w fun e w' => e = .returned (.bool true) ∧ Keep nob w w' := by
  have HC := Lib.hid (code_fault g (by decide) (by decide) h)
  have HA := Lib.hid (fun (W : World) (k : Keep nob w W) => at_fault (g.keep k (fun _ h => h.elim)) (h.keep k (fun _ _ h => h)))
  have HP := Lib.hid (fun (W : World) (k : Keep nob w W) => path_fault (g.keep k (fun _ h => h.elim)) (h.keep k (fun _ _ h => h)))
  obtain ⟨pb, rfl, h⟩ := h
  clear g h
  go_enter Tryz.func11, Tryz.ntmps11
  go_wp2_with (first | (go_at_call 19; go_must (refine HC.out.mono ?_); rintro e w1 ⟨rfl, hk1⟩; have HK1 := Lib.hid hk1; clear hk1) | (go_at_call 20; go_must (refine (HA.out _ HK1.out).mono ?_); rintro e w2 ⟨rfl, hk2⟩; have HK2 := Lib.hid (HK1.out.then_ hk2); clear hk2) | (go_at_call 21; go_must (refine (HP.out _ HK2.out).mono ?_); rintro e w3 ⟨rfl, hk3⟩; have HK3 := Lib.hid (HK2.out.then_ hk3); clear hk3))
  go_ret
  exact ⟨rfl, HK3.out⟩
/-- the error of the number 3 or 5, at this byte -/
theorem isat_any {B : Nat} {sa : Nat → Addr} {w : World} (g : GL B sa w) {D : Nat → Prop} {ev : Value} {c p : Nat} (hc : c = 3 ∨ c = 5) (h : FErr sa w D ev c p) : Calls Tryz.prog 11 #[ev, .int .i64 (c : Int), .int .i64 (p : Int)] w fun e w' => e = .returned (.bool true) ∧ Keep nob w w' := by
  rcases hc with rfl | rfl
  · exact isat_ok g h
  · exact isat5_ok g h
/-- a flat value's cells -/
def flatR (k : Nat) (t : ByteArray) : Raw := ⟨k, 0, false, none, 0, 0, 0, 0, t, none, 0, 0⟩
def flatV (k : Nat) (t : ByteArray) : V := .mk k 0 false [] 0 0 t []
theorem flat_tr (W : World) (D : Nat → Prop) (k : Nat) (t : ByteArray) : Tr W D (flatR k t) (flatV k t) := Tr.flat W D k 0 false 0 0 t
theorem flat_got {W : World} {D : Nat → Prop} {r : Raw} {k : Nat} {t : ByteArray} (h : Tr W D r (flatV k t)) : r.kL = 0 := by
  unfold flatV Tr at h
  obtain ⟨-, -, -, -, -, -, -, rs, h1, -, -, h2⟩ := h
  rw [h1, h2.len]
  rfl
set_option maxRecDepth 100000 in
set_option maxHeartbeats 2000000 in
theorem reads_good (s : ByteArray) (k0 : Nat) (t : ByteArray) (b k B : Nat) (O : Nat → Prop) (sa : Nat → Addr) (w : World) (g : GL B sa w) (hO : ∀ x, O x → B ≤ x ∧ x < w.heap.size) (h : BK w b k O) (hk : k ≤ 900)
    (hr : ∀ W, Keep nob w W → Calls Tryz.prog 8 #[.string s] W fun e w' => Keep nob W w' ∧ e = .returned (.tuple #[ER.val (flatR k0 t), fltV 0 0]))
    (hp : ∀ W, Keep nob w W → Calls Tryz.prog 9 #[.string s] W fun e w' => Keep nob W w' ∧ ∃ r : Raw, e = .returned (.tuple #[ER.val r, .nilIface]) ∧ Tr w' (fun j => W.heap.size ≤ j) r (flatV k0 t)) :
    Calls Tryz.prog 5 #[.pointer (some ⟨b, 0, none⟩), .string s] w fun e w' => e = .returned (.bool true) ∧ Keep O w w' ∧ BK w' b (k + 2) (fun x => O x ∨ w.heap.size ≤ x) := by
  have HR : Hid (∀ W, Keep nob w W → Calls Tryz.prog 8 #[.string s] W fun e w' => Keep nob W w' ∧ e = .returned (.tuple #[.agg #[.int .i8 (k0 : Int), .int .u64 0, .bool false, .slice none 0 0, .int .u64 0, .int .i8 0, .string t, .slice none 0 0], .agg #[.int .i64 0, .int .i64 0, .string ⟨#[]⟩]])) := Lib.hid hr
  have HP : Hid (∀ W, Keep nob w W → Calls Tryz.prog 9 #[.string s] W fun e w' => Keep nob W w' ∧ ∃ r : Raw, e = .returned (.tuple #[.agg #[.int .i8 (r.kind : Int), .int .u64 (r.n : Int), .bool r.neg, .slice r.mA r.mL r.mC, .int .u64 (r.bits : Int), .int .i8 r.ext, .string r.text, .slice r.kA r.kL r.kC], .nilIface]) ∧ Tr w' (fun j => W.heap.size ≤ j) r (flatV k0 t)) := Lib.hid hp
  have HG := Lib.hid g
  have HO := Lib.hid hO
  have HB := Lib.hid h
  clear hr hp g hO h
  go_enter Tryz.func5, Tryz.ntmps5
  go_upto_region 2 with (go_at_call 8; go_must (refine (HR.out _ (Keep.refl _ _)).mono ?_); rintro e w1 ⟨hk1, rfl⟩; have HK1 := Lib.hid hk1; clear hk1)
  obtain ⟨w2, bv, bf, HX, HBV, HBF, HK2, HR2, HF2, HL2⟩ := newvf w1 (flatR k0 t) 0 0
  have HX : Hid ((w1.alloc (.cells #[.int .i8 (k0 : Int), .int .u64 0, .bool false, .slice none 0 0, .int .u64 0, .int .i8 0, .string t, .slice none 0 0] 55)).alloc (.cells #[.int .i64 0, .int .i64 0, .string ⟨#[]⟩] 57) = w2) := HX
  rw [HX.out]
  simp only [HBF.out]
  rw [HBV.out]
  have HW2 : Hid (Keep nob w w2) := Lib.hid (HK1.out.then_ HK2.out)
  go_upto_region 3 with (go_at_call 9; go_must (refine (HP.out _ HW2.out).mono ?_); rintro e w3 ⟨hk3, r, rfl, ht3⟩; have HK3 := Lib.hid hk3; have HT3 := Lib.hid ht3; clear hk3 ht3)
  obtain ⟨w4, HX4⟩ : ∃ w4, Hid (w3.alloc (.cells #[.int .i8 (r.kind : Int), .int .u64 (r.n : Int), .bool r.neg, .slice r.mA r.mL r.mC, .int .u64 (r.bits : Int), .int .i8 r.ext, .string r.text, .slice r.kA r.kL r.kC] 55) = w4) := ⟨_, Lib.hid rfl⟩
  obtain ⟨b4, HB4⟩ : ∃ b4, Hid (w3.heap.size = b4) := ⟨_, Lib.hid rfl⟩
  have HK4 : Hid (Keep nob w3 w4) := by unfold Hid; rw [← HX4.out]; exact (Keep.refl _ _).alloc _
  have HR4 := Lib.hid (range_new w3 r 55)
  rw [show w3.alloc (.cells (ER.cells r).toArray 55) = w4 from HX4.out, HB4.out] at HR4
  rw [HX4.out, HB4.out]
  have HT4 := Lib.hid (Tr.keep HK4.out (nobD _) _ _ HT3.out)
  have HKL := Lib.hid (flat_got HT3.out)
  have HW4 : Hid (Keep nob w w4) := Lib.hid (HW2.out.then_ (HK3.out.then_ HK4.out))
  have HZ : Hid (w.heap.size ≤ w1.heap.size ∧ w1.heap.size ≤ w2.heap.size ∧ w2.heap.size ≤ w3.heap.size ∧ w3.heap.size ≤ w4.heap.size) := Lib.hid ⟨HK1.out.size, HK2.out.size, HK3.out.size, HK4.out.size⟩
  have HNO : Hid (∀ x, w.heap.size ≤ x → ¬ O x) := Lib.hid (fun x h e => by have := (HO.out x e).2; omega)
  have HNV : Hid (¬ O bv) := Lib.hid (HNO.out _ (by have := HZ.out; have := HL2.out; omega))
  have HNF : Hid (¬ O bf) := Lib.hid (HNO.out _ (by have := HZ.out; have := HL2.out; omega))
  have HN4 : Hid (¬ O b4) := Lib.hid (HNO.out _ (by have := HZ.out; have := HB4.out; omega))
  have HV : Hid (Calls Tryz.prog 10 #[.pointer (some ⟨b, 0, none⟩), .agg #[.int .i8 (r.kind : Int), .int .u64 (r.n : Int), .bool r.neg, .slice r.mA r.mL r.mC, .int .u64 (r.bits : Int), .int .i8 r.ext, .string r.text, .slice r.kA r.kL r.kC]] w4 fun e w' => e = .returned (.tuple #[]) ∧ Keep O w4 w' ∧ BK w' b (k + 2) (fun x => O x ∨ w4.heap.size ≤ x)) := by
    refine Lib.hid ?_
    rw [HKL.out]
    exact bkValue_ok b k r.kind r.n r.neg r.mA r.mL r.mC r.bits r.ext r.text r.kA r.kC O w4 (fun x hx => by have h1 := (HO.out x hx).2; have h2 := HW4.out.size; omega) (HB.out.keep HW4.out) hk
  obtain ⟨c0, c1, c2, c3, c4, c5, c6, c7⟩ := cells_val HR4.out
  skip
  go_upto_region 4 with (go_at_call 10; go_must (refine HV.out.mono ?_); rintro e w5 ⟨rfl, hk5, hb5⟩; have HK5 := Lib.hid hk5; have HB5 := Lib.hid hb5; clear hk5 hb5)
  clear c0 c1 c2 c3 c4 c5 c6 c7
  have HKO : Hid (Keep O w w5) := Lib.hid ((HW4.out.mono (fun _ _ h => h.elim)).then_ HK5.out)
  have HG5 := Lib.hid (HG.out.keep HKO.out (fun x hx => (HO.out x hx).1))
  have HV5 := Lib.hid (range_keepS HK5.out HN4.out HR4.out)
  have HW5 := Lib.hid (range_keepS HK5.out HNV.out (range_keepS (HK3.out.then_ HK4.out) (fun h => h) HR2.out))
  have HF5 : Hid (w5.cell? ⟨bf, 0, none⟩ = some (.int .i64 0) ∧ w5.cell? ⟨bf, 1, none⟩ = some (.int .i64 0)) := Lib.hid ⟨HK5.out.cell ((HK3.out.then_ HK4.out).cell HF2.out.1 (fun h => h)) HNF.out, HK5.out.cell ((HK3.out.then_ HK4.out).cell HF2.out.2.1 (fun h => h)) HNF.out⟩
  have HSM : Hid (∀ W, Keep nob w5 W → Calls Tryz.prog 12 #[.agg #[.int .i8 (r.kind : Int), .int .u64 (r.n : Int), .bool r.neg, .slice r.mA r.mL r.mC, .int .u64 (r.bits : Int), .int .i8 r.ext, .string r.text, .slice r.kA r.kL r.kC], .agg #[.int .i8 (k0 : Int), .int .u64 0, .bool false, .slice none 0 0, .int .u64 0, .int .i8 0, .string t, .slice none 0 0]] W fun e w' => e = .returned (.bool true) ∧ Keep nob W w') := by
    refine Lib.hid (fun W hk => ?_)
    have h1 := Tr.keep hk (nobD _) _ _ (Tr.keep HK5.out (fun j hj e => HNO.out j (by have := HZ.out; omega) e) _ _ HT4.out)
    exact same_ok (flatV k0 t) r (flatR k0 t) _ nob W h1 (flat_tr W nob k0 t)
  have HIS : Hid (∀ W, Keep nob w5 W → Calls Tryz.prog 11 #[.nilIface, .int .i64 0, .int .i64 0] W fun e w' => e = .returned (.bool true) ∧ Keep nob W w') := Lib.hid (fun W hk => isat_nil W)
  have k50 : Keep nob w5 w5 := Keep.refl _ _
  obtain ⟨c0, c1, c2, c3, c4, c5, c6, c7⟩ := cells_val (range_keepS k50 (fun h => h) HV5.out); obtain ⟨e0, e1, e2, e3, e4, e5, e6, e7⟩ := cells_val (range_keepS k50 (fun h => h) HW5.out); dsimp only [flatR, Raw.zero] at c0 c1 c2 c3 c4 c5 c6 c7 e0 e1 e2 e3 e4 e5 e6 e7; have g0 := k50.cell HF5.out.1 (fun h => h); have g1 := k50.cell HF5.out.2 (fun h => h)
  go_wp2_with (first | (go_at_call 11; go_must (refine (HIS.out _ k50).mono ?_); rintro e w6 ⟨rfl, hk6⟩; obtain ⟨c0, c1, c2, c3, c4, c5, c6, c7⟩ := cells_val (range_keepS hk6 (fun h => h) HV5.out); obtain ⟨e0, e1, e2, e3, e4, e5, e6, e7⟩ := cells_val (range_keepS hk6 (fun h => h) HW5.out); dsimp only [flatR, Raw.zero] at c0 c1 c2 c3 c4 c5 c6 c7 e0 e1 e2 e3 e4 e5 e6 e7; have g0 := hk6.cell HF5.out.1 (fun h => h); have g1 := hk6.cell HF5.out.2 (fun h => h)) | (go_at_call 12; go_must (refine (HSM.out _ hk6).mono ?_); rintro e w7 ⟨rfl, hk7⟩))
  go_ret
  have k57 := hk6.then_ hk7
  refine ⟨rfl, HKO.out.then_ (k57.mono (fun _ _ h => h.elim)), (HB5.out.keep k57).mono (Nat.le_refl _) (fun x hx => ?_)⟩
  rcases hx with hx | hx
  · exact .inl hx
  · exact .inr (by have := HZ.out; omega)
set_option maxRecDepth 100000 in
set_option maxHeartbeats 2000000 in
theorem reads_bad (s : ByteArray) (c q : Nat) (hc : c = 3 ∨ c = 5) (b k B : Nat) (O : Nat → Prop) (sa : Nat → Addr) (w : World) (g : GL B sa w) (hO : ∀ x, O x → B ≤ x ∧ x < w.heap.size) (h : BK w b k O) (hk : k ≤ 900)
    (hr : ∀ W, Keep nob w W → Calls Tryz.prog 8 #[.string s] W fun e w' => Keep nob W w' ∧ e = .returned (.tuple #[ER.val Raw.zero, fltV c q]))
    (hp : ∀ W, Keep nob w W → Calls Tryz.prog 9 #[.string s] W fun e w' => Keep nob W w' ∧ ∃ ev, e = .returned (.tuple #[ER.val Raw.zero, ev]) ∧ FErr sa w' (fun j => W.heap.size ≤ j) ev c q) :
    Calls Tryz.prog 5 #[.pointer (some ⟨b, 0, none⟩), .string s] w fun e w' => e = .returned (.bool true) ∧ Keep O w w' ∧ BK w' b (k + 2) (fun x => O x ∨ w.heap.size ≤ x) := by
  have HR : Hid (∀ W, Keep nob w W → Calls Tryz.prog 8 #[.string s] W fun e w' => Keep nob W w' ∧ e = .returned (.tuple #[.agg #[.int .i8 0, .int .u64 0, .bool false, .slice none 0 0, .int .u64 0, .int .i8 0, .string ⟨#[]⟩, .slice none 0 0], .agg #[.int .i64 (c : Int), .int .i64 (q : Int), .string ⟨#[]⟩]])) := Lib.hid hr
  have HP : Hid (∀ W, Keep nob w W → Calls Tryz.prog 9 #[.string s] W fun e w' => Keep nob W w' ∧ ∃ ev, e = .returned (.tuple #[.agg #[.int .i8 0, .int .u64 0, .bool false, .slice none 0 0, .int .u64 0, .int .i8 0, .string ⟨#[]⟩, .slice none 0 0], ev]) ∧ FErr sa w' (fun j => W.heap.size ≤ j) ev c q) := Lib.hid hp
  have HG := Lib.hid g
  have HO := Lib.hid hO
  have HB := Lib.hid h
  have HC := Lib.hid hc
  have hc0 : ((c : Int) == 0) = false := by rw [beq_eq_false_iff_ne]; omega
  have hc1 : ((c : Int) == 1) = false := by rw [beq_eq_false_iff_ne]; omega
  clear hc
  clear hr hp g hO h
  go_enter Tryz.func5, Tryz.ntmps5
  go_upto_region 2 with (go_at_call 8; go_must (refine (HR.out _ (Keep.refl _ _)).mono ?_); rintro e w1 ⟨hk1, rfl⟩; have HK1 := Lib.hid hk1; clear hk1)
  obtain ⟨w2, bv, bf, HX, HBV, HBF, HK2, HR2, HF2, HL2⟩ := newvf w1 Raw.zero c q
  have HX : Hid ((w1.alloc (.cells #[.int .i8 0, .int .u64 0, .bool false, .slice none 0 0, .int .u64 0, .int .i8 0, .string ⟨#[]⟩, .slice none 0 0] 55)).alloc (.cells #[.int .i64 (c : Int), .int .i64 (q : Int), .string ⟨#[]⟩] 57) = w2) := HX
  rw [HX.out]
  simp only [HBF.out]
  rw [HBV.out]
  have HW2 : Hid (Keep nob w w2) := Lib.hid (HK1.out.then_ HK2.out)
  go_upto_region 3 with (go_at_call 9; go_must (refine (HP.out _ HW2.out).mono ?_); rintro e w3 ⟨hk3, ev, rfl, he3⟩; have HK3 := Lib.hid hk3; have HE3 := Lib.hid he3; clear hk3 he3)
  obtain ⟨w4, HX4⟩ : ∃ w4, Hid (w3.alloc (.cells #[.int .i8 0, .int .u64 0, .bool false, .slice none 0 0, .int .u64 0, .int .i8 0, .string ⟨#[]⟩, .slice none 0 0] 55) = w4) := ⟨_, Lib.hid rfl⟩
  obtain ⟨b4, HB4⟩ : ∃ b4, Hid (w3.heap.size = b4) := ⟨_, Lib.hid rfl⟩
  have HK4 : Hid (Keep nob w3 w4) := by unfold Hid; rw [← HX4.out]; exact (Keep.refl _ _).alloc _
  have HR4 := Lib.hid (range_new w3 Raw.zero 55)
  rw [show w3.alloc (.cells (ER.cells Raw.zero).toArray 55) = w4 from HX4.out, HB4.out] at HR4
  rw [HX4.out, HB4.out]
  have HE4 := Lib.hid (HE3.out.keep HK4.out (fun _ _ h => h))
  have HW4 : Hid (Keep nob w w4) := Lib.hid (HW2.out.then_ (HK3.out.then_ HK4.out))
  have HZ : Hid (w.heap.size ≤ w1.heap.size ∧ w1.heap.size ≤ w2.heap.size ∧ w2.heap.size ≤ w3.heap.size ∧ w3.heap.size ≤ w4.heap.size) := Lib.hid ⟨HK1.out.size, HK2.out.size, HK3.out.size, HK4.out.size⟩
  have HNO : Hid (∀ x, w.heap.size ≤ x → ¬ O x) := Lib.hid (fun x h e => by have := (HO.out x e).2; omega)
  have HNV : Hid (¬ O bv) := Lib.hid (HNO.out _ (by have := HZ.out; have := HL2.out; omega))
  have HNF : Hid (¬ O bf) := Lib.hid (HNO.out _ (by have := HZ.out; have := HL2.out; omega))
  have HN4 : Hid (¬ O b4) := Lib.hid (HNO.out _ (by have := HZ.out; have := HB4.out; omega))
  have HV := Lib.hid (bkValue_ok b k 0 0 false none 0 0 0 0 ⟨#[]⟩ none 0 O w4 (fun x hx => by have h1 := (HO.out x hx).2; have h2 := HW4.out.size; omega) (HB.out.keep HW4.out) hk)
  have HV : Hid (Calls Tryz.prog 10 #[.pointer (some ⟨b, 0, none⟩), .agg #[.int .i8 0, .int .u64 0, .bool false, .slice none 0 0, .int .u64 0, .int .i8 0, .string ⟨#[]⟩, .slice none 0 0]] w4 fun e w' => e = .returned (.tuple #[]) ∧ Keep O w4 w' ∧ BK w' b (k + 2) (fun x => O x ∨ w4.heap.size ≤ x)) := HV
  obtain ⟨c0, c1, c2, c3, c4, c5, c6, c7⟩ := cells_val HR4.out
  dsimp only [Raw.zero] at c0 c1 c2 c3 c4 c5 c6 c7
  go_upto_region 4 with (go_at_call 10; go_must (refine HV.out.mono ?_); rintro e w5 ⟨rfl, hk5, hb5⟩; have HK5 := Lib.hid hk5; have HB5 := Lib.hid hb5; clear hk5 hb5)
  clear c0 c1 c2 c3 c4 c5 c6 c7
  have HKO : Hid (Keep O w w5) := Lib.hid ((HW4.out.mono (fun _ _ h => h.elim)).then_ HK5.out)
  have HG5 := Lib.hid (HG.out.keep HKO.out (fun x hx => (HO.out x hx).1))
  have HV5 := Lib.hid (range_keepS HK5.out HN4.out HR4.out)
  have HW5 := Lib.hid (range_keepS HK5.out HNV.out (range_keepS (HK3.out.then_ HK4.out) (fun h => h) HR2.out))
  have HF5 : Hid (w5.cell? ⟨bf, 0, none⟩ = some (.int .i64 (c : Int)) ∧ w5.cell? ⟨bf, 1, none⟩ = some (.int .i64 (q : Int))) := Lib.hid ⟨HK5.out.cell ((HK3.out.then_ HK4.out).cell HF2.out.1 (fun h => h)) HNF.out, HK5.out.cell ((HK3.out.then_ HK4.out).cell HF2.out.2.1 (fun h => h)) HNF.out⟩
  have HSM : Hid (∀ W, Keep nob w5 W → Calls Tryz.prog 12 #[.agg #[.int .i8 0, .int .u64 0, .bool false, .slice none 0 0, .int .u64 0, .int .i8 0, .string ⟨#[]⟩, .slice none 0 0], .agg #[.int .i8 0, .int .u64 0, .bool false, .slice none 0 0, .int .u64 0, .int .i8 0, .string ⟨#[]⟩, .slice none 0 0]] W fun e w' => e = .returned (.bool true) ∧ Keep nob W w') := Lib.hid (fun W hk => same_ok _ Raw.zero Raw.zero nob nob W (Tr.flat W nob 0 0 false 0 0 ⟨#[]⟩) (Tr.flat W nob 0 0 false 0 0 ⟨#[]⟩))
  have HIS : Hid (∀ W, Keep nob w5 W → Calls Tryz.prog 11 #[ev, .int .i64 (c : Int), .int .i64 (q : Int)] W fun e w' => e = .returned (.bool true) ∧ Keep nob W w') := by
    refine Lib.hid (fun W hk => ?_)
    have h1 := (HE4.out.keep HK5.out (fun j hj e => HNO.out j (by have := HZ.out; omega) e)).keep hk (fun _ _ h => h)
    exact isat_any (HG5.out.keep hk (fun _ h => h.elim)) HC.out h1
  have k50 : Keep nob w5 w5 := Keep.refl _ _
  obtain ⟨c0, c1, c2, c3, c4, c5, c6, c7⟩ := cells_val (range_keepS k50 (fun h => h) HV5.out); obtain ⟨e0, e1, e2, e3, e4, e5, e6, e7⟩ := cells_val (range_keepS k50 (fun h => h) HW5.out); dsimp only [flatR, Raw.zero] at c0 c1 c2 c3 c4 c5 c6 c7 e0 e1 e2 e3 e4 e5 e6 e7; have g0 := k50.cell HF5.out.1 (fun h => h); have g1 := k50.cell HF5.out.2 (fun h => h)
  go_wp2_with (first | (go_at_call 11; go_must (refine (HIS.out _ k50).mono ?_); rintro e w6 ⟨rfl, hk6⟩; obtain ⟨c0, c1, c2, c3, c4, c5, c6, c7⟩ := cells_val (range_keepS hk6 (fun h => h) HV5.out); obtain ⟨e0, e1, e2, e3, e4, e5, e6, e7⟩ := cells_val (range_keepS hk6 (fun h => h) HW5.out); dsimp only [flatR, Raw.zero] at c0 c1 c2 c3 c4 c5 c6 c7 e0 e1 e2 e3 e4 e5 e6 e7; have g0 := hk6.cell HF5.out.1 (fun h => h); have g1 := hk6.cell HF5.out.2 (fun h => h)) | (go_at_call 12; go_must (refine (HSM.out _ hk6).mono ?_); rintro e w7 ⟨rfl, hk7⟩))
  go_ret
  have k57 := hk6.then_ hk7
  refine ⟨rfl, HKO.out.then_ (k57.mono (fun _ _ h => h.elim)), (HB5.out.keep k57).mono (Nat.le_refl _) (fun x hx => ?_)⟩
  rcases hx with hx | hx
  · exact .inl hx
  · exact .inr (by have := HZ.out; omega)
set_option maxRecDepth 100000 in
set_option maxHeartbeats 2000000 in
theorem nexts_good (s : ByteArray) (p : Nat) (k0 : Nat) (t : ByteArray) (n : Nat) (b k B : Nat) (O : Nat → Prop) (sa : Nat → Addr) (w : World) (g : GL B sa w) (hO : ∀ x, O x → B ≤ x ∧ x < w.heap.size) (h : BK w b k O) (hk : k ≤ 900)
    (hr : ∀ W, Keep nob w W → Calls Tryz.prog 13 #[.string s, .int .i64 (p : Int)] W fun e w' => Keep nob W w' ∧ e = .returned (.tuple #[ER.val (flatR k0 t), .int .i64 (n : Int), fltV 0 0]))
    (hp : ∀ W, Keep nob w W → Calls Tryz.prog 14 #[.string s, .int .i64 (p : Int)] W fun e w' => Keep nob W w' ∧ ∃ r : Raw, e = .returned (.tuple #[ER.val r, .int .i64 (n : Int), .nilIface]) ∧ Tr w' (fun j => W.heap.size ≤ j) r (flatV k0 t)) :
    Calls Tryz.prog 6 #[.pointer (some ⟨b, 0, none⟩), .string s, .int .i64 (p : Int)] w fun e w' => e = .returned (.bool true) ∧ Keep O w w' ∧ BK w' b (k + 2) (fun x => O x ∨ w.heap.size ≤ x) := by
  have HR : Hid (∀ W, Keep nob w W → Calls Tryz.prog 13 #[.string s, .int .i64 (p : Int)] W fun e w' => Keep nob W w' ∧ e = .returned (.tuple #[.agg #[.int .i8 (k0 : Int), .int .u64 0, .bool false, .slice none 0 0, .int .u64 0, .int .i8 0, .string t, .slice none 0 0], .int .i64 (n : Int), .agg #[.int .i64 0, .int .i64 0, .string ⟨#[]⟩]])) := Lib.hid hr
  have HP : Hid (∀ W, Keep nob w W → Calls Tryz.prog 14 #[.string s, .int .i64 (p : Int)] W fun e w' => Keep nob W w' ∧ ∃ r : Raw, e = .returned (.tuple #[.agg #[.int .i8 (r.kind : Int), .int .u64 (r.n : Int), .bool r.neg, .slice r.mA r.mL r.mC, .int .u64 (r.bits : Int), .int .i8 r.ext, .string r.text, .slice r.kA r.kL r.kC], .int .i64 (n : Int), .nilIface]) ∧ Tr w' (fun j => W.heap.size ≤ j) r (flatV k0 t)) := Lib.hid hp
  have HG := Lib.hid g
  have HO := Lib.hid hO
  have HB := Lib.hid h
  clear hr hp g hO h
  go_enter Tryz.func6, Tryz.ntmps6
  go_upto_region 2 with (go_at_call 13; go_must (refine (HR.out _ (Keep.refl _ _)).mono ?_); rintro e w1 ⟨hk1, rfl⟩; have HK1 := Lib.hid hk1; clear hk1)
  obtain ⟨w2, bv, bf, HX, HBV, HBF, HK2, HR2, HF2, HL2⟩ := newvf w1 (flatR k0 t) 0 0
  have HX : Hid ((w1.alloc (.cells #[.int .i8 (k0 : Int), .int .u64 0, .bool false, .slice none 0 0, .int .u64 0, .int .i8 0, .string t, .slice none 0 0] 55)).alloc (.cells #[.int .i64 0, .int .i64 0, .string ⟨#[]⟩] 57) = w2) := HX
  rw [HX.out]
  simp only [HBF.out]
  rw [HBV.out]
  have HW2 : Hid (Keep nob w w2) := Lib.hid (HK1.out.then_ HK2.out)
  go_upto_region 3 with (go_at_call 14; go_must (refine (HP.out _ HW2.out).mono ?_); rintro e w3 ⟨hk3, r, rfl, ht3⟩; have HK3 := Lib.hid hk3; have HT3 := Lib.hid ht3; clear hk3 ht3)
  obtain ⟨w4, HX4⟩ : ∃ w4, Hid (w3.alloc (.cells #[.int .i8 (r.kind : Int), .int .u64 (r.n : Int), .bool r.neg, .slice r.mA r.mL r.mC, .int .u64 (r.bits : Int), .int .i8 r.ext, .string r.text, .slice r.kA r.kL r.kC] 55) = w4) := ⟨_, Lib.hid rfl⟩
  obtain ⟨b4, HB4⟩ : ∃ b4, Hid (w3.heap.size = b4) := ⟨_, Lib.hid rfl⟩
  have HK4 : Hid (Keep nob w3 w4) := by unfold Hid; rw [← HX4.out]; exact (Keep.refl _ _).alloc _
  have HR4 := Lib.hid (range_new w3 r 55)
  rw [show w3.alloc (.cells (ER.cells r).toArray 55) = w4 from HX4.out, HB4.out] at HR4
  rw [HX4.out, HB4.out]
  have HT4 := Lib.hid (Tr.keep HK4.out (nobD _) _ _ HT3.out)
  have HKL := Lib.hid (flat_got HT3.out)
  have HW4 : Hid (Keep nob w w4) := Lib.hid (HW2.out.then_ (HK3.out.then_ HK4.out))
  have HZ : Hid (w.heap.size ≤ w1.heap.size ∧ w1.heap.size ≤ w2.heap.size ∧ w2.heap.size ≤ w3.heap.size ∧ w3.heap.size ≤ w4.heap.size) := Lib.hid ⟨HK1.out.size, HK2.out.size, HK3.out.size, HK4.out.size⟩
  have HNO : Hid (∀ x, w.heap.size ≤ x → ¬ O x) := Lib.hid (fun x h e => by have := (HO.out x e).2; omega)
  have HNV : Hid (¬ O bv) := Lib.hid (HNO.out _ (by have := HZ.out; have := HL2.out; omega))
  have HNF : Hid (¬ O bf) := Lib.hid (HNO.out _ (by have := HZ.out; have := HL2.out; omega))
  have HN4 : Hid (¬ O b4) := Lib.hid (HNO.out _ (by have := HZ.out; have := HB4.out; omega))
  have HV : Hid (Calls Tryz.prog 10 #[.pointer (some ⟨b, 0, none⟩), .agg #[.int .i8 (r.kind : Int), .int .u64 (r.n : Int), .bool r.neg, .slice r.mA r.mL r.mC, .int .u64 (r.bits : Int), .int .i8 r.ext, .string r.text, .slice r.kA r.kL r.kC]] w4 fun e w' => e = .returned (.tuple #[]) ∧ Keep O w4 w' ∧ BK w' b (k + 2) (fun x => O x ∨ w4.heap.size ≤ x)) := by
    refine Lib.hid ?_
    rw [HKL.out]
    exact bkValue_ok b k r.kind r.n r.neg r.mA r.mL r.mC r.bits r.ext r.text r.kA r.kC O w4 (fun x hx => by have h1 := (HO.out x hx).2; have h2 := HW4.out.size; omega) (HB.out.keep HW4.out) hk
  obtain ⟨c0, c1, c2, c3, c4, c5, c6, c7⟩ := cells_val HR4.out
  skip
  go_upto_region 4 with (go_at_call 10; go_must (refine HV.out.mono ?_); rintro e w5 ⟨rfl, hk5, hb5⟩; have HK5 := Lib.hid hk5; have HB5 := Lib.hid hb5; clear hk5 hb5)
  clear c0 c1 c2 c3 c4 c5 c6 c7
  have HKO : Hid (Keep O w w5) := Lib.hid ((HW4.out.mono (fun _ _ h => h.elim)).then_ HK5.out)
  have HG5 := Lib.hid (HG.out.keep HKO.out (fun x hx => (HO.out x hx).1))
  have HV5 := Lib.hid (range_keepS HK5.out HN4.out HR4.out)
  have HW5 := Lib.hid (range_keepS HK5.out HNV.out (range_keepS (HK3.out.then_ HK4.out) (fun h => h) HR2.out))
  have HF5 : Hid (w5.cell? ⟨bf, 0, none⟩ = some (.int .i64 0) ∧ w5.cell? ⟨bf, 1, none⟩ = some (.int .i64 0)) := Lib.hid ⟨HK5.out.cell ((HK3.out.then_ HK4.out).cell HF2.out.1 (fun h => h)) HNF.out, HK5.out.cell ((HK3.out.then_ HK4.out).cell HF2.out.2.1 (fun h => h)) HNF.out⟩
  have HSM : Hid (∀ W, Keep nob w5 W → Calls Tryz.prog 12 #[.agg #[.int .i8 (r.kind : Int), .int .u64 (r.n : Int), .bool r.neg, .slice r.mA r.mL r.mC, .int .u64 (r.bits : Int), .int .i8 r.ext, .string r.text, .slice r.kA r.kL r.kC], .agg #[.int .i8 (k0 : Int), .int .u64 0, .bool false, .slice none 0 0, .int .u64 0, .int .i8 0, .string t, .slice none 0 0]] W fun e w' => e = .returned (.bool true) ∧ Keep nob W w') := by
    refine Lib.hid (fun W hk => ?_)
    have h1 := Tr.keep hk (nobD _) _ _ (Tr.keep HK5.out (fun j hj e => HNO.out j (by have := HZ.out; omega) e) _ _ HT4.out)
    exact same_ok (flatV k0 t) r (flatR k0 t) _ nob W h1 (flat_tr W nob k0 t)
  have HIS : Hid (∀ W, Keep nob w5 W → Calls Tryz.prog 11 #[.nilIface, .int .i64 0, .int .i64 0] W fun e w' => e = .returned (.bool true) ∧ Keep nob W w') := Lib.hid (fun W hk => isat_nil W)
  have k50 : Keep nob w5 w5 := Keep.refl _ _
  obtain ⟨c0, c1, c2, c3, c4, c5, c6, c7⟩ := cells_val (range_keepS k50 (fun h => h) HV5.out); obtain ⟨e0, e1, e2, e3, e4, e5, e6, e7⟩ := cells_val (range_keepS k50 (fun h => h) HW5.out); dsimp only [flatR, Raw.zero] at c0 c1 c2 c3 c4 c5 c6 c7 e0 e1 e2 e3 e4 e5 e6 e7; have g0 := k50.cell HF5.out.1 (fun h => h); have g1 := k50.cell HF5.out.2 (fun h => h)
  go_wp2_with (first | (go_at_call 12; go_must (refine (HSM.out _ k50).mono ?_); rintro e w6 ⟨rfl, hk6⟩; obtain ⟨c0, c1, c2, c3, c4, c5, c6, c7⟩ := cells_val (range_keepS hk6 (fun h => h) HV5.out); obtain ⟨e0, e1, e2, e3, e4, e5, e6, e7⟩ := cells_val (range_keepS hk6 (fun h => h) HW5.out); dsimp only [flatR, Raw.zero] at c0 c1 c2 c3 c4 c5 c6 c7 e0 e1 e2 e3 e4 e5 e6 e7; have g0 := hk6.cell HF5.out.1 (fun h => h); have g1 := hk6.cell HF5.out.2 (fun h => h)) | (go_at_call 11; go_must (refine (HIS.out _ hk6).mono ?_); rintro e w7 ⟨rfl, hk7⟩))
  go_ret
  have k57 := hk6.then_ hk7
  refine ⟨rfl, HKO.out.then_ (k57.mono (fun _ _ h => h.elim)), (HB5.out.keep k57).mono (Nat.le_refl _) (fun x hx => ?_)⟩
  rcases hx with hx | hx
  · exact .inl hx
  · exact .inr (by have := HZ.out; omega)
set_option maxRecDepth 100000 in
set_option maxHeartbeats 2000000 in
theorem nexts_bad (s : ByteArray) (p : Nat) (c q : Nat) (hc : c = 3 ∨ c = 5) (b k B : Nat) (O : Nat → Prop) (sa : Nat → Addr) (w : World) (g : GL B sa w) (hO : ∀ x, O x → B ≤ x ∧ x < w.heap.size) (h : BK w b k O) (hk : k ≤ 900)
    (hr : ∀ W, Keep nob w W → Calls Tryz.prog 13 #[.string s, .int .i64 (p : Int)] W fun e w' => Keep nob W w' ∧ e = .returned (.tuple #[ER.val Raw.zero, .int .i64 0, fltV c q]))
    (hp : ∀ W, Keep nob w W → Calls Tryz.prog 14 #[.string s, .int .i64 (p : Int)] W fun e w' => Keep nob W w' ∧ ∃ ev, e = .returned (.tuple #[ER.val Raw.zero, .int .i64 0, ev]) ∧ FErr sa w' (fun j => W.heap.size ≤ j) ev c q) :
    Calls Tryz.prog 6 #[.pointer (some ⟨b, 0, none⟩), .string s, .int .i64 (p : Int)] w fun e w' => e = .returned (.bool true) ∧ Keep O w w' ∧ BK w' b (k + 2) (fun x => O x ∨ w.heap.size ≤ x) := by
  have HR : Hid (∀ W, Keep nob w W → Calls Tryz.prog 13 #[.string s, .int .i64 (p : Int)] W fun e w' => Keep nob W w' ∧ e = .returned (.tuple #[.agg #[.int .i8 0, .int .u64 0, .bool false, .slice none 0 0, .int .u64 0, .int .i8 0, .string ⟨#[]⟩, .slice none 0 0], .int .i64 0, .agg #[.int .i64 (c : Int), .int .i64 (q : Int), .string ⟨#[]⟩]])) := Lib.hid hr
  have HP : Hid (∀ W, Keep nob w W → Calls Tryz.prog 14 #[.string s, .int .i64 (p : Int)] W fun e w' => Keep nob W w' ∧ ∃ ev, e = .returned (.tuple #[.agg #[.int .i8 0, .int .u64 0, .bool false, .slice none 0 0, .int .u64 0, .int .i8 0, .string ⟨#[]⟩, .slice none 0 0], .int .i64 0, ev]) ∧ FErr sa w' (fun j => W.heap.size ≤ j) ev c q) := Lib.hid hp
  have HG := Lib.hid g
  have HO := Lib.hid hO
  have HB := Lib.hid h
  have HC := Lib.hid hc
  have hc0 : ((c : Int) == 0) = false := by rw [beq_eq_false_iff_ne]; omega
  have hc1 : ((c : Int) == 1) = false := by rw [beq_eq_false_iff_ne]; omega
  clear hc
  clear hr hp g hO h
  go_enter Tryz.func6, Tryz.ntmps6
  go_upto_region 2 with (go_at_call 13; go_must (refine (HR.out _ (Keep.refl _ _)).mono ?_); rintro e w1 ⟨hk1, rfl⟩; have HK1 := Lib.hid hk1; clear hk1)
  obtain ⟨w2, bv, bf, HX, HBV, HBF, HK2, HR2, HF2, HL2⟩ := newvf w1 Raw.zero c q
  have HX : Hid ((w1.alloc (.cells #[.int .i8 0, .int .u64 0, .bool false, .slice none 0 0, .int .u64 0, .int .i8 0, .string ⟨#[]⟩, .slice none 0 0] 55)).alloc (.cells #[.int .i64 (c : Int), .int .i64 (q : Int), .string ⟨#[]⟩] 57) = w2) := HX
  rw [HX.out]
  simp only [HBF.out]
  rw [HBV.out]
  have HW2 : Hid (Keep nob w w2) := Lib.hid (HK1.out.then_ HK2.out)
  go_upto_region 3 with (go_at_call 14; go_must (refine (HP.out _ HW2.out).mono ?_); rintro e w3 ⟨hk3, ev, rfl, he3⟩; have HK3 := Lib.hid hk3; have HE3 := Lib.hid he3; clear hk3 he3)
  obtain ⟨w4, HX4⟩ : ∃ w4, Hid (w3.alloc (.cells #[.int .i8 0, .int .u64 0, .bool false, .slice none 0 0, .int .u64 0, .int .i8 0, .string ⟨#[]⟩, .slice none 0 0] 55) = w4) := ⟨_, Lib.hid rfl⟩
  obtain ⟨b4, HB4⟩ : ∃ b4, Hid (w3.heap.size = b4) := ⟨_, Lib.hid rfl⟩
  have HK4 : Hid (Keep nob w3 w4) := by unfold Hid; rw [← HX4.out]; exact (Keep.refl _ _).alloc _
  have HR4 := Lib.hid (range_new w3 Raw.zero 55)
  rw [show w3.alloc (.cells (ER.cells Raw.zero).toArray 55) = w4 from HX4.out, HB4.out] at HR4
  rw [HX4.out, HB4.out]
  have HE4 := Lib.hid (HE3.out.keep HK4.out (fun _ _ h => h))
  have HW4 : Hid (Keep nob w w4) := Lib.hid (HW2.out.then_ (HK3.out.then_ HK4.out))
  have HZ : Hid (w.heap.size ≤ w1.heap.size ∧ w1.heap.size ≤ w2.heap.size ∧ w2.heap.size ≤ w3.heap.size ∧ w3.heap.size ≤ w4.heap.size) := Lib.hid ⟨HK1.out.size, HK2.out.size, HK3.out.size, HK4.out.size⟩
  have HNO : Hid (∀ x, w.heap.size ≤ x → ¬ O x) := Lib.hid (fun x h e => by have := (HO.out x e).2; omega)
  have HNV : Hid (¬ O bv) := Lib.hid (HNO.out _ (by have := HZ.out; have := HL2.out; omega))
  have HNF : Hid (¬ O bf) := Lib.hid (HNO.out _ (by have := HZ.out; have := HL2.out; omega))
  have HN4 : Hid (¬ O b4) := Lib.hid (HNO.out _ (by have := HZ.out; have := HB4.out; omega))
  have HV := Lib.hid (bkValue_ok b k 0 0 false none 0 0 0 0 ⟨#[]⟩ none 0 O w4 (fun x hx => by have h1 := (HO.out x hx).2; have h2 := HW4.out.size; omega) (HB.out.keep HW4.out) hk)
  have HV : Hid (Calls Tryz.prog 10 #[.pointer (some ⟨b, 0, none⟩), .agg #[.int .i8 0, .int .u64 0, .bool false, .slice none 0 0, .int .u64 0, .int .i8 0, .string ⟨#[]⟩, .slice none 0 0]] w4 fun e w' => e = .returned (.tuple #[]) ∧ Keep O w4 w' ∧ BK w' b (k + 2) (fun x => O x ∨ w4.heap.size ≤ x)) := HV
  obtain ⟨c0, c1, c2, c3, c4, c5, c6, c7⟩ := cells_val HR4.out
  dsimp only [Raw.zero] at c0 c1 c2 c3 c4 c5 c6 c7
  go_upto_region 4 with (go_at_call 10; go_must (refine HV.out.mono ?_); rintro e w5 ⟨rfl, hk5, hb5⟩; have HK5 := Lib.hid hk5; have HB5 := Lib.hid hb5; clear hk5 hb5)
  clear c0 c1 c2 c3 c4 c5 c6 c7
  have HKO : Hid (Keep O w w5) := Lib.hid ((HW4.out.mono (fun _ _ h => h.elim)).then_ HK5.out)
  have HG5 := Lib.hid (HG.out.keep HKO.out (fun x hx => (HO.out x hx).1))
  have HV5 := Lib.hid (range_keepS HK5.out HN4.out HR4.out)
  have HW5 := Lib.hid (range_keepS HK5.out HNV.out (range_keepS (HK3.out.then_ HK4.out) (fun h => h) HR2.out))
  have HF5 : Hid (w5.cell? ⟨bf, 0, none⟩ = some (.int .i64 (c : Int)) ∧ w5.cell? ⟨bf, 1, none⟩ = some (.int .i64 (q : Int))) := Lib.hid ⟨HK5.out.cell ((HK3.out.then_ HK4.out).cell HF2.out.1 (fun h => h)) HNF.out, HK5.out.cell ((HK3.out.then_ HK4.out).cell HF2.out.2.1 (fun h => h)) HNF.out⟩
  have HSM : Hid (∀ W, Keep nob w5 W → Calls Tryz.prog 12 #[.agg #[.int .i8 0, .int .u64 0, .bool false, .slice none 0 0, .int .u64 0, .int .i8 0, .string ⟨#[]⟩, .slice none 0 0], .agg #[.int .i8 0, .int .u64 0, .bool false, .slice none 0 0, .int .u64 0, .int .i8 0, .string ⟨#[]⟩, .slice none 0 0]] W fun e w' => e = .returned (.bool true) ∧ Keep nob W w') := Lib.hid (fun W hk => same_ok _ Raw.zero Raw.zero nob nob W (Tr.flat W nob 0 0 false 0 0 ⟨#[]⟩) (Tr.flat W nob 0 0 false 0 0 ⟨#[]⟩))
  have HIS : Hid (∀ W, Keep nob w5 W → Calls Tryz.prog 11 #[ev, .int .i64 (c : Int), .int .i64 (q : Int)] W fun e w' => e = .returned (.bool true) ∧ Keep nob W w') := by
    refine Lib.hid (fun W hk => ?_)
    have h1 := (HE4.out.keep HK5.out (fun j hj e => HNO.out j (by have := HZ.out; omega) e)).keep hk (fun _ _ h => h)
    exact isat_any (HG5.out.keep hk (fun _ h => h.elim)) HC.out h1
  have k50 : Keep nob w5 w5 := Keep.refl _ _
  obtain ⟨c0, c1, c2, c3, c4, c5, c6, c7⟩ := cells_val (range_keepS k50 (fun h => h) HV5.out); obtain ⟨e0, e1, e2, e3, e4, e5, e6, e7⟩ := cells_val (range_keepS k50 (fun h => h) HW5.out); dsimp only [flatR, Raw.zero] at c0 c1 c2 c3 c4 c5 c6 c7 e0 e1 e2 e3 e4 e5 e6 e7; have g0 := k50.cell HF5.out.1 (fun h => h); have g1 := k50.cell HF5.out.2 (fun h => h)
  go_wp2_with (first | (go_at_call 12; go_must (refine (HSM.out _ k50).mono ?_); rintro e w6 ⟨rfl, hk6⟩; obtain ⟨c0, c1, c2, c3, c4, c5, c6, c7⟩ := cells_val (range_keepS hk6 (fun h => h) HV5.out); obtain ⟨e0, e1, e2, e3, e4, e5, e6, e7⟩ := cells_val (range_keepS hk6 (fun h => h) HW5.out); dsimp only [flatR, Raw.zero] at c0 c1 c2 c3 c4 c5 c6 c7 e0 e1 e2 e3 e4 e5 e6 e7; have g0 := hk6.cell HF5.out.1 (fun h => h); have g1 := hk6.cell HF5.out.2 (fun h => h)) | (go_at_call 11; go_must (refine (HIS.out _ hk6).mono ?_); rintro e w7 ⟨rfl, hk7⟩))
  go_ret
  have k57 := hk6.then_ hk7
  refine ⟨rfl, HKO.out.then_ (k57.mono (fun _ _ h => h.elim)), (HB5.out.keep k57).mono (Nat.le_refl _) (fun x hx => ?_)⟩
  rcases hx with hx | hx
  · exact .inl hx
  · exact .inr (by have := HZ.out; omega)
end Go.Proofs.YtiemkfibpfndaaaGreatDoor

/- The calls of PackreadLong's law, whatever the world. -/
namespace Go.Proofs.YtiemkfibpfndaaaGreatDoor
open Go.RowKit

theorem BK.within {W : World} {b k : Nat} {O : Nat → Prop} (h : BK W b k O) : BK W b k (fun x => O x ∧ x < W.heap.size) := by
  have hl := h.lt
  obtain ⟨⟨n, A1, A2, c1, c2, l1, l2, h0, h1, h2, h3, h4, h5, h6, h7, h8, h9⟩, hf, hb⟩ := h
  exact ⟨⟨n, A1, A2, c1, c2, l1, l2, h0, h1, h2, h3, h4, h5, h6, fun a ha => ⟨(h7 a ha).1, (h7 a ha).2.1, (h7 a ha).2.2, (h7 a ha).2.1⟩, fun a ha => ⟨(h8 a ha).1, (h8 a ha).2.1, (h8 a ha).2.2, (h8 a ha).2.1⟩, h9⟩, hf, hb, hl⟩
/-- the worlds on the law's way: only blocks from the book's on are written -/
structure ST (w W : World) (b k : Nat) : Prop where
  keep : Keep (fun x => b ≤ x) w W
  bk : BK W b k (fun x => b ≤ x)
variable {s : ByteArray} {b k B : Nat} {sa : Nat → Addr} {w W : World}
theorem ST.own (h : ST w W b k) : BK W b k (fun x => b ≤ x ∧ x < W.heap.size) := h.bk.within
theorem ST.next {w' : World} (h : ST w W b k) (hk : Keep (fun x => b ≤ x ∧ x < W.heap.size) W w') (hb : BK w' b (k + 2) (fun x => (b ≤ x ∧ x < W.heap.size) ∨ W.heap.size ≤ x)) : ST w w' b (k + 2) := by
  have hl := h.bk.lt
  refine ⟨h.keep.then_ (hk.mono (fun _ _ h => h.1)), hb.mono (Nat.le_refl _) (fun x hx => ?_)⟩
  rcases hx with hx | hx
  · exact hx.1
  · omega
theorem st_reads_good (k0 : Nat) (t : ByteArray) (q : Nat) (hx : readT s = .ok (flatV k0 t) q) (hr : ∀ W, Calls Tryz.prog 8 #[.string s] W fun e w' => Keep nob W w' ∧ e = .returned (.tuple #[ER.val (flatR k0 t), fltV 0 0])) (g : GL B sa w) (hB : B ≤ b) (h : ST w W b k) (hk : k ≤ 900) :
    Calls Tryz.prog 5 #[.pointer (some ⟨b, 0, none⟩), .string s] W fun e w' => e = .returned (.bool true) ∧ ST w w' b (k + 2) := by
  have gW := g.keep h.keep (fun _ hx => Nat.le_trans hB hx)
  refine (reads_good s k0 t b k B _ sa W gW (fun x hx => ⟨Nat.le_trans hB hx.1, hx.2⟩) h.own hk (fun W' _ => hr W') (fun W' hW => ?_)).mono fun e w' ⟨h1, h2, h3⟩ => ⟨h1, h.next h2 h3⟩
  have h4 := read_all s B sa W' (gW.keep hW (fun _ h => h.elim))
  rw [hx] at h4
  exact h4.mono fun e w' ⟨h5, r, h6, h7⟩ => ⟨h5, r, h6, h7⟩
theorem st_reads_bad (c q : Nat) (hc : c = 3 ∨ c = 5) (hx : readT s = .bad c q) (hr : ∀ W, Calls Tryz.prog 8 #[.string s] W fun e w' => Keep nob W w' ∧ e = .returned (.tuple #[ER.val Raw.zero, fltV c q])) (g : GL B sa w) (hB : B ≤ b) (h : ST w W b k) (hk : k ≤ 900) :
    Calls Tryz.prog 5 #[.pointer (some ⟨b, 0, none⟩), .string s] W fun e w' => e = .returned (.bool true) ∧ ST w w' b (k + 2) := by
  have gW := g.keep h.keep (fun _ hx => Nat.le_trans hB hx)
  refine (reads_bad s c q hc b k B _ sa W gW (fun x hx => ⟨Nat.le_trans hB hx.1, hx.2⟩) h.own hk (fun W' _ => hr W') (fun W' hW => ?_)).mono fun e w' ⟨h1, h2, h3⟩ => ⟨h1, h.next h2 h3⟩
  have h4 := read_all s B sa W' (gW.keep hW (fun _ h => h.elim))
  rw [hx] at h4
  exact h4.mono fun e w' ⟨ev, h5, h6, h7⟩ => ⟨h6, ev, h5, h7⟩
theorem st_nexts_good (p : Nat) (k0 : Nat) (t : ByteArray) (n : Nat) (hp : p ≤ s.size) (hs : s.size ≤ 1048576) (hx : itemN Wd s 128 p = .ok (flatV k0 t) n) (hr : ∀ W, Calls Tryz.prog 13 #[.string s, .int .i64 (p : Int)] W fun e w' => Keep nob W w' ∧ e = .returned (.tuple #[ER.val (flatR k0 t), .int .i64 (n : Int), fltV 0 0])) (g : GL B sa w) (hB : B ≤ b) (h : ST w W b k) (hk : k ≤ 900) :
    Calls Tryz.prog 6 #[.pointer (some ⟨b, 0, none⟩), .string s, .int .i64 (p : Int)] W fun e w' => e = .returned (.bool true) ∧ ST w w' b (k + 2) := by
  have gW := g.keep h.keep (fun _ hx => Nat.le_trans hB hx)
  refine (nexts_good s p k0 t n b k B _ sa W gW (fun x hx => ⟨Nat.le_trans hB hx.1, hx.2⟩) h.own hk (fun W' _ => hr W') (fun W' hW => ?_)).mono fun e w' ⟨h1, h2, h3⟩ => ⟨h1, h.next h2 h3⟩
  have h4 := next_ok s p hp hs B sa W' (gW.keep hW (fun _ h => h.elim))
  rw [hx] at h4
  exact h4.mono fun e w' ⟨h5, r, h6, h7⟩ => ⟨h5, r, h6, h7⟩
theorem st_nexts_bad (p : Nat) (c q : Nat) (hc : c = 3 ∨ c = 5) (hp : p ≤ s.size) (hs : s.size ≤ 1048576) (hx : itemN Wd s 128 p = .bad c q) (hr : ∀ W, Calls Tryz.prog 13 #[.string s, .int .i64 (p : Int)] W fun e w' => Keep nob W w' ∧ e = .returned (.tuple #[ER.val Raw.zero, .int .i64 0, fltV c q])) (g : GL B sa w) (hB : B ≤ b) (h : ST w W b k) (hk : k ≤ 900) :
    Calls Tryz.prog 6 #[.pointer (some ⟨b, 0, none⟩), .string s, .int .i64 (p : Int)] W fun e w' => e = .returned (.bool true) ∧ ST w w' b (k + 2) := by
  have gW := g.keep h.keep (fun _ hx => Nat.le_trans hB hx)
  refine (nexts_bad s p c q hc b k B _ sa W gW (fun x hx => ⟨Nat.le_trans hB hx.1, hx.2⟩) h.own hk (fun W' _ => hr W') (fun W' hW => ?_)).mono fun e w' ⟨h1, h2, h3⟩ => ⟨h1, h.next h2 h3⟩
  have h4 := next_ok s p hp hs B sa W' (gW.keep hW (fun _ h => h.elim))
  rw [hx] at h4
  exact h4.mono fun e w' ⟨ev, h5, h6, h7⟩ => ⟨h6, ev, h5, h7⟩
theorem st_nexts_long (p : Nat) (hp : p ≤ s.size) (hs : 1048576 < s.size) (g : GL B sa w) (hB : B ≤ b) (h : ST w W b k) (hk : k ≤ 900) :
    Calls Tryz.prog 6 #[.pointer (some ⟨b, 0, none⟩), .string s, .int .i64 (p : Int)] W fun e w' => e = .returned (.bool true) ∧ ST w w' b (k + 2) := by
  have gW := g.keep h.keep (fun _ hx => Nat.le_trans hB hx)
  refine (nexts_bad s p 5 1048576 (.inr rfl) b k B _ sa W gW (fun x hx => ⟨Nat.le_trans hB hx.1, hx.2⟩) h.own hk (fun W' _ => rnext_long s p hp hs W') (fun W' hW => ?_)).mono fun e w' ⟨h1, h2, h3⟩ => ⟨h1, h.next h2 h3⟩
  have h4 := next_long s p hp hs B sa W' (gW.keep hW (fun _ h => h.elim))
  exact h4.mono fun e w' ⟨ev, h5, h6, h7⟩ => ⟨h6, ev, h5, h7⟩
/-! ### the long documents -/
section
variable {j last : Nat}
theorem size_le (f : Nat) (hj : j ≤ 1048570) : (lngD f j last).size ≤ 1048576 := by rw [lngD_size]; omega
theorem nx_b (hj : j ≤ 1048570) (hl : last < 256) (W : World) : Calls Tryz.prog 13 #[.string (lngD 198 j last), .int .i64 0] W fun e w' => Keep nob W w' ∧ e = .returned (.tuple #[ER.val (flatR 6 (Bt (lngL j last))), .int .i64 ((j + 6 : Nat) : Int), fltV 0 0]) :=
  rnext_good (lngD 198 j last) 0 (flatR 6 (Bt (lngL j last))) (j + 6) (Nat.zero_le _) (size_le 198 hj) W (fun b W' hr => ritem_b b j last _ rfl (by omega) hl W' hr)
theorem nx_t (hj : j ≤ 1048570) (hl : last < 256) (hL : last < 128) (W : World) : Calls Tryz.prog 13 #[.string (lngD 219 j last), .int .i64 0] W fun e w' => Keep nob W w' ∧ e = .returned (.tuple #[ER.val (flatR 5 (Bt (lngL j last))), .int .i64 ((j + 6 : Nat) : Int), fltV 0 0]) :=
  rnext_good (lngD 219 j last) 0 (flatR 5 (Bt (lngL j last))) (j + 6) (Nat.zero_le _) (size_le 219 hj) W (fun b W' hr => ritem_t b j last _ rfl (by omega) hl hL W' hr)
theorem nx_x (hj : j ≤ 1048570) (hl : last < 256) (hL : ¬ last < 128) (W : World) : Calls Tryz.prog 13 #[.string (lngD 219 j last), .int .i64 0] W fun e w' => Keep nob W w' ∧ e = .returned (.tuple #[ER.val Raw.zero, .int .i64 0, fltV 3 (j + 5)]) :=
  rnext_bad (lngD 219 j last) 0 (flatR 5 ⟨#[]⟩) 5 3 (j + 5) (by decide) (Nat.zero_le _) (size_le 219 hj) W (fun b W' hr => ritem_x b j last _ rfl (by omega) hl hL W' hr)
theorem nx_end (s : ByteArray) (hs : s.size ≤ 1048576) (W : World) : Calls Tryz.prog 13 #[.string s, .int .i64 (s.size : Int)] W fun e w' => Keep nob W w' ∧ e = .returned (.tuple #[ER.val Raw.zero, .int .i64 0, fltV 3 s.size]) :=
  rnext_bad s s.size Raw.zero s.size 3 s.size (by decide) (Nat.le_refl _) hs W (fun b W' hr => ritem_end b s hs W' hr)
theorem nx_long0 (s : ByteArray) (hs : 1048576 < s.size) (W : World) : Calls Tryz.prog 13 #[.string s, .int .i64 0] W fun e w' => Keep nob W w' ∧ e = .returned (.tuple #[ER.val Raw.zero, .int .i64 0, fltV 5 1048576]) := rnext_long s 0 (Nat.zero_le _) hs W
/-- the three calls, of each document -/
theorem call_reads (text : Bool) (hj : j < 2000000) (hl : last < 256) (g : GL B sa w) (hB : B ≤ b) (h : ST w W b k) (hk : k ≤ 900) :
    Calls Tryz.prog 5 #[.pointer (some ⟨b, 0, none⟩), .string (lngD (if text then 219 else 198) j last)] W fun e w' => e = .returned (.bool true) ∧ ST w w' b (k + 2) := by
  have hrd := long_read text j last (by omega) hl
  by_cases hs : 1048570 < j
  · have hz : 1048576 < (lngD (if text then 219 else 198) j last).size := by rw [lngD_size]; omega
    refine st_reads_bad 5 1048576 (.inr rfl) (by unfold readT; rw [if_pos hz]) (fun W' => ?_) g hB h hk
    exact rread_bad _ Raw.zero 0 5 1048576 (by decide) W' (fun W2 => nx_long0 _ hz W2)
  · have hz : (lngD (if text then 219 else 198) j last).size ≤ 1048576 := by rw [lngD_size]; omega
    have hT : readT (lngD (if text then 219 else 198) j last) = lngR text j last := by unfold readT; rw [if_neg (by omega), hrd]
    cases text with
    | false => exact st_reads_good 6 (Bt (lngL j last)) (j + 6) hT (fun W' => rread_good _ _ (j + 6) (by rw [lngD_size]; exact Nat.le_refl _) W' (fun W2 => nx_b (by omega) hl W2)) g hB h hk
    | true =>
      by_cases hL : last < 128
      · have hT2 : readT (lngD 219 j last) = .ok (flatV 5 (Bt (lngL j last))) (j + 6) := hT.trans (by unfold lngR; rw [if_pos rfl, if_pos hL]; rfl)
        exact st_reads_good 5 (Bt (lngL j last)) (j + 6) hT2 (fun W' => rread_good _ _ (j + 6) (by rw [lngD_size]; exact Nat.le_refl _) W' (fun W2 => nx_t (by omega) hl hL W2)) g hB h hk
      · have hT2 : readT (lngD 219 j last) = .bad 3 (j + 5) := hT.trans (by unfold lngR; rw [if_pos rfl, if_neg hL])
        exact st_reads_bad 3 (j + 5) (.inl rfl) hT2 (fun W' => rread_bad _ Raw.zero 0 3 (j + 5) (by decide) W' (fun W2 => nx_x (by omega) hl hL W2)) g hB h hk
theorem call_next0 (text : Bool) (hj : j < 2000000) (hl : last < 256) (g : GL B sa w) (hB : B ≤ b) (h : ST w W b k) (hk : k ≤ 900) :
    Calls Tryz.prog 6 #[.pointer (some ⟨b, 0, none⟩), .string (lngD (if text then 219 else 198) j last), .int .i64 0] W fun e w' => e = .returned (.bool true) ∧ ST w w' b (k + 2) := by
  have hrd := long_next text j last (by omega) hl
  by_cases hs : 1048570 < j
  · exact st_nexts_long 0 (Nat.zero_le _) (by rw [lngD_size]; omega) g hB h hk
  · have hz : (lngD (if text then 219 else 198) j last).size ≤ 1048576 := by rw [lngD_size]; omega
    cases text with
    | false => exact st_nexts_good 0 6 (Bt (lngL j last)) (j + 6) (Nat.zero_le _) hz hrd (fun W2 => nx_b (by omega) hl W2) g hB h hk
    | true =>
      by_cases hL : last < 128
      · have hT2 : itemN Wd (lngD 219 j last) 128 0 = .ok (flatV 5 (Bt (lngL j last))) (j + 6) := hrd.trans (by unfold lngR; rw [if_pos rfl, if_pos hL]; rfl)
        exact st_nexts_good 0 5 (Bt (lngL j last)) (j + 6) (Nat.zero_le _) hz hT2 (fun W2 => nx_t (by omega) hl hL W2) g hB h hk
      · have hT2 : itemN Wd (lngD 219 j last) 128 0 = .bad 3 (j + 5) := hrd.trans (by unfold lngR; rw [if_pos rfl, if_neg hL])
        exact st_nexts_bad 0 3 (j + 5) (.inl rfl) (Nat.zero_le _) hz hT2 (fun W2 => nx_x (by omega) hl hL W2) g hB h hk
theorem call_next1 (text : Bool) (m : Nat) (hm : j + 6 = m) (g : GL B sa w) (hB : B ≤ b) (h : ST w W b k) (hk : k ≤ 900) :
    Calls Tryz.prog 6 #[.pointer (some ⟨b, 0, none⟩), .string (lngD (if text then 219 else 198) j last), .int .i64 (m : Int)] W fun e w' => e = .returned (.bool true) ∧ ST w w' b (k + 2) := by
  have hz : (lngD (if text then 219 else 198) j last).size = m := by rw [lngD_size]; exact hm
  by_cases hs : 1048576 < m
  · exact st_nexts_long m (by omega) (by omega) g hB h hk
  · have h1 := end_item (lngD (if text then 219 else 198) j last) 128
    have h2 := fun W2 => nx_end (lngD (if text then 219 else 198) j last) (by omega) W2
    rw [hz] at h1 h2
    exact st_nexts_bad m 3 m (.inl rfl) (by omega) (by omega) h1 h2 g hB h hk
end
end Go.Proofs.YtiemkfibpfndaaaGreatDoor

/- PackreadLong: the walk of the law. -/
namespace Go.Proofs.YtiemkfibpfndaaaGreatDoor
open Go.RowKit

theorem ebw_cell {w : World} {b c i x : Nat} {xs : List Nat} (h : Ow EB w (some ⟨b, 0, none⟩) c xs) (hi : i < xs.length) (hx : xs.getD i 0 = x) : w.cell? ⟨b, i, none⟩ = some (.int .u8 (x : Int)) := by
  obtain ⟨b1, o1, e1, hr⟩ := h.sl.elem (i := i) hi
  simp only [Option.some.injEq, Addr.mk.injEq, and_true] at e1
  obtain ⟨rfl, rfl⟩ := e1
  have h1 := hr 0 _ rfl
  simp only [EB, Nat.add_zero, Nat.mul_one, Nat.zero_add] at h1
  rw [h1, show xs[i] = x by rw [← hx, List.getD_eq_getElem?_getD, List.getElem?_eq_getElem hi]; rfl]
theorem ebw_free {w : World} {b c i : Nat} {xs : List Nat} (h : Ow EB w (some ⟨b, 0, none⟩) c xs) (hi : i < xs.length) : w.frozen? ⟨b, i, none⟩ = false := by
  have hle := h.sl.le
  obtain ⟨b', o', e', ht⟩ := h.room (by omega)
  simp only [Option.some.injEq, Addr.mk.injEq, and_true] at e'
  obtain ⟨rfl, rfl⟩ := e'
  have := (ht i (by simp only [EB]; omega)).2
  rwa [Nat.zero_add] at this
theorem ebw_put {w : World} {b c i : Nat} {xs : List Nat} (h : Ow EB w (some ⟨b, 0, none⟩) c xs) (hi : i < xs.length) (x : Nat) : Ow EB (w.setCell ⟨b, i, none⟩ (.int .u8 (x : Int))) (some ⟨b, 0, none⟩) c (xs.set i x) := by
  have := h.put hi x
  rwa [show w.setCells b (0 + i * EB.sz) (EB.cells x) = w.setCell ⟨b, i, none⟩ (.int .u8 (x : Int)) by simp [EB, World.setCells]] at this
/-- one byte stored -/
theorem eb_step {w w1 : World} {b c i m x : Nat} {xs : List Nat} (h : Ow EB w (some ⟨b, 0, none⟩) c xs) (hl : xs.length = m) (hi : i < m) : (∃ v, w.cell? ⟨b, i, none⟩ = some v) ∧ w.frozen? ⟨b, i, none⟩ = false ∧ (w.setCell ⟨b, i, none⟩ (.int .u8 (x : Int)) = w1 → Ow EB w1 (some ⟨b, 0, none⟩) c (xs.set i x) ∧ (xs.set i x).length = m ∧ Keep (· = b) w w1) :=
  ⟨⟨_, ebw_cell h (by omega) rfl⟩, ebw_free h (by omega), fun e => by subst e; exact ⟨ebw_put h (by omega) x, by rw [List.length_set]; exact hl, (Keep.refl (· = b) w).setCell (fun _ => rfl) _⟩⟩
set_option maxRecDepth 100000 in
theorem round4_ok (n : Int) (w : World) : Calls Tryz.prog 4 #[.int .i64 n, .int .i64 4] w fun e w' => (∃ t : Nat, t < 4 ∧ e = .returned (.int .i64 (t : Int))) ∧ w' = w := by
  obtain ⟨i, HI⟩ : ∃ i : Int, Hid (Int.tmod n 4 = i) := ⟨_, Lib.hid rfl⟩
  have i1 : Int.tmod n 4 = i := HI.out
  have hb : -4 < i ∧ i < 4 := by
    rw [← HI.out]
    have h3 := Int.tmod_lt_of_pos n (show (0 : Int) < 4 by decide)
    have h4 := Int.tmod_lt_of_pos (-n) (show (0 : Int) < 4 by decide)
    rw [Int.neg_tmod] at h4
    omega
  have i2 : IntKind.i64.wrap i = i := by rw [IntWalk.i64_left, IntWalk.wrap64_in _ ⟨by omega, by omega⟩]
  by_cases hn : i < 0
  · have d1 : decide (i < 0) = true := by rw [decide_eq_true_iff]; exact hn
    obtain ⟨t, ht⟩ : ∃ t : Nat, i + 4 = (t : Int) := Int.eq_ofNat_of_zero_le (by omega)
    have i3 : IntKind.i64.wrap (t : Int) = (t : Int) := by rw [IntWalk.i64_left, IntWalk.wrap64_in _ ⟨by omega, by omega⟩]
    have HB : Hid (t < 4) := Lib.hid (by omega)
    clear hb hn
    go_enter Tryz.func4, Tryz.ntmps4
    go_wp2
    go_ret
    exact ⟨⟨t, HB.out, rfl⟩, rfl⟩
  · have d1 : decide (i < 0) = false := by rw [decide_eq_false_iff_not]; exact hn
    obtain ⟨t, rfl⟩ := Int.eq_ofNat_of_zero_le (Int.not_lt.1 hn)
    have HB : Hid (t < 4) := Lib.hid (by omega)
    clear hb hn
    go_enter Tryz.func4, Tryz.ntmps4
    go_wp2
    go_ret
    exact ⟨⟨t, HB.out, rfl⟩, rfl⟩
theorem bk_new (w : World) (T : TypeId) (cs : Array Value) (h0 : cs[0]? = some (.int .i64 0)) (h1 : cs[1]? = some (.slice none 0 0)) (h2 : cs[2]? = some (.slice none 0 0)) : BK (w.alloc (.cells cs T)) w.heap.size 0 (fun x => w.heap.size ≤ x) := by
  refine ⟨⟨0, none, none, 0, 0, [], [], by simpa using h0, by simpa using h1, by simpa using h2, ⟨Sl.nil_ EH _ none (Nat.zero_le _), fun h => absurd h (by decide)⟩, ⟨Sl.nil_ EH _ none (Nat.zero_le _), fun h => absurd h (by decide)⟩, Nat.le_refl _, Nat.le_refl _, (fun a h => by cases h), (fun a h => by cases h), (fun a a' h => by cases h)⟩, (fun i hi => by simp), Nat.le_refl _⟩
set_option maxRecDepth 100000 in
set_option maxHeartbeats 2000000 in
theorem lawL_b (n : Int) (last : Nat) (hl : last < 256) (B : Nat) (sa : Nat → Addr) (w : World) (g : GL B sa w) : Calls Tryz.prog 3 #[.bool false, .int .i64 n, .int .u8 (last : Int)] w fun e w' => e = .returned (.bool true) ∧ Keep nob w w' := by
  have HRO := Lib.hid (round4_ok n w)
  have HG := Lib.hid g
  have HL := Lib.hid hl
  have HRS := Lib.hid (fun (b k B j : Nat) (W0 W : World) (g : GL B sa W0) (hB : B ≤ b) (hj : j < 2000000) (h : ST W0 W b k) (hk : k ≤ 900) => call_reads false hj hl g hB h hk)
  have HN0 := Lib.hid (fun (b k B j : Nat) (W0 W : World) (g : GL B sa W0) (hB : B ≤ b) (hj : j < 2000000) (h : ST W0 W b k) (hk : k ≤ 900) => call_next0 false hj hl g hB h hk)
  have HN1 := Lib.hid (fun (b k B j m : Nat) (W0 W : World) (g : GL B sa W0) (hB : B ≤ b) (hm : j + 6 = m) (h : ST W0 W b k) (hk : k ≤ 900) => call_next1 (last := last) false m hm g hB h hk)
  simp only [Bool.false_eq_true, if_false] at HRS HN0 HN1
  clear g hl
  go_enter Tryz.func3, Tryz.ntmps3
  go_upto_region 2 with (go_at_call 4; go_must (refine HRO.out.mono ?_); rintro e w1 ⟨⟨t, ht, rfl⟩, rfl⟩; have HTT := Lib.hid ht; obtain ⟨k, HK⟩ : ∃ k, Hid (1048570 + t = k) := ⟨_, Lib.hid rfl⟩; have hkk := HK.out; have i1' : 1048570 + (t : Int) = (k : Int) := (by omega); have i1 : IntKind.i64.wrap (k : Int) = (k : Int) := (by rw [IntWalk.i64_left, IntWalk.wrap64_in _ ⟨by omega, by omega⟩]); clear ht hkk)
  have hk := HK.out
  have ht := HTT.out
  obtain ⟨j, HJ⟩ : ∃ j, Hid (1048569 + t = j) := ⟨_, Lib.hid rfl⟩
  have hj := HJ.out
  obtain ⟨m, HM⟩ : ∃ m, Hid (j + 6 = m) := ⟨_, Lib.hid rfl⟩
  have hm := HM.out
  obtain ⟨q, HQ⟩ : ∃ q, Hid (j + 5 = q) := ⟨_, Lib.hid rfl⟩
  have hq := HQ.out
  have i2' : 5 + (k : Int) = (m : Int) := by omega
  have i2 : IntKind.i64.wrap (m : Int) = (m : Int) := by rw [IntWalk.i64_left, IntWalk.wrap64_in _ ⟨by omega, by omega⟩]
  have i3' : 4 + (k : Int) = (q : Int) := by omega
  have i3 : IntKind.i64.wrap (q : Int) = (q : Int) := by rw [IntWalk.i64_left, IntWalk.wrap64_in _ ⟨by omega, by omega⟩]
  obtain ⟨y3, HY3⟩ : ∃ y, Hid (k / 16777216 = y) := ⟨_, Lib.hid rfl⟩
  have a3 : (k : Int) / 16777216 = (y3 : Int) := by rw [← HY3.out]; omega
  obtain ⟨x3, HX3⟩ : ∃ x, Hid (y3 % 256 = x) := ⟨_, Lib.hid rfl⟩
  have b3 : IntKind.u8.wrap (y3 : Int) = (x3 : Int) := by rw [IntKind.wrap_u8, ← HX3.out]; omega
  obtain ⟨y2, HY2⟩ : ∃ y, Hid (k / 65536 = y) := ⟨_, Lib.hid rfl⟩
  have a2 : (k : Int) / 65536 = (y2 : Int) := by rw [← HY2.out]; omega
  obtain ⟨x2, HX2⟩ : ∃ x, Hid (y2 % 256 = x) := ⟨_, Lib.hid rfl⟩
  have b2 : IntKind.u8.wrap (y2 : Int) = (x2 : Int) := by rw [IntKind.wrap_u8, ← HX2.out]; omega
  obtain ⟨y1, HY1⟩ : ∃ y, Hid (k / 256 = y) := ⟨_, Lib.hid rfl⟩
  have a1 : (k : Int) / 256 = (y1 : Int) := by rw [← HY1.out]; omega
  obtain ⟨x1, HX1⟩ : ∃ x, Hid (y1 % 256 = x) := ⟨_, Lib.hid rfl⟩
  have b1 : IntKind.u8.wrap (y1 : Int) = (x1 : Int) := by rw [IntKind.wrap_u8, ← HX1.out]; omega
  obtain ⟨x0, HX0⟩ : ∃ x, Hid (k % 256 = x) := ⟨_, Lib.hid rfl⟩
  have b0 : IntKind.u8.wrap (k : Int) = (x0 : Int) := by rw [IntKind.wrap_u8, ← HX0.out]; omega
  have hm6 : m ≤ 2000000 := by omega
  have hm4 : 5 < m := by omega
  have hqm : q < m := by omega
  have hj2 : j < 2000000 := by omega
  have HJ2 := Lib.hid hj2
  have HKJ : Hid (k = j + 1) := Lib.hid (by omega)
  have HQM := Lib.hid hqm
  have HM4 := Lib.hid hm4
  have m0 : (0 : Int) < (m : Int) := by omega
  have m1 : (1 : Int) < (m : Int) := by omega
  have m2 : (2 : Int) < (m : Int) := by omega
  have m3 : (3 : Int) < (m : Int) := by omega
  have m4 : (4 : Int) < (m : Int) := by omega
  have q0 : (0 : Int) ≤ (q : Int) := by omega
  have qm : (q : Int) < (m : Int) := by omega
  clear hk ht hj hm hq hqm hm4 hj2
  go_upto_region 6 with (at_make; refine wpList_make_E EB rfl _ _ 23 rfl 5 _ 1 Tryz.underlying23 infoByte m m _ _ rfl rfl rfl rfl (Nat.le_refl _) (by omega) (by omega) ?_; intro w3 HW3)
  obtain ⟨bl, HBL⟩ : ∃ b, Hid (w1.heap.size = b) := ⟨_, Lib.hid rfl⟩
  have HO3 : Hid (Ow EB w3 (some ⟨bl, 0, none⟩) m (List.replicate m (0 : Nat))) := by rw [← HBL.out, HW3.out]; exact ow_made EB w1 5 (.int .u8 0) 0 rfl m m (Nat.le_refl _) (by omega)
  have HK3 : Hid (Keep nob w1 w3) := by rw [HW3.out]; exact (Keep.refl _ w1).alloc _
  have HBZ : Hid (bl < w3.heap.size) := by
    obtain ⟨b', o', e', hlt⟩ := HO3.out.lt (by omega)
    simp only [Option.some.injEq, Addr.mk.injEq, and_true] at e'
    obtain ⟨rfl, rfl⟩ := e'
    exact hlt
  have HL3 : Hid ((List.replicate m (0 : Nat)).length = m) := Lib.hid (List.length_replicate ..)
  clear HW3
  rw [HBL.out]
  obtain ⟨⟨v0, cc0⟩, ff0, -⟩ := eb_step (w1 := w1) (x := 0) (i := 0) HO3.out HL3.out (by have := HM4.out; omega)
  go_upto_region 7 with (fail)
  obtain ⟨ws0, HWs0⟩ : ∃ z, Hid (w3.setCell ⟨bl, 0, none⟩ (.int .u8 198) = z) := ⟨_, Lib.hid rfl⟩
  obtain ⟨HOs0, HLs0, HKs0⟩ := (eb_step (w1 := ws0) (x := 198) (i := 0) HO3.out HL3.out (by have := HM4.out; omega)).2.2 HWs0.out
  have HOs0 := Lib.hid HOs0
  have HLs0 := Lib.hid HLs0
  have HKs0 := Lib.hid HKs0
  rw [HWs0.out]
  clear cc0 ff0
  obtain ⟨⟨v1, cc1⟩, ff1, -⟩ := eb_step (w1 := w1) (x := 0) (i := 1) HOs0.out HLs0.out (by have := HM4.out; omega)
  go_upto_region 8 with (fail)
  obtain ⟨ws1, HWs1⟩ : ∃ z, Hid (ws0.setCell ⟨bl, 1, none⟩ (.int .u8 (x3 : Int)) = z) := ⟨_, Lib.hid rfl⟩
  obtain ⟨HOs1, HLs1, HKs1⟩ := (eb_step (w1 := ws1) (x := x3) (i := 1) HOs0.out HLs0.out (by have := HM4.out; omega)).2.2 HWs1.out
  have HOs1 := Lib.hid HOs1
  have HLs1 := Lib.hid HLs1
  have HKs1 := Lib.hid HKs1
  rw [HWs1.out]
  clear cc1 ff1
  obtain ⟨⟨v2, cc2⟩, ff2, -⟩ := eb_step (w1 := w1) (x := 0) (i := 2) HOs1.out HLs1.out (by have := HM4.out; omega)
  go_upto_region 9 with (fail)
  obtain ⟨ws2, HWs2⟩ : ∃ z, Hid (ws1.setCell ⟨bl, 2, none⟩ (.int .u8 (x2 : Int)) = z) := ⟨_, Lib.hid rfl⟩
  obtain ⟨HOs2, HLs2, HKs2⟩ := (eb_step (w1 := ws2) (x := x2) (i := 2) HOs1.out HLs1.out (by have := HM4.out; omega)).2.2 HWs2.out
  have HOs2 := Lib.hid HOs2
  have HLs2 := Lib.hid HLs2
  have HKs2 := Lib.hid HKs2
  rw [HWs2.out]
  clear cc2 ff2
  obtain ⟨⟨v3, cc3⟩, ff3, -⟩ := eb_step (w1 := w1) (x := 0) (i := 3) HOs2.out HLs2.out (by have := HM4.out; omega)
  go_upto_region 10 with (fail)
  obtain ⟨ws3, HWs3⟩ : ∃ z, Hid (ws2.setCell ⟨bl, 3, none⟩ (.int .u8 (x1 : Int)) = z) := ⟨_, Lib.hid rfl⟩
  obtain ⟨HOs3, HLs3, HKs3⟩ := (eb_step (w1 := ws3) (x := x1) (i := 3) HOs2.out HLs2.out (by have := HM4.out; omega)).2.2 HWs3.out
  have HOs3 := Lib.hid HOs3
  have HLs3 := Lib.hid HLs3
  have HKs3 := Lib.hid HKs3
  rw [HWs3.out]
  clear cc3 ff3
  obtain ⟨⟨v4, cc4⟩, ff4, -⟩ := eb_step (w1 := w1) (x := 0) (i := 4) HOs3.out HLs3.out (by have := HM4.out; omega)
  go_upto_region 11 with (fail)
  obtain ⟨ws4, HWs4⟩ : ∃ z, Hid (ws3.setCell ⟨bl, 4, none⟩ (.int .u8 (x0 : Int)) = z) := ⟨_, Lib.hid rfl⟩
  obtain ⟨HOs4, HLs4, HKs4⟩ := (eb_step (w1 := ws4) (x := x0) (i := 4) HOs3.out HLs3.out (by have := HM4.out; omega)).2.2 HWs4.out
  have HOs4 := Lib.hid HOs4
  have HLs4 := Lib.hid HLs4
  have HKs4 := Lib.hid HKs4
  rw [HWs4.out]
  clear cc4 ff4
  obtain ⟨⟨v5, cc5⟩, ff5, -⟩ := eb_step (w1 := w1) (x := 0) (i := q) HOs4.out HLs4.out (by exact HQM.out)
  go_upto_region 12 with (fail)
  obtain ⟨ws5, HWs5⟩ : ∃ z, Hid (ws4.setCell ⟨bl, q, none⟩ (.int .u8 (last : Int)) = z) := ⟨_, Lib.hid rfl⟩
  obtain ⟨HOs5, HLs5, HKs5⟩ := (eb_step (w1 := ws5) (x := last) (i := q) HOs4.out HLs4.out (by exact HQM.out)).2.2 HWs5.out
  have HOs5 := Lib.hid HOs5
  have HLs5 := Lib.hid HLs5
  have HKs5 := Lib.hid HKs5
  rw [HWs5.out]
  clear cc5 ff5
  have HLIST : Hid (Ow EB ws5 (some ⟨bl, 0, none⟩) m (198 :: x3 :: x2 :: x1 :: x0 :: lngL j last)) := by
    have h1 := HOs5.out
    rw [← HM.out, ← HQ.out, long_stores] at h1
    rw [← HM.out]
    exact Lib.hid h1
  have HBT : Hid (Bt (198 :: x3 :: x2 :: x1 :: x0 :: lngL j last) = lngD 198 j last) := by
    have h1 := long_bytes 198 j last
    rw [← HKJ.out, HY3.out, HY2.out, HY1.out, HX3.out, HX2.out, HX1.out, HX0.out] at h1
    exact Lib.hid h1
  have HLEN : Hid ((198 :: x3 :: x2 :: x1 :: x0 :: lngL j last).length = m) := Lib.hid (by have h1 := HM.out; simp only [List.length_cons, lngL_len]; omega)
  have HB8 : Hid (B8 (198 :: x3 :: x2 :: x1 :: x0 :: lngL j last)) := by
    have e3 := HX3.out
    have e2 := HX2.out
    have e1 := HX1.out
    have e0 := HX0.out
    exact Lib.hid (B8.cons (by decide) (B8.cons (by omega) (B8.cons (by omega) (B8.cons (by omega) (B8.cons (by omega) (lngL_8 HL.out))))))
  obtain ⟨D, HD⟩ : ∃ D, Hid (lngD 198 j last = D) := ⟨_, Lib.hid rfl⟩
  have HCV : Hid (∀ W, Sl EB W (some ⟨bl, 0, none⟩) m (198 :: x3 :: x2 :: x1 :: x0 :: lngL j last) → (convert 23 9 (.slice (some ⟨bl, 0, none⟩) m m)).run Tryz.prog W = .ok (.string D) W) := Lib.hid (fun W hs => by rw [← HD.out, ← HBT.out]; exact str_conv hs HLEN.out HB8.out (by simp))
  have hzA := HK3.out.size
  have hzB := HKs0.out.size
  have hzC := HKs1.out.size
  have hzD := HKs2.out.size
  have hzE := HKs3.out.size
  have hzF := HKs4.out.size
  have hzG := HKs5.out.size
  have HKA : Hid (Keep (· = bl) w3 ws5) := Lib.hid (((((HKs0.out.then_ HKs1.out).then_ HKs2.out).then_ HKs3.out).then_ HKs4.out).then_ HKs5.out)
  have HKB : Hid (Keep nob w1 ws5) := Lib.hid (HK3.out.trans HKA.out (fun x h1 h2 => by have := HBL.out; omega))
  go_upto_region 13 with (fail)
  obtain ⟨w4, HW4⟩ : ∃ z, Hid (ws5.alloc (.cells #[.int .i64 0, .slice none 0 0, .slice none 0 0, .slice none 0 0, .slice none 0 0, .slice none 0 0, .slice none 0 0, .slice none 0 0, .slice none 0 0, .slice none 0 0, .slice none 0 0, .slice none 0 0, .slice none 0 0, .slice none 0 0, .slice none 0 0] 40) = z) := ⟨_, Lib.hid rfl⟩
  obtain ⟨b, HB⟩ : ∃ b, Hid (ws5.heap.size = b) := ⟨_, Lib.hid rfl⟩
  have HK4 : Hid (Keep nob ws5 w4) := by unfold Hid; rw [← HW4.out]; exact (Keep.refl _ _).alloc _
  have HBK : Hid (BK w4 b 0 (fun x => b ≤ x)) := by unfold Hid; rw [← HW4.out, ← HB.out]; exact bk_new ws5 _ _ rfl rfl rfl
  rw [HW4.out, HB.out]
  have HST : Hid (ST w4 w4 b 0) := Lib.hid ⟨Keep.refl _ _, HBK.out⟩
  have HG4 := Lib.hid (HG.out.keep (HKB.out.then_ HK4.out) (fun _ h => h.elim))
  have HBB : Hid (B ≤ b) := Lib.hid (by have h1 := HG.out.le; have h2 := HB.out; have h3 := HKB.out.size; omega)
  have HLB : Hid (bl < b) := Lib.hid (by have h2 := HB.out; have h1 := HBZ.out; omega)
  have HS4 : Hid (∀ W, Keep (fun x => b ≤ x) w4 W → Sl EB W (some ⟨bl, 0, none⟩) m (198 :: x3 :: x2 :: x1 :: x0 :: lngL j last)) := Lib.hid (fun W hk => (HLIST.out.sl.keep HK4.out (fun ⟨_, _, h⟩ => h)).keep hk (fun ⟨a, ha, hx⟩ => by
    cases ha
    have h1 := HLB.out
    have h2 : b ≤ bl := hx
    omega))
  clear hzA hzB hzC hzD hzE hzF hzG a1 a2 a3 b0 b1 b2 b3
  have HE1 := Lib.hid (fun (W : World) (k : Nat) (h : ST w4 W b k) (hk : k ≤ 900) => HRS.out b k B j w4 W HG4.out HBB.out HJ2.out h hk)
  have HE2 := Lib.hid (fun (W : World) (k : Nat) (h : ST w4 W b k) (hk : k ≤ 900) => HN0.out b k B j w4 W HG4.out HBB.out HJ2.out h hk)
  have HE3 := Lib.hid (fun (W : World) (k : Nat) (h : ST w4 W b k) (hk : k ≤ 900) => HN1.out b k B j m w4 W HG4.out HBB.out HM.out h hk)
  rw [HD.out] at HE1 HE2 HE3
  have HLV : Hid (∀ W, Keep (fun x => b ≤ x) w4 W → Calls Tryz.prog 7 #[] W fun e w' => e = .returned (.bool true) ∧ Keep nob W w') := Lib.hid (fun W hk => lives_ok B sa W (HG4.out.keep hk (fun _ h => Nat.le_trans HBB.out h)))
  have cv := HCV.out w4 (HS4.out w4 (Keep.refl _ _))
  go_wp2_with (first | (go_at_call 5; go_must (refine (HE1.out w4 0 HST.out (by decide)).mono ?_); rintro e w5 ⟨rfl, st5⟩; have ST5 := Lib.hid st5; have cv := HCV.out w5 (HS4.out w5 st5.keep); clear st5) | (go_at_call 6; (with_reducible refine (HE2.out _ 2 ST5.out (by decide)).mono ?_); rintro e w6 ⟨rfl, st6⟩; have ST6 := Lib.hid st6; have cv := HCV.out w6 (HS4.out w6 st6.keep); clear st6) | (go_at_call 6; (with_reducible refine (HE3.out _ 4 ST6.out (by decide)).mono ?_); rintro e w7 ⟨rfl, st7⟩; have ST7 := Lib.hid st7; clear st7) | (go_at_call 7; go_must (refine (HLV.out _ ST7.out.keep).mono ?_); rintro e w8 ⟨rfl, hk8⟩))
  go_ret
  have h1 := HB.out
  have h2 := HKB.out.size
  exact ⟨rfl, ((HKB.out.then_ HK4.out).trans ST7.out.keep (fun x h3 h4 => by omega)).then_ hk8⟩
set_option maxRecDepth 100000 in
set_option maxHeartbeats 2000000 in
theorem lawL_t (n : Int) (last : Nat) (hl : last < 256) (B : Nat) (sa : Nat → Addr) (w : World) (g : GL B sa w) : Calls Tryz.prog 3 #[.bool true, .int .i64 n, .int .u8 (last : Int)] w fun e w' => e = .returned (.bool true) ∧ Keep nob w w' := by
  have HRO := Lib.hid (round4_ok n w)
  have HG := Lib.hid g
  have HL := Lib.hid hl
  have HRS := Lib.hid (fun (b k B j : Nat) (W0 W : World) (g : GL B sa W0) (hB : B ≤ b) (hj : j < 2000000) (h : ST W0 W b k) (hk : k ≤ 900) => call_reads true hj hl g hB h hk)
  have HN0 := Lib.hid (fun (b k B j : Nat) (W0 W : World) (g : GL B sa W0) (hB : B ≤ b) (hj : j < 2000000) (h : ST W0 W b k) (hk : k ≤ 900) => call_next0 true hj hl g hB h hk)
  have HN1 := Lib.hid (fun (b k B j m : Nat) (W0 W : World) (g : GL B sa W0) (hB : B ≤ b) (hm : j + 6 = m) (h : ST W0 W b k) (hk : k ≤ 900) => call_next1 (last := last) true m hm g hB h hk)
  simp only [if_true] at HRS HN0 HN1
  clear g hl
  go_enter Tryz.func3, Tryz.ntmps3
  go_upto_region 2 with (go_at_call 4; go_must (refine HRO.out.mono ?_); rintro e w1 ⟨⟨t, ht, rfl⟩, rfl⟩; have HTT := Lib.hid ht; obtain ⟨k, HK⟩ : ∃ k, Hid (1048570 + t = k) := ⟨_, Lib.hid rfl⟩; have hkk := HK.out; have i1' : 1048570 + (t : Int) = (k : Int) := (by omega); have i1 : IntKind.i64.wrap (k : Int) = (k : Int) := (by rw [IntWalk.i64_left, IntWalk.wrap64_in _ ⟨by omega, by omega⟩]); clear ht hkk)
  have hk := HK.out
  have ht := HTT.out
  obtain ⟨j, HJ⟩ : ∃ j, Hid (1048569 + t = j) := ⟨_, Lib.hid rfl⟩
  have hj := HJ.out
  obtain ⟨m, HM⟩ : ∃ m, Hid (j + 6 = m) := ⟨_, Lib.hid rfl⟩
  have hm := HM.out
  obtain ⟨q, HQ⟩ : ∃ q, Hid (j + 5 = q) := ⟨_, Lib.hid rfl⟩
  have hq := HQ.out
  have i2' : 5 + (k : Int) = (m : Int) := by omega
  have i2 : IntKind.i64.wrap (m : Int) = (m : Int) := by rw [IntWalk.i64_left, IntWalk.wrap64_in _ ⟨by omega, by omega⟩]
  have i3' : 4 + (k : Int) = (q : Int) := by omega
  have i3 : IntKind.i64.wrap (q : Int) = (q : Int) := by rw [IntWalk.i64_left, IntWalk.wrap64_in _ ⟨by omega, by omega⟩]
  obtain ⟨y3, HY3⟩ : ∃ y, Hid (k / 16777216 = y) := ⟨_, Lib.hid rfl⟩
  have a3 : (k : Int) / 16777216 = (y3 : Int) := by rw [← HY3.out]; omega
  obtain ⟨x3, HX3⟩ : ∃ x, Hid (y3 % 256 = x) := ⟨_, Lib.hid rfl⟩
  have b3 : IntKind.u8.wrap (y3 : Int) = (x3 : Int) := by rw [IntKind.wrap_u8, ← HX3.out]; omega
  obtain ⟨y2, HY2⟩ : ∃ y, Hid (k / 65536 = y) := ⟨_, Lib.hid rfl⟩
  have a2 : (k : Int) / 65536 = (y2 : Int) := by rw [← HY2.out]; omega
  obtain ⟨x2, HX2⟩ : ∃ x, Hid (y2 % 256 = x) := ⟨_, Lib.hid rfl⟩
  have b2 : IntKind.u8.wrap (y2 : Int) = (x2 : Int) := by rw [IntKind.wrap_u8, ← HX2.out]; omega
  obtain ⟨y1, HY1⟩ : ∃ y, Hid (k / 256 = y) := ⟨_, Lib.hid rfl⟩
  have a1 : (k : Int) / 256 = (y1 : Int) := by rw [← HY1.out]; omega
  obtain ⟨x1, HX1⟩ : ∃ x, Hid (y1 % 256 = x) := ⟨_, Lib.hid rfl⟩
  have b1 : IntKind.u8.wrap (y1 : Int) = (x1 : Int) := by rw [IntKind.wrap_u8, ← HX1.out]; omega
  obtain ⟨x0, HX0⟩ : ∃ x, Hid (k % 256 = x) := ⟨_, Lib.hid rfl⟩
  have b0 : IntKind.u8.wrap (k : Int) = (x0 : Int) := by rw [IntKind.wrap_u8, ← HX0.out]; omega
  have hm6 : m ≤ 2000000 := by omega
  have hm4 : 5 < m := by omega
  have hqm : q < m := by omega
  have hj2 : j < 2000000 := by omega
  have HJ2 := Lib.hid hj2
  have HKJ : Hid (k = j + 1) := Lib.hid (by omega)
  have HQM := Lib.hid hqm
  have HM4 := Lib.hid hm4
  have m0 : (0 : Int) < (m : Int) := by omega
  have m1 : (1 : Int) < (m : Int) := by omega
  have m2 : (2 : Int) < (m : Int) := by omega
  have m3 : (3 : Int) < (m : Int) := by omega
  have m4 : (4 : Int) < (m : Int) := by omega
  have q0 : (0 : Int) ≤ (q : Int) := by omega
  have qm : (q : Int) < (m : Int) := by omega
  clear hk ht hj hm hq hqm hm4 hj2
  go_upto_region 6 with (at_make; refine wpList_make_E EB rfl _ _ 23 rfl 5 _ 1 Tryz.underlying23 infoByte m m _ _ rfl rfl rfl rfl (Nat.le_refl _) (by omega) (by omega) ?_; intro w3 HW3)
  obtain ⟨bl, HBL⟩ : ∃ b, Hid (w1.heap.size = b) := ⟨_, Lib.hid rfl⟩
  have HO3 : Hid (Ow EB w3 (some ⟨bl, 0, none⟩) m (List.replicate m (0 : Nat))) := by rw [← HBL.out, HW3.out]; exact ow_made EB w1 5 (.int .u8 0) 0 rfl m m (Nat.le_refl _) (by omega)
  have HK3 : Hid (Keep nob w1 w3) := by rw [HW3.out]; exact (Keep.refl _ w1).alloc _
  have HBZ : Hid (bl < w3.heap.size) := by
    obtain ⟨b', o', e', hlt⟩ := HO3.out.lt (by omega)
    simp only [Option.some.injEq, Addr.mk.injEq, and_true] at e'
    obtain ⟨rfl, rfl⟩ := e'
    exact hlt
  have HL3 : Hid ((List.replicate m (0 : Nat)).length = m) := Lib.hid (List.length_replicate ..)
  clear HW3
  rw [HBL.out]
  obtain ⟨⟨v0, cc0⟩, ff0, -⟩ := eb_step (w1 := w1) (x := 0) (i := 0) HO3.out HL3.out (by have := HM4.out; omega)
  go_upto_region 7 with (fail)
  obtain ⟨ws0, HWs0⟩ : ∃ z, Hid (w3.setCell ⟨bl, 0, none⟩ (.int .u8 219) = z) := ⟨_, Lib.hid rfl⟩
  obtain ⟨HOs0, HLs0, HKs0⟩ := (eb_step (w1 := ws0) (x := 219) (i := 0) HO3.out HL3.out (by have := HM4.out; omega)).2.2 HWs0.out
  have HOs0 := Lib.hid HOs0
  have HLs0 := Lib.hid HLs0
  have HKs0 := Lib.hid HKs0
  rw [HWs0.out]
  clear cc0 ff0
  obtain ⟨⟨v1, cc1⟩, ff1, -⟩ := eb_step (w1 := w1) (x := 0) (i := 1) HOs0.out HLs0.out (by have := HM4.out; omega)
  go_upto_region 8 with (fail)
  obtain ⟨ws1, HWs1⟩ : ∃ z, Hid (ws0.setCell ⟨bl, 1, none⟩ (.int .u8 (x3 : Int)) = z) := ⟨_, Lib.hid rfl⟩
  obtain ⟨HOs1, HLs1, HKs1⟩ := (eb_step (w1 := ws1) (x := x3) (i := 1) HOs0.out HLs0.out (by have := HM4.out; omega)).2.2 HWs1.out
  have HOs1 := Lib.hid HOs1
  have HLs1 := Lib.hid HLs1
  have HKs1 := Lib.hid HKs1
  rw [HWs1.out]
  clear cc1 ff1
  obtain ⟨⟨v2, cc2⟩, ff2, -⟩ := eb_step (w1 := w1) (x := 0) (i := 2) HOs1.out HLs1.out (by have := HM4.out; omega)
  go_upto_region 9 with (fail)
  obtain ⟨ws2, HWs2⟩ : ∃ z, Hid (ws1.setCell ⟨bl, 2, none⟩ (.int .u8 (x2 : Int)) = z) := ⟨_, Lib.hid rfl⟩
  obtain ⟨HOs2, HLs2, HKs2⟩ := (eb_step (w1 := ws2) (x := x2) (i := 2) HOs1.out HLs1.out (by have := HM4.out; omega)).2.2 HWs2.out
  have HOs2 := Lib.hid HOs2
  have HLs2 := Lib.hid HLs2
  have HKs2 := Lib.hid HKs2
  rw [HWs2.out]
  clear cc2 ff2
  obtain ⟨⟨v3, cc3⟩, ff3, -⟩ := eb_step (w1 := w1) (x := 0) (i := 3) HOs2.out HLs2.out (by have := HM4.out; omega)
  go_upto_region 10 with (fail)
  obtain ⟨ws3, HWs3⟩ : ∃ z, Hid (ws2.setCell ⟨bl, 3, none⟩ (.int .u8 (x1 : Int)) = z) := ⟨_, Lib.hid rfl⟩
  obtain ⟨HOs3, HLs3, HKs3⟩ := (eb_step (w1 := ws3) (x := x1) (i := 3) HOs2.out HLs2.out (by have := HM4.out; omega)).2.2 HWs3.out
  have HOs3 := Lib.hid HOs3
  have HLs3 := Lib.hid HLs3
  have HKs3 := Lib.hid HKs3
  rw [HWs3.out]
  clear cc3 ff3
  obtain ⟨⟨v4, cc4⟩, ff4, -⟩ := eb_step (w1 := w1) (x := 0) (i := 4) HOs3.out HLs3.out (by have := HM4.out; omega)
  go_upto_region 11 with (fail)
  obtain ⟨ws4, HWs4⟩ : ∃ z, Hid (ws3.setCell ⟨bl, 4, none⟩ (.int .u8 (x0 : Int)) = z) := ⟨_, Lib.hid rfl⟩
  obtain ⟨HOs4, HLs4, HKs4⟩ := (eb_step (w1 := ws4) (x := x0) (i := 4) HOs3.out HLs3.out (by have := HM4.out; omega)).2.2 HWs4.out
  have HOs4 := Lib.hid HOs4
  have HLs4 := Lib.hid HLs4
  have HKs4 := Lib.hid HKs4
  rw [HWs4.out]
  clear cc4 ff4
  obtain ⟨⟨v5, cc5⟩, ff5, -⟩ := eb_step (w1 := w1) (x := 0) (i := q) HOs4.out HLs4.out (by exact HQM.out)
  go_upto_region 12 with (fail)
  obtain ⟨ws5, HWs5⟩ : ∃ z, Hid (ws4.setCell ⟨bl, q, none⟩ (.int .u8 (last : Int)) = z) := ⟨_, Lib.hid rfl⟩
  obtain ⟨HOs5, HLs5, HKs5⟩ := (eb_step (w1 := ws5) (x := last) (i := q) HOs4.out HLs4.out (by exact HQM.out)).2.2 HWs5.out
  have HOs5 := Lib.hid HOs5
  have HLs5 := Lib.hid HLs5
  have HKs5 := Lib.hid HKs5
  rw [HWs5.out]
  clear cc5 ff5
  have HLIST : Hid (Ow EB ws5 (some ⟨bl, 0, none⟩) m (219 :: x3 :: x2 :: x1 :: x0 :: lngL j last)) := by
    have h1 := HOs5.out
    rw [← HM.out, ← HQ.out, long_stores] at h1
    rw [← HM.out]
    exact Lib.hid h1
  have HBT : Hid (Bt (219 :: x3 :: x2 :: x1 :: x0 :: lngL j last) = lngD 219 j last) := by
    have h1 := long_bytes 219 j last
    rw [← HKJ.out, HY3.out, HY2.out, HY1.out, HX3.out, HX2.out, HX1.out, HX0.out] at h1
    exact Lib.hid h1
  have HLEN : Hid ((219 :: x3 :: x2 :: x1 :: x0 :: lngL j last).length = m) := Lib.hid (by have h1 := HM.out; simp only [List.length_cons, lngL_len]; omega)
  have HB8 : Hid (B8 (219 :: x3 :: x2 :: x1 :: x0 :: lngL j last)) := by
    have e3 := HX3.out
    have e2 := HX2.out
    have e1 := HX1.out
    have e0 := HX0.out
    exact Lib.hid (B8.cons (by decide) (B8.cons (by omega) (B8.cons (by omega) (B8.cons (by omega) (B8.cons (by omega) (lngL_8 HL.out))))))
  obtain ⟨D, HD⟩ : ∃ D, Hid (lngD 219 j last = D) := ⟨_, Lib.hid rfl⟩
  have HCV : Hid (∀ W, Sl EB W (some ⟨bl, 0, none⟩) m (219 :: x3 :: x2 :: x1 :: x0 :: lngL j last) → (convert 23 9 (.slice (some ⟨bl, 0, none⟩) m m)).run Tryz.prog W = .ok (.string D) W) := Lib.hid (fun W hs => by rw [← HD.out, ← HBT.out]; exact str_conv hs HLEN.out HB8.out (by simp))
  have hzA := HK3.out.size
  have hzB := HKs0.out.size
  have hzC := HKs1.out.size
  have hzD := HKs2.out.size
  have hzE := HKs3.out.size
  have hzF := HKs4.out.size
  have hzG := HKs5.out.size
  have HKA : Hid (Keep (· = bl) w3 ws5) := Lib.hid (((((HKs0.out.then_ HKs1.out).then_ HKs2.out).then_ HKs3.out).then_ HKs4.out).then_ HKs5.out)
  have HKB : Hid (Keep nob w1 ws5) := Lib.hid (HK3.out.trans HKA.out (fun x h1 h2 => by have := HBL.out; omega))
  go_upto_region 13 with (fail)
  obtain ⟨w4, HW4⟩ : ∃ z, Hid (ws5.alloc (.cells #[.int .i64 0, .slice none 0 0, .slice none 0 0, .slice none 0 0, .slice none 0 0, .slice none 0 0, .slice none 0 0, .slice none 0 0, .slice none 0 0, .slice none 0 0, .slice none 0 0, .slice none 0 0, .slice none 0 0, .slice none 0 0, .slice none 0 0] 40) = z) := ⟨_, Lib.hid rfl⟩
  obtain ⟨b, HB⟩ : ∃ b, Hid (ws5.heap.size = b) := ⟨_, Lib.hid rfl⟩
  have HK4 : Hid (Keep nob ws5 w4) := by unfold Hid; rw [← HW4.out]; exact (Keep.refl _ _).alloc _
  have HBK : Hid (BK w4 b 0 (fun x => b ≤ x)) := by unfold Hid; rw [← HW4.out, ← HB.out]; exact bk_new ws5 _ _ rfl rfl rfl
  rw [HW4.out, HB.out]
  have HST : Hid (ST w4 w4 b 0) := Lib.hid ⟨Keep.refl _ _, HBK.out⟩
  have HG4 := Lib.hid (HG.out.keep (HKB.out.then_ HK4.out) (fun _ h => h.elim))
  have HBB : Hid (B ≤ b) := Lib.hid (by have h1 := HG.out.le; have h2 := HB.out; have h3 := HKB.out.size; omega)
  have HLB : Hid (bl < b) := Lib.hid (by have h2 := HB.out; have h1 := HBZ.out; omega)
  have HS4 : Hid (∀ W, Keep (fun x => b ≤ x) w4 W → Sl EB W (some ⟨bl, 0, none⟩) m (219 :: x3 :: x2 :: x1 :: x0 :: lngL j last)) := Lib.hid (fun W hk => (HLIST.out.sl.keep HK4.out (fun ⟨_, _, h⟩ => h)).keep hk (fun ⟨a, ha, hx⟩ => by
    cases ha
    have h1 := HLB.out
    have h2 : b ≤ bl := hx
    omega))
  clear hzA hzB hzC hzD hzE hzF hzG a1 a2 a3 b0 b1 b2 b3
  have HE1 := Lib.hid (fun (W : World) (k : Nat) (h : ST w4 W b k) (hk : k ≤ 900) => HRS.out b k B j w4 W HG4.out HBB.out HJ2.out h hk)
  have HE2 := Lib.hid (fun (W : World) (k : Nat) (h : ST w4 W b k) (hk : k ≤ 900) => HN0.out b k B j w4 W HG4.out HBB.out HJ2.out h hk)
  have HE3 := Lib.hid (fun (W : World) (k : Nat) (h : ST w4 W b k) (hk : k ≤ 900) => HN1.out b k B j m w4 W HG4.out HBB.out HM.out h hk)
  rw [HD.out] at HE1 HE2 HE3
  have HLV : Hid (∀ W, Keep (fun x => b ≤ x) w4 W → Calls Tryz.prog 7 #[] W fun e w' => e = .returned (.bool true) ∧ Keep nob W w') := Lib.hid (fun W hk => lives_ok B sa W (HG4.out.keep hk (fun _ h => Nat.le_trans HBB.out h)))
  have cv := HCV.out w4 (HS4.out w4 (Keep.refl _ _))
  go_wp2_with (first | (go_at_call 5; go_must (refine (HE1.out w4 0 HST.out (by decide)).mono ?_); rintro e w5 ⟨rfl, st5⟩; have ST5 := Lib.hid st5; have cv := HCV.out w5 (HS4.out w5 st5.keep); clear st5) | (go_at_call 6; (with_reducible refine (HE2.out _ 2 ST5.out (by decide)).mono ?_); rintro e w6 ⟨rfl, st6⟩; have ST6 := Lib.hid st6; have cv := HCV.out w6 (HS4.out w6 st6.keep); clear st6) | (go_at_call 6; (with_reducible refine (HE3.out _ 4 ST6.out (by decide)).mono ?_); rintro e w7 ⟨rfl, st7⟩; have ST7 := Lib.hid st7; clear st7) | (go_at_call 7; go_must (refine (HLV.out _ ST7.out.keep).mono ?_); rintro e w8 ⟨rfl, hk8⟩))
  go_ret
  have h1 := HB.out
  have h2 := HKB.out.size
  exact ⟨rfl, ((HKB.out.then_ HK4.out).trans ST7.out.keep (fun x h3 h4 => by omega)).then_ hk8⟩
theorem lawL_ok (text : Bool) (n : Int) (last : Int) (hl : 0 ≤ last ∧ last ≤ 255) (B : Nat) (sa : Nat → Addr) (w : World) (g : GL B sa w) : Calls Tryz.prog 3 #[.bool text, .int .i64 n, .int .u8 last] w fun e w' => e = .returned (.bool true) ∧ Keep nob w w' := by
  obtain ⟨x, rfl⟩ := Int.eq_ofNat_of_zero_le hl.1
  cases text with
  | false => exact lawL_b n x (by omega) B sa w g
  | true => exact lawL_t n x (by omega) B sa w g
end Go.Proofs.YtiemkfibpfndaaaGreatDoor
