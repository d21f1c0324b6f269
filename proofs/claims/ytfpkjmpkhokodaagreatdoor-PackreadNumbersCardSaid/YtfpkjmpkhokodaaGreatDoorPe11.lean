/- ieee.Round of a whole number of more than 53 bits that 64 bits just hold. -/
import Derived.Test.YtfpkjmpkhokodaaGreatDoorPe10
namespace Go.Proofs.YtfpkjmpkhokodaaGreatDoor
open Go.RowKit

set_option maxRecDepth 100000 in
set_option maxHeartbeats 1000000 in
theorem round64_big (neg : Bool) (A : Option Addr) (m k B : Nat) (hm0 : 0 < m) (hm : m < 9007199254740992) (h53 : 53 < bitsN m + k) (h1024 : bitsN m + k ≤ 1024) (sa : Nat → Addr) (w : World) (g : GL B sa w) (h : Sl EU w A (numL (m * 2 ^ k)).length (numL (m * 2 ^ k))) :
    Calls Tryz.prog 67 #[.bool neg, .slice A (numL (m * 2 ^ k)).length (numL (m * 2 ^ k)).length, .int .i64 0, .bool false] w fun e' w' => e' = .returned (.int .u64 ((exact64 neg m k : Nat) : Int)) ∧ Keep nob w w' := by
  have hof := of64_ok B sa w g
  unfold shV at hof
  have HSG := Lib.hid (fun (x : Nat) (hx : x < 9223372036854775808) (wv : World) (hk : Keep nob w wv) => isigned64_ok neg x B hx sa wv (g.keep hk (fun _ h => h.elim)))
  have hbn := bitsN_shift k hm0
  have hb53 : bitsN m ≤ 53 := bitsN_le (by omega)
  obtain ⟨hm1, hm2⟩ := pow_bits hm0
  have hb0 : 1 ≤ bitsN m := by
    rcases Nat.eq_zero_or_pos (bitsN m) with h0 | h0
    · rw [h0] at hm2; omega
    · exact h0
  -- the 53 bits
  obtain ⟨K, HKK⟩ : ∃ K, Hid (m * 2 ^ (53 - bitsN m) = K) := ⟨_, Lib.hid rfl⟩
  have hK1 : K < 9007199254740992 := by
    rw [← HKK.out]
    calc m * 2 ^ (53 - bitsN m) < 2 ^ bitsN m * 2 ^ (53 - bitsN m) := Nat.mul_lt_mul_of_pos_right hm2 (Nat.two_pow_pos _)
      _ = 2 ^ 53 := by rw [← Nat.pow_add]; congr 1; omega
  have hK2 : 4503599627370496 ≤ K := by
    rw [← HKK.out]
    calc 4503599627370496 = 2 ^ (bitsN m - 1) * 2 ^ (53 - bitsN m) := by rw [← Nat.pow_add, show bitsN m - 1 + (53 - bitsN m) = 52 by omega]
      _ ≤ m * 2 ^ (53 - bitsN m) := Nat.mul_le_mul_right _ hm1
  obtain ⟨s, HS⟩ : ∃ s, Hid (bitsN m + k - 54 = s) := ⟨_, Lib.hid rfl⟩
  have hs := HS.out
  have hks : k = s + (54 - bitsN m) := by omega
  have hN : m * 2 ^ k = 2 * K * 2 ^ s := by
    rw [← HKK.out, hks, Nat.pow_add, show 54 - bitsN m = (53 - bitsN m) + 1 by omega, Nat.pow_succ]
    simp only [Nat.mul_comm, Nat.mul_left_comm]
  have hex : exact64 neg m k = signed64N neg ((s + 1075) * 4503599627370496 + K) := by
    unfold exact64
    rw [if_neg (by omega), bitLen_two m (by omega)]
    have hl : max ((bitsN m : Int) - 53 + (k : Int)) (-1074) = ((s + 1 : Nat) : Int) := by omega
    simp only [hl]
    rw [if_neg (by omega), show ((k : Int) - ((s + 1 : Nat) : Int)).toNat = 53 - bitsN m by omega, HKK.out, if_neg (by omega), show (((s + 1 : Nat) : Int) + 1074).toNat = s + 1075 by omega]
  rw [hex]
  have hdiv : m * 2 ^ k / 2 ^ s = 2 * K := by rw [hN]; exact Nat.mul_div_cancel _ (Nat.two_pow_pos s)
  have hmod : m * 2 ^ k % 2 ^ s = 0 := by rw [hN]; exact Nat.mul_mod_left _ _
  obtain ⟨N, HN⟩ : ∃ N, Hid (m * 2 ^ k = N) := ⟨_, Lib.hid rfl⟩
  rw [HN.out] at h hdiv hmod hbn ⊢
  have hNlt : N < 4294967296 ^ 32 := lt_limbs (by rw [hbn]; exact h1024)
  have hlN : (numL N).length ≤ 32 := numL_len_le hNlt
  have HLN := Lib.hid (fun (wv : World) (hk : Keep nob w wv) => nLen_ok A (numL N).length (numL N).length (numL N) wv rfl (h.keep hk (fun ⟨_, _, h⟩ => h)) (numL_bd N) (by omega))
  have HSR := Lib.hid (fun (wv : World) (hk : Keep nob w wv) => nShr_ok A (numL N).length (numL N).length s (numL N) wv rfl (h.keep hk (fun ⟨_, _, h⟩ => h)) (numL_bd N) (by omega) (by omega))
  rw [valL_numL] at HLN HSR
  rw [hdiv, hmod] at HSR
  rw [hbn] at HLN
  have hl2 : (numL (2 * K)).length ≤ 2 := numL_len_le (f := 2) (by omega)
  have HUI := Lib.hid (fun (A2 : Option Addr) (wv : World) (h2 : Sl EU wv A2 (numL (2 * K)).length (numL (2 * K))) => nUint_ok A2 (numL (2 * K)).length (numL (2 * K)).length (numL (2 * K)) wv rfl h2 (numL_bd _) (by omega))
  rw [valL_numL] at HUI
  rw [(numL_cut (2 * K)).2] at HUI
  have hUE : UintE (2 * K) (numL (2 * K)).length = .returned (.tuple #[.int .u64 ((2 * K : Nat) : Int), .bool true]) := if_pos hl2
  rw [hUE] at HUI
  obtain ⟨L, HL⟩ : ∃ L, Hid ((numL N).length = L) := ⟨_, Lib.hid rfl⟩
  rw [HL.out] at HLN HSR ⊢
  obtain ⟨L2, HL2⟩ : ∃ L2, Hid ((numL (2 * K)).length = L2) := ⟨_, Lib.hid rfl⟩
  obtain ⟨l2, HLL⟩ : ∃ l2, Hid (numL (2 * K) = l2) := ⟨_, Lib.hid rfl⟩
  rw [HL2.out, HLL.out] at HUI HSR
  rw [show decide ((0 : Nat) ≠ 0) = false from rfl] at HSR
  obtain ⟨n, HNN⟩ : ∃ n, Hid (bitsN m + k = n) := ⟨_, Lib.hid rfl⟩
  have hn := HNN.out
  rw [HNN.out] at HLN
  have hns : n = s + 54 := by omega
  obtain ⟨Q, HQ⟩ : ∃ Q, Hid (2 * K = Q) := ⟨_, Lib.hid rfl⟩
  have hQ := HQ.out
  rw [HQ.out] at HUI
  obtain ⟨z, HZ⟩ : ∃ z, Hid ((s + 1075) * 4503599627370496 + K = z) := ⟨_, Lib.hid rfl⟩
  rw [HZ.out]
  have hz : z < 9223372036854775808 := by rw [← HZ.out]; omega
  have HSZ := Lib.hid (HSG.out z hz)
  obtain ⟨R, HR⟩ : ∃ R, Hid (signed64N neg z = R) := ⟨_, Lib.hid rfl⟩
  rw [HR.out] at HSZ ⊢
  clear hex hN hdiv hmod hbn hNlt hlN hl2 hUE g h hm1 hm2
  have hn0 : ((n : Int) == 0) = false := by rw [beq_eq_false_iff_ne]; omega
  have i1 : IntKind.i64.wrap (-3000 - (n : Int)) = -3000 - (n : Int) := by rw [IntWalk.i64_left, IntWalk.wrap64_in _ ⟨by omega, by omega⟩]
  have d2 : decide ((0 : Int) < -3000 - (n : Int)) = false := by rw [decide_eq_false_iff_not]; omega
  have i2 : IntKind.i64.wrap ((n : Int) - 52) = (n : Int) - 52 := by rw [IntWalk.i64_left, IntWalk.wrap64_in _ ⟨by omega, by omega⟩]
  obtain ⟨t, HT⟩ : ∃ t, Hid (s + 1 = t) := ⟨_, Lib.hid rfl⟩
  have ht := HT.out
  have i3 : IntKind.i64.wrap ((n : Int) - 52 - 1) = (t : Int) := by rw [IntWalk.i64_left, IntWalk.wrap64_in _ ⟨by omega, by omega⟩]; omega
  have i3' : (n : Int) - 52 - 1 = (t : Int) := by omega
  have i4 : IntKind.i64.wrap (t : Int) = (t : Int) := by rw [IntWalk.i64_left, IntWalk.wrap64_in _ ⟨by omega, by omega⟩]
  have hmx : (if (t : Int) < -1074 then (-1074 : Int) else (t : Int)) = (t : Int) := if_neg (by omega)
  obtain ⟨dl, HDL⟩ : ∃ dl : Nat, Hid (t + 1074 = dl) := ⟨_, Lib.hid rfl⟩
  have hdl0 := HDL.out
  have hdl : (t : Int) + 1074 = (dl : Int) := by omega
  have hdl2 : (t : Int) - (-1074) = (dl : Int) := by omega
  have i5 : IntKind.i64.wrap (dl : Int) = (dl : Int) := by rw [IntWalk.i64_left, IntWalk.wrap64_in _ ⟨by omega, by omega⟩]
  have hd : decide ((2046 : Int) ≤ (dl : Int)) = false := by rw [decide_eq_false_iff_not]; omega
  have hle : decide ((t : Int) ≤ 0) = false := by rw [decide_eq_false_iff_not]; omega
  have j1 : IntKind.i64.wrap ((t : Int) - 1) = (s : Int) := by rw [IntWalk.i64_left, IntWalk.wrap64_in _ ⟨by omega, by omega⟩]; omega
  have j1' : (t : Int) - 1 = (s : Int) := by omega
  have js : IntKind.i64.wrap (s : Int) = (s : Int) := by rw [IntWalk.i64_left, IntWalk.wrap64_in _ ⟨by omega, by omega⟩]
  have a1 : bits .and .u64 (Q : Int) 1 = 0 := by
    have h1 := u64_and_nat Q 1 (by omega) (by decide)
    rw [Nat.and_one_is_mod, show Q % 2 = 0 by omega] at h1
    exact h1
  have a2 : (Q : Int) / 2 = (K : Int) := by omega
  have a3 : ((K : Int) / 4503599627370496 == 0) = false := by rw [beq_eq_false_iff_ne]; omega
  have j5 : IntKind.u64.wrap (dl : Int) = (dl : Int) := by rw [IntKind.wrap_u64]; omega
  have j6 : IntKind.u64.wrap ((dl : Int) * 4503599627370496) = (dl : Int) * 4503599627370496 := by rw [IntKind.wrap_u64]; omega
  have j7' : (dl : Int) * 4503599627370496 + (K : Int) = (z : Int) := by rw [← HZ.out]; omega
  have j7 : IntKind.u64.wrap (z : Int) = (z : Int) := by rw [IntKind.wrap_u64]; omega
  clear hks hns hs hn hQ h53 h1024 hK1 hK2 hz hb53 hb0 hm hm0 ht hdl0
  go_enter Tryz.func67, Tryz.ntmps67
  go_upto_region 13 with (first | (go_at_call 62; go_must (refine hof.mono ?_); rintro e w1 ⟨rfl, hk1⟩; have HK1 := Lib.hid (hk1.alloc (.cells #[.int .i64 52, .int .i64 (-1074), .int .i64 11] 137)); have c0 := (sh_new w1 (.int .i64 52) (.int .i64 (-1074)) (.int .i64 11) 137).1; have c1 := (sh_new w1 (.int .i64 52) (.int .i64 (-1074)) (.int .i64 11) 137).2.1; have c2 := (sh_new w1 (.int .i64 52) (.int .i64 (-1074)) (.int .i64 11) 137).2.2; clear hk1) | (go_at_call 91; go_must (refine (HLN.out _ HK1.out).mono ?_); rintro e w2 ⟨rfl, rfl⟩))
  go_quiet (fail)
  obtain ⟨w4, HW4⟩ : ∃ w4, Hid ((w1.alloc (.cells #[.int .i64 52, .int .i64 (-1074), .int .i64 11] 137)).drewN nq = w4) := ⟨_, Lib.hid rfl⟩
  have hkd : Keep nob (w1.alloc (.cells #[.int .i64 52, .int .i64 (-1074), .int .i64 11] 137)) w4 := by rw [← HW4.out]; exact (Keep.refl _ _).drewN _
  have c0 := hkd.cell c0 (fun h => h)
  have c1 := hkd.cell c1 (fun h => h)
  have c2 := hkd.cell c2 (fun h => h)
  have HK4 := Lib.hid (HK1.out.then_ hkd)
  obtain ⟨bs, HBS⟩ : ∃ bs, Hid (w1.heap.size = bs) := ⟨_, Lib.hid rfl⟩
  rw [HBS.out] at c0 c1 c2
  rw [HW4.out, HBS.out]
  clear hkd i1 i2 i3 i3' hmx d2 hn0
  go_upto_region 20 with (go_at_call 97; go_must (refine (HSR.out _ HK4.out).mono ?_); rintro e w5 ⟨hk5, A2, rfl, hs5, -⟩; have HK5 := Lib.hid (HK4.out.then_ hk5); have HS5 := Lib.hid hs5; have c0 := hk5.cell c0 (fun h => h); have c1 := hk5.cell c1 (fun h => h); have c2 := hk5.cell c2 (fun h => h); clear hk5 hs5)
  go_upto_region 21 with (go_at_call 96; go_must (refine (HUI.out _ _ HS5.out).mono ?_); rintro e w6 ⟨rfl, rfl⟩)
  go_upto_region 22 with (fail)
  go_upto_region 23 with (fail)
  go_upto_region 25 with (fail)
  go_upto_region 27 with (fail)
  go_wp2_with (go_at_call 65; go_must (refine (HSZ.out _ HK5.out).mono ?_); rintro e w9 ⟨rfl, hk9⟩)
  go_ret
  exact ⟨rfl, HK5.out.then_ hk9⟩
end Go.Proofs.YtfpkjmpkhokodaaGreatDoor

/- number: the bits of what is no exact number. -/
namespace Go.Proofs.YtfpkjmpkhokodaaGreatDoor
open Go.RowKit

set_option maxRecDepth 100000 in
theorem eBits_ok (x : Nat) (w : World) : Calls Tryz.prog 166 #[.agg #[.int .u64 (x : Int)]] w fun e w' => e = .returned (.tuple #[.int .u64 (x : Int), .bool true]) ∧ Keep nob w w' := by
  go_enter Tryz.func166, Tryz.ntmps166
  go_wp2
  go_ret2
  exact ⟨rfl, (Keep.refl _ _).alloc _⟩
set_option maxRecDepth 100000 in
theorem oBits_ok (x : Nat) (w : World) : Calls Tryz.prog 167 #[.agg #[.int .u64 (x : Int)]] w fun e w' => e = .returned (.tuple #[.int .u64 (x : Int), .bool true]) ∧ Keep nob w w' := by
  go_enter Tryz.func167, Tryz.ntmps167
  go_wp2
  go_ret2
  exact ⟨rfl, (Keep.refl _ _).alloc _⟩
set_option maxRecDepth 100000 in
theorem kBits_ok (x : Nat) (w : World) : Calls Tryz.prog 168 #[.agg #[.int .u64 (x : Int)]] w fun e w' => e = .returned (.tuple #[.int .u64 (x : Int), .bool true]) ∧ Keep nob w w' := by
  go_enter Tryz.func168, Tryz.ntmps168
  go_wp2
  go_ret2
  exact ⟨rfl, (Keep.refl _ _).alloc _⟩
end Go.Proofs.YtfpkjmpkhokodaaGreatDoor

/- ieee.From at what 64 bits just hold; the bits of an exact number. -/
namespace Go.Proofs.YtfpkjmpkhokodaaGreatDoor
open Go.RowKit

theorem cmpL_self (a : List Nat) : cmpL a a = 0 := by have := cmpL_anti a a; omega
theorem round64_fits (g : Bool) (A : Option Addr) (m k B : Nat) (hf : Fits g m k) (sa : Nat → Addr) (w : World) (gl : GL B sa w) (h : Sl EU w A (numL (m * 2 ^ k)).length (numL (m * 2 ^ k))) :
    Calls Tryz.prog 67 #[.bool g, .slice A (numL (m * 2 ^ k)).length (numL (m * 2 ^ k)).length, .int .i64 0, .bool false] w fun e' w' => e' = .returned (.int .u64 ((exact64 g m k : Nat) : Int)) ∧ Keep nob w w' := by
  rcases Nat.lt_or_ge (m * 2 ^ k) 9007199254740992 with h1 | h1
  · have h2 := round64_ok g A (m * 2 ^ k) B 0 h1 (by decide) (by decide) sa w gl h
    rw [exact64_shift g m k h1] at h2
    exact h2
  · rcases hf with ⟨rfl, rfl, rfl⟩ | ⟨⟨j, hj⟩, hm, hb⟩
    · simp at h1
    · have h53 : 53 < bitsN m + k := by
        rw [← bitsN_shift k (by omega)]
        rcases Nat.lt_or_ge 53 (bitsN (m * 2 ^ k)) with h2 | h2
        · exact h2
        · have h3 := bitsN_lt (m * 2 ^ k)
          have h4 : (2 : Nat) ^ bitsN (m * 2 ^ k) ≤ 2 ^ 53 := Nat.pow_le_pow_right (by decide) h2
          have h5 : (2 : Nat) ^ 53 = 9007199254740992 := by decide
          omega
      exact round64_big g A m k B (by omega) hm h53 hb sa w gl h
theorem fits_neg {g : Bool} {m k : Nat} (hf : Fits g m k) : negN g (numL (m * 2 ^ k)).length = g := by
  unfold negN
  rcases hf with ⟨rfl, rfl, rfl⟩ | ⟨⟨j, hj⟩, hm, hb⟩
  · rfl
  · rw [decide_eq_true ((numL_pos_iff _).2 (Nat.mul_pos (by omega) (Nat.two_pow_pos k))), Bool.and_true]
theorem fits_len {g : Bool} {m k : Nat} (hf : Fits g m k) : (numL (m * 2 ^ k)).length ≤ 32 := by
  refine numL_len_le (f := 32) (lt_limbs ?_)
  rcases hf with ⟨rfl, rfl, rfl⟩ | ⟨⟨j, hj⟩, hm, hb⟩
  · rw [Nat.zero_mul]; decide
  · rw [bitsN_shift k (by omega)]
    exact hb
set_option maxRecDepth 100000 in
set_option maxHeartbeats 1000000 in
theorem from64_ok (g : Bool) (A : Option Addr) (c m k B : Nat) (hf : Fits g m k) (sa : Nat → Addr) (w : World) (gl : GL B sa w) (h : Sl EU w A c (numL (m * 2 ^ k))) :
    Calls Tryz.prog 165 #[intV g A (numL (m * 2 ^ k)).length c] w fun e' w' => e' = .returned (.tuple #[.int .u64 ((exact64 g m k : Nat) : Int), .bool true]) ∧ Keep nob w w' := by
  have hl32 := fits_len hf
  obtain ⟨hc1, hc2⟩ := numL_cut (m * 2 ^ k)
  have HNM := Lib.hid (fun (W : World) (hk : Keep nob w W) => wNorm_ok g A c (numL (m * 2 ^ k)).length (numL (m * 2 ^ k)) W rfl (h.keep hk (fun ⟨_, _, h⟩ => h)) (by omega))
  rw [hc1, hc2, fits_neg hf] at HNM
  have HRD := Lib.hid (fun (A1 : Option Addr) (W : World) (hk : Keep nob w W) (h1 : Sl EU W A1 (numL (m * 2 ^ k)).length (numL (m * 2 ^ k))) => round64_fits g A1 m k B hf sa W (gl.keep hk (fun _ h => h.elim)) h1)
  obtain ⟨hp, hx64⟩ := fits_parts hf
  have HIN := Lib.hid (fun (W : World) (hk : Keep nob w W) => int64_ok (exact64 g m k) B hx64 sa W (gl.keep hk (fun _ h => h.elim)))
  rw [fits_int hf] at HIN
  unfold IntPost intV at HIN
  dsimp only at HIN
  have HCM := Lib.hid (fun (A1 A2 : Option Addr) (W : World) (h1 : Sl EU W A1 (numL (m * 2 ^ k)).length (numL (m * 2 ^ k))) (h2 : Sl EU W A2 (numL (m * 2 ^ k)).length (numL (m * 2 ^ k))) => nCmp_ok A1 A2 (numL (m * 2 ^ k)).length (numL (m * 2 ^ k)).length (numL (m * 2 ^ k)).length (numL (m * 2 ^ k)).length (numL (m * 2 ^ k)) (numL (m * 2 ^ k)) W rfl rfl h1 h2 (by omega) (by omega))
  rw [cmpL_self] at HCM
  obtain ⟨X, HX⟩ : ∃ X, Hid (exact64 g m k = X) := ⟨_, Lib.hid rfl⟩
  obtain ⟨l, HLL⟩ : ∃ l, Hid (numL (m * 2 ^ k) = l) := ⟨_, Lib.hid rfl⟩
  rw [HX.out] at HRD HIN ⊢
  rw [HLL.out] at HNM HRD HIN HCM ⊢
  obtain ⟨L, HL⟩ : ∃ L, Hid (l.length = L) := ⟨_, Lib.hid rfl⟩
  rw [HL.out] at HNM HRD HIN HCM ⊢
  unfold intV at HNM ⊢
  clear hf gl h hp hx64 hc1 hc2 hl32
  have hb0 := int_new0 w g A L c 28
  have hb1 := int_new1 w g A L c 28
  have ht := there_alloc_new w #[.bool g, .slice A L c] 28 2 (Nat.le_refl _)
  go_enter Tryz.func165, Tryz.ntmps165
  go_upto_region 1 with (fail)
  obtain ⟨w0, HW0⟩ : ∃ w0, Hid (w.alloc (.cells #[.bool g, .slice A L c] 28) = w0) := ⟨_, Lib.hid rfl⟩
  have HK0 : Hid (Keep nob w w0) := by unfold Hid; rw [← HW0.out]; exact (Keep.refl _ _).alloc _
  obtain ⟨b, HB⟩ : ∃ b, Hid (w.heap.size = b) := ⟨_, Lib.hid rfl⟩
  rw [HW0.out, HB.out] at hb0 hb1 ht
  have HT := Lib.hid ht
  have HBL : Hid (b < w0.heap.size) := Lib.hid (World.block_lt_of_cell? w0 _ hb0)
  rw [HW0.out, HB.out]
  go_upto_region 2 with (go_at_call 60; go_must (refine (HNM.out _ HK0.out).mono ?_); rintro e w1 ⟨hk1, A1, rfl, hs1, hl1⟩; have HK1 := Lib.hid hk1; have HS1 := Lib.hid hs1; have HL1 := Lib.hid hl1; clear hk1 hs1 hl1; obtain ⟨v0, v1, ⟨d0, d1⟩, f0, f1⟩ := two (HT.out.keep' HK1.out))
  obtain ⟨w2, e2, p0, p1, k2⟩ := put2 (HT.out.keep' HK1.out) (.bool g) (.slice A1 L L)
  rw [e2.out]
  have HK2 : Hid (Keep nob w w2) := Lib.hid ((HK0.out.then_ HK1.out).trans k2 (fun j h1 h2 => by have := HB.out; omega))
  have HS2 : Hid (Sl EU w2 A1 L l) := Lib.hid (HS1.out.keepD k2 HL1.out (fun j hj e => by have := HBL.out; omega))
  clear hb0 hb1 ht k2 d0 d1 f0 f1
  go_upto_region 3 with (go_at_call 67; go_must (refine (HRD.out _ _ HK2.out HS2.out).mono ?_); rintro e w3 ⟨rfl, hk3⟩; have HK3 := Lib.hid hk3; clear hk3)
  go_upto_region 4 with (go_at_call 73; go_must (refine (HIN.out _ (HK2.out.then_ HK3.out)).mono ?_); rintro e w4 ⟨hk4, A4, rfl, hs4, hl4⟩; have HK4 := Lib.hid hk4; have HS4 := Lib.hid hs4; clear hk4 hs4 hl4)
  have hk34 : Keep nob w2 (w4.alloc (.cells #[.bool g, .slice A4 L L] 28)) := (HK3.out.then_ HK4.out).then_ ((Keep.refl _ _).alloc _)
  have q1 := hk34.cell p1 (fun h => h)
  have q2 := int_new1 w4 g A4 L L 28
  have HS5 : Hid (Sl EU (w4.alloc (.cells #[.bool g, .slice A4 L L] 28)) A1 L l) := Lib.hid (HS2.out.keep hk34 (fun ⟨_, _, h⟩ => h))
  have HS6 : Hid (Sl EU (w4.alloc (.cells #[.bool g, .slice A4 L L] 28)) A4 L l) := Lib.hid (HS4.out.keep ((Keep.refl nob _).alloc _) (fun ⟨_, _, h⟩ => h))
  have HK5 : Hid (Keep nob w (w4.alloc (.cells #[.bool g, .slice A4 L L] 28))) := Lib.hid (HK2.out.then_ hk34)
  clear hk34 p0 p1
  obtain ⟨w5, HW5⟩ : ∃ w5, Hid (w4.alloc (.cells #[.bool g, .slice A4 L L] 28) = w5) := ⟨_, Lib.hid rfl⟩
  obtain ⟨b5, HB5⟩ : ∃ b5, Hid (w4.heap.size = b5) := ⟨_, Lib.hid rfl⟩
  rw [HW5.out] at q1 q2 HS5 HS6 HK5
  rw [HB5.out] at q2
  rw [HW5.out, HB5.out]
  go_wp2_with (go_at_call 126; go_must (refine (HCM.out _ _ _ HS6.out HS5.out).mono ?_); rintro e w6 ⟨rfl, hk6⟩)
  go_ret2
  exact ⟨rfl, HK5.out.then_ hk6⟩
set_option maxRecDepth 100000 in
theorem xBits_ok (g : Bool) (A : Option Addr) (c m k B : Nat) (hf : Fits g m k) (sa : Nat → Addr) (w : World) (gl : GL B sa w) (h : Sl EU w A c (numL (m * 2 ^ k))) :
    Calls Tryz.prog 164 #[intV g A (numL (m * 2 ^ k)).length c] w fun e' w' => e' = .returned (.tuple #[.int .u64 ((exact64 g m k : Nat) : Int), .bool true]) ∧ Keep nob w w' := by
  have HF := Lib.hid (fun (W : World) (hk : Keep nob w W) => from64_ok g A c m k B hf sa W (gl.keep hk (fun _ h => h.elim)) (h.keep hk (fun ⟨_, _, h⟩ => h)))
  obtain ⟨X, HX⟩ : ∃ X, Hid (exact64 g m k = X) := ⟨_, Lib.hid rfl⟩
  obtain ⟨L, HL⟩ : ∃ L, Hid ((numL (m * 2 ^ k)).length = L) := ⟨_, Lib.hid rfl⟩
  rw [HX.out, HL.out] at HF ⊢
  unfold intV at HF ⊢
  clear hf gl h
  have hb0 := int_new0 w g A L c 122
  have hb1 := int_new1 w g A L c 122
  go_enter Tryz.func164, Tryz.ntmps164
  go_upto_region 1 with (fail)
  obtain ⟨w0, HW0⟩ : ∃ w0, Hid (w.alloc (.cells #[.bool g, .slice A L c] 122) = w0) := ⟨_, Lib.hid rfl⟩
  have HK0 : Hid (Keep nob w w0) := by unfold Hid; rw [← HW0.out]; exact (Keep.refl _ _).alloc _
  obtain ⟨b, HB⟩ : ∃ b, Hid (w.heap.size = b) := ⟨_, Lib.hid rfl⟩
  rw [HW0.out, HB.out] at hb0 hb1
  rw [HW0.out, HB.out]
  go_wp2_with (go_at_call 165; go_must (refine (HF.out _ HK0.out).mono ?_); rintro e w1 ⟨rfl, hk1⟩)
  go_ret2
  exact ⟨rfl, HK0.out.then_ hk1⟩
end Go.Proofs.YtfpkjmpkhokodaaGreatDoor

/- number.Bits: the pattern of 64 bits that a number just is. -/
namespace Go.Proofs.YtfpkjmpkhokodaaGreatDoor
open Go.RowKit

theorem method_x (v : Value) (w : World) : (Go.method 354 122 v "crucible/number.bits").run Tryz.prog w = .ok (164, v) w := by kernel_rfl
theorem method_e (v : Value) (w : World) : (Go.method 354 126 v "crucible/number.bits").run Tryz.prog w = .ok (166, v) w := by kernel_rfl
theorem method_o (v : Value) (w : World) : (Go.method 354 127 v "crucible/number.bits").run Tryz.prog w = .ok (167, v) w := by kernel_rfl
theorem method_k (v : Value) (w : World) : (Go.method 354 128 v "crucible/number.bits").run Tryz.prog w = .ok (168, v) w := by kernel_rfl
/-- the cells of a new value -/
theorem new_val (w : World) (k n : Nat) (neg : Bool) (mA : Option Addr) (mL mC bits : Nat) (ext : Int) (text : ByteArray) (kA : Option Addr) (kL kC : Nat) : ∃ w0 b, Hid (w.alloc (.cells #[.int .i8 (k : Int), .int .u64 (n : Int), .bool neg, .slice mA mL mC, .int .u64 (bits : Int), .int .i8 ext, .string text, .slice kA kL kC] 31) = w0) ∧ Hid (w.heap.size = b) ∧ Hid (Keep nob w w0) ∧ Hid (w0.rangeAt b 0 (ER.cells ⟨k, n, neg, mA, mL, mC, bits, ext, text, kA, kL, kC⟩)) :=
  ⟨_, _, Lib.hid rfl, Lib.hid rfl, Lib.hid ((Keep.refl _ _).alloc _), Lib.hid (range_new w ⟨k, n, neg, mA, mL, mC, bits, ext, text, kA, kL, kC⟩ 31)⟩
set_option maxRecDepth 100000 in
theorem what_int (n : Nat) (g : Bool) (mA : Option Addr) (mL mC bits : Nat) (ext : Int) (text : ByteArray) (kA : Option Addr) (kL kC : Nat) (w : World)
    (hc : ∀ W, Keep nob w W → Calls Tryz.prog 15 #[.agg #[.int .i8 3, .int .u64 (n : Int), .bool g, .slice mA mL mC, .int .u64 (bits : Int), .int .i8 ext, .string text, .slice kA kL kC]] W fun e w' => e = .returned .nilIface ∧ Keep nob W w') :
    Calls Tryz.prog 35 #[.agg #[.int .i8 3, .int .u64 (n : Int), .bool g, .slice mA mL mC, .int .u64 (bits : Int), .int .i8 ext, .string text, .slice kA kL kC]] w fun e w' => e = .returned (.iface 122 (intV g mA mL mC)) ∧ Keep nob w w' := by
  obtain ⟨w0, b, HW, HB, HK, HR⟩ := new_val w 3 n g mA mL mC bits ext text kA kL kC
  have HC := Lib.hid hc
  have HW : Hid (w.alloc (.cells #[.int .i8 3, .int .u64 (n : Int), .bool g, .slice mA mL mC, .int .u64 (bits : Int), .int .i8 ext, .string text, .slice kA kL kC] 31) = w0) := HW
  clear hc
  unfold intV
  go_enter Tryz.func35, Tryz.ntmps35
  go_upto_region 1 with (fail)
  rw [HW.out, HB.out]
  obtain ⟨c0, c1, c2, c3, c4, c5, c6, c7⟩ := cells_val HR.out
  dsimp only at c0
  go_wp2_with (go_at_call 15; go_must (refine (HC.out _ HK.out).mono ?_); rintro e w1 ⟨rfl, hk1⟩; have HK1 := Lib.hid hk1; obtain ⟨c0, c1, c2, c3, c4, c5, c6, c7⟩ := cells_val (range_keep hk1 HR.out); dsimp only at c0; clear hk1)
  go_ret
  exact ⟨rfl, HK.out.then_ HK1.out⟩
set_option maxRecDepth 100000 in
theorem what_flo (n : Nat) (g : Bool) (mA : Option Addr) (mL mC bits : Nat) (ext : Int) (text : ByteArray) (kA : Option Addr) (kL kC : Nat) (B : Nat) (sa : Nat → Addr) (w : World) (gl : GL B sa w) (hx : bits < 18446744073709551616)
    (hc : ∀ W, Keep nob w W → Calls Tryz.prog 15 #[.agg #[.int .i8 4, .int .u64 (n : Int), .bool g, .slice mA mL mC, .int .u64 (bits : Int), .int .i8 ext, .string text, .slice kA kL kC]] W fun e w' => e = .returned .nilIface ∧ Keep nob W w') :
    Calls Tryz.prog 35 #[.agg #[.int .i8 4, .int .u64 (n : Int), .bool g, .slice mA mL mC, .int .u64 (bits : Int), .int .i8 ext, .string text, .slice kA kL kC]] w fun e w' => (∃ t, (t = 126 ∨ t = 127 ∨ t = 128) ∧ e = .returned (.iface t (.agg #[.int .u64 (bits : Int)]))) ∧ Keep nob w w' := by
  obtain ⟨w0, b, HW, HB, HK, HR⟩ := new_val w 4 n g mA mL mC bits ext text kA kL kC
  have HC := Lib.hid hc
  have HCL := Lib.hid (fun (W : World) (hk : Keep nob w W) => class64_ok bits B hx sa W (gl.keep hk (fun _ h => h.elim)))
  have HW : Hid (w.alloc (.cells #[.int .i8 4, .int .u64 (n : Int), .bool g, .slice mA mL mC, .int .u64 (bits : Int), .int .i8 ext, .string text, .slice kA kL kC] 31) = w0) := HW
  clear hc gl hx
  obtain ⟨cl, HCC⟩ : ∃ cl, Hid (classN 52 11 bits = cl) := ⟨_, Lib.hid rfl⟩
  rw [HCC.out] at HCL
  by_cases h4 : cl = 4
  · subst h4
    have HCL : Hid (∀ W, Keep nob w W → Calls Tryz.prog 56 #[.int .u64 (bits : Int)] W fun e w' => e = .returned (.int .i8 4) ∧ Keep nob W w') := HCL
    go_enter Tryz.func35, Tryz.ntmps35
    go_upto_region 1 with (fail)
    rw [HW.out, HB.out]
    obtain ⟨c0, c1, c2, c3, c4, c5, c6, c7⟩ := cells_val HR.out
    dsimp only at c0
    go_wp2_with (first | (go_at_call 15; go_must (refine (HC.out _ HK.out).mono ?_); rintro e w1 ⟨rfl, hk1⟩; have HK1 := Lib.hid hk1; obtain ⟨c0, c1, c2, c3, c4, c5, c6, c7⟩ := cells_val (range_keep hk1 HR.out); dsimp only at c0; clear hk1) | (go_at_call 56; go_must (refine (HCL.out _ (HK.out.then_ HK1.out)).mono ?_); rintro e w2 ⟨rfl, hk2⟩; have HK2 := Lib.hid hk2; obtain ⟨c0, c1, c2, c3, c4, c5, c6, c7⟩ := cells_val (range_keep (HK1.out.then_ hk2) HR.out); dsimp only at c0; clear hk2))
    go_ret
    exact ⟨⟨_, .inl rfl, rfl⟩, HK.out.then_ (HK1.out.then_ HK2.out)⟩
  · by_cases h5 : cl = 5
    · subst h5
      have HCL : Hid (∀ W, Keep nob w W → Calls Tryz.prog 56 #[.int .u64 (bits : Int)] W fun e w' => e = .returned (.int .i8 5) ∧ Keep nob W w') := HCL
      go_enter Tryz.func35, Tryz.ntmps35
      go_upto_region 1 with (fail)
      rw [HW.out, HB.out]
      obtain ⟨c0, c1, c2, c3, c4, c5, c6, c7⟩ := cells_val HR.out
      dsimp only at c0
      go_wp2_with (first | (go_at_call 15; go_must (refine (HC.out _ HK.out).mono ?_); rintro e w1 ⟨rfl, hk1⟩; have HK1 := Lib.hid hk1; obtain ⟨c0, c1, c2, c3, c4, c5, c6, c7⟩ := cells_val (range_keep hk1 HR.out); dsimp only at c0; clear hk1) | (go_at_call 56; go_must (refine (HCL.out _ (HK.out.then_ HK1.out)).mono ?_); rintro e w2 ⟨rfl, hk2⟩; have HK2 := Lib.hid hk2; obtain ⟨c0, c1, c2, c3, c4, c5, c6, c7⟩ := cells_val (range_keep (HK1.out.then_ hk2) HR.out); dsimp only at c0; clear hk2))
      go_ret
      exact ⟨⟨_, .inr (.inl rfl), rfl⟩, HK.out.then_ (HK1.out.then_ HK2.out)⟩
    · have e4 : ((cl : Int) == 4) = false := by rw [beq_eq_false_iff_ne]; omega
      have e5 : ((cl : Int) == 5) = false := by rw [beq_eq_false_iff_ne]; omega
      clear h4 h5
      go_enter Tryz.func35, Tryz.ntmps35
      go_upto_region 1 with (fail)
      rw [HW.out, HB.out]
      obtain ⟨c0, c1, c2, c3, c4, c5, c6, c7⟩ := cells_val HR.out
      dsimp only at c0
      go_wp2_with (first | (go_at_call 15; go_must (refine (HC.out _ HK.out).mono ?_); rintro e w1 ⟨rfl, hk1⟩; have HK1 := Lib.hid hk1; obtain ⟨c0, c1, c2, c3, c4, c5, c6, c7⟩ := cells_val (range_keep hk1 HR.out); dsimp only at c0; clear hk1) | (go_at_call 56; go_must (refine (HCL.out _ (HK.out.then_ HK1.out)).mono ?_); rintro e w2 ⟨rfl, hk2⟩; have HK2 := Lib.hid hk2; obtain ⟨c0, c1, c2, c3, c4, c5, c6, c7⟩ := cells_val (range_keep (HK1.out.then_ hk2) HR.out); dsimp only at c0; clear hk2))
      go_ret
      exact ⟨⟨_, .inr (.inr rfl), rfl⟩, HK.out.then_ (HK1.out.then_ HK2.out)⟩
set_option maxRecDepth 100000 in
set_option maxHeartbeats 1000000 in
/-- number.Bits of what is a pattern of 64 bits -/
theorem bits_ok {v : V} {x : Nat} (hb : BitsP v x) (ha : AllV v) (hs : Sm v) (htx : TxV v) (hd : depV v ≤ 128) (r : Raw) (D : Nat → Prop) (B : Nat) (sa : Nat → Addr) (w : World) (gl : GL B sa w) (ht : Tr w D r v) (hD : ∀ b, D b → b < w.heap.size) :
    Calls Tryz.prog 20 #[ER.val r] w fun e w' => e = .returned (.tuple #[.int .u64 (x : Int), .bool true]) ∧ Keep nob w w' := by
  have HC := Lib.hid (fun (W : World) (hk : Keep nob w W) => check_ok v ha hs htx hd r D B sa W (gl.keep hk (fun _ h => h.elim)) (Tr.keep hk (nobD _) _ _ ht) (fun b hb => Nat.lt_of_lt_of_le (hD b hb) hk.size))
  have mx := method_x
  have me := method_e
  have mo := method_o
  have mk := method_k
  obtain ⟨kind, n, neg, mA, mL, mC, bits, ext, text, kA, kL, kC⟩ := r
  simp only [ER] at HC ⊢
  rcases hb with ⟨g, m, k, hf, rfl, rfl⟩ | ⟨hx, rfl⟩
  · unfold V.int Tr at ht
    obtain ⟨h1, h2, h3, -, -, -, ⟨h4, h5, -⟩, -⟩ := ht
    dsimp only at h1 h2 h3 h4 h5
    subst h1 h3
    have HX := Lib.hid (fun (W : World) (hk : Keep nob w W) => xBits_ok neg mA mC m k B hf sa W (gl.keep hk (fun _ h => h.elim)) (h5.keep hk (fun ⟨_, _, h⟩ => h)))
    rw [← h4] at HX
    obtain ⟨X, HXX⟩ : ∃ X, Hid (exact64 neg m k = X) := ⟨_, Lib.hid rfl⟩
    rw [HXX.out] at HX ⊢
    clear gl ha hs htx hd hf h4 h5 hD h2
    obtain ⟨w0, b, HW, HB, HK, HR⟩ := new_val w 3 n neg mA mL mC bits ext text kA kL kC
    have HW : Hid (w.alloc (.cells #[.int .i8 3, .int .u64 (n : Int), .bool neg, .slice mA mL mC, .int .u64 (bits : Int), .int .i8 ext, .string text, .slice kA kL kC] 31) = w0) := HW
    have HWH := Lib.hid (what_int n neg mA mL mC bits ext text kA kL kC w0 (fun W hk => HC.out W (HK.out.then_ hk)))
    unfold intV at HX HWH
    show Calls Tryz.prog 20 #[.agg #[.int .i8 3, .int .u64 (n : Int), .bool neg, .slice mA mL mC, .int .u64 (bits : Int), .int .i8 ext, .string text, .slice kA kL kC]] w _
    go_enter Tryz.func20, Tryz.ntmps20
    go_upto_region 1 with (fail)
    rw [HW.out, HB.out]
    obtain ⟨c0, c1, c2, c3, c4, c5, c6, c7⟩ := cells_val HR.out
    dsimp only at c0
    go_wp2_with (first | (go_at_call 35; go_must (refine HWH.out.mono ?_); rintro e w1 ⟨rfl, hk1⟩; have HK1 := Lib.hid (HK.out.then_ hk1); clear hk1) | (go_at_call 164; go_must (refine (HX.out _ HK1.out).mono ?_); rintro e w2 ⟨rfl, hk2⟩))
    go_ret2
    exact ⟨rfl, HK1.out.then_ hk2⟩
  · unfold V.flo Tr at ht
    obtain ⟨h1, h2, h3, h6, -⟩ := ht
    dsimp only at h1 h2 h3 h6
    subst h1 h6
    obtain ⟨w0, b, HW, HB, HK, HR⟩ := new_val w 4 n neg mA mL mC bits ext text kA kL kC
    have HW : Hid (w.alloc (.cells #[.int .i8 4, .int .u64 (n : Int), .bool neg, .slice mA mL mC, .int .u64 (bits : Int), .int .i8 ext, .string text, .slice kA kL kC] 31) = w0) := HW
    have HWH := Lib.hid (what_flo n neg mA mL mC bits ext text kA kL kC B sa w0 (gl.keep HK.out (fun _ h => h.elim)) hx (fun W hk => HC.out W (HK.out.then_ hk)))
    have HE := Lib.hid (fun (W : World) => eBits_ok bits W)
    have HO := Lib.hid (fun (W : World) => oBits_ok bits W)
    have HKB := Lib.hid (fun (W : World) => kBits_ok bits W)
    clear gl ha hs htx hd hx hD h2 h3
    show Calls Tryz.prog 20 #[.agg #[.int .i8 4, .int .u64 (n : Int), .bool neg, .slice mA mL mC, .int .u64 (bits : Int), .int .i8 ext, .string text, .slice kA kL kC]] w _
    go_enter Tryz.func20, Tryz.ntmps20
    go_upto_region 1 with (fail)
    rw [HW.out, HB.out]
    obtain ⟨c0, c1, c2, c3, c4, c5, c6, c7⟩ := cells_val HR.out
    dsimp only at c0
    go_upto_region 2 with (go_at_call 35; go_must (refine HWH.out.mono ?_); rintro e w1 ⟨⟨t, ht, rfl⟩, hk1⟩; have HK1 := Lib.hid (HK.out.then_ hk1); clear hk1)
    rcases ht with rfl | rfl | rfl
    all_goals
      go_wp2_with (first | (go_at_call 166; go_must (refine (HE.out _).mono ?_); rintro e w2 ⟨rfl, hk2⟩) | (go_at_call 167; go_must (refine (HO.out _).mono ?_); rintro e w2 ⟨rfl, hk2⟩) | (go_at_call 168; go_must (refine (HKB.out _).mono ?_); rintro e w2 ⟨rfl, hk2⟩))
      go_ret2
      exact ⟨rfl, HK1.out.then_ hk2⟩
end Go.Proofs.YtfpkjmpkhokodaaGreatDoor

/- PackreadNumbers: the walk of the law. Printed by mkml. -/
namespace Go.Proofs.YtfpkjmpkhokodaaGreatDoor
open Go.RowKit

theorem pick_whole {a : Nat} (h : a < 128) : pickN a = some (.whole, a, 0) := by unfold pickN; rw [if_pos h]
theorem pick_below {f : Nat} (h : 224 ≤ f) : pickN f = some (.below, 256 - f, 0) := by
  unfold pickN
  rw [if_neg (by omega), if_neg (by omega), if_neg (by omega), if_neg (by omega), if_pos h]
theorem readT_doc {s : ByteArray} {v : V} (h : readN Wd s = .ok v s.size) (hs : s.size ≤ 1048576) : readT s = .ok v s.size := by
  unfold readT
  rw [if_neg (by omega), h]
set_option maxRecDepth 100000 in
set_option maxHeartbeats 8000000 in
theorem lawN_ai (a : Nat) (ha : a < 256) (z : Int) (hz1 : -32768 ≤ z) (hz2 : z < 32768) (c : Nat) (hc : c < 4294967296) (ha1 : a < 128) (hn1 : -32 ≤ z) (hn2 : z < 0) (B : Nat) (sa : Nat → Addr) (w : World) (g : GL B sa w) : Calls Tryz.prog 6 #[.int .u8 (a : Int), .int .i16 z, .int .u32 (c : Int)] w fun e w' => e = .returned (.bool true) ∧ Keep nob w w' := by
  obtain ⟨u, HU⟩ : ∃ u : Nat, Hid ((u : Int) = z % 18446744073709551616) := ⟨(z % 18446744073709551616).toNat, Lib.hid (by omega)⟩
  have hu : (u : Int) = z % 18446744073709551616 := HU.out
  have i1 : IntKind.u64.wrap (a : Int) = (a : Int) := by rw [IntKind.wrap_u64]; omega
  have i2 : IntKind.u64.wrap z = (u : Int) := by rw [IntKind.wrap_u64]; exact HU.out.symm
  have i3 : IntKind.u64.wrap (c : Int) = (c : Int) := by rw [IntKind.wrap_u64]; omega
  obtain ⟨ez, hez, hez1, hez2⟩ := small_bits z (by omega)
  obtain ⟨vc, HVC⟩ : ∃ vc, Hid (ofV 23 (-149) 8 c = vc) := ⟨_, Lib.hid rfl⟩
  obtain ⟨ec, hec, hec1, hec2⟩ := single_bits c
  rw [HVC.out] at hec hec2
  have HG := Lib.hid g
  obtain ⟨scc, HScc⟩ : ∃ y, Hid (Bt (204 :: beL 1 a) = y) := ⟨_, Lib.hid rfl⟩
  have Wcc : Hid (∀ W, Keep nob w W → Calls Tryz.prog 11 #[.int .u8 204, .int .i64 1, .int .u64 (a : Int)] W fun e w' => e = .returned (.string scc) ∧ Keep nob w w') := Lib.hid (fun W hk => by rw [← HScc.out]; exact (wide_ok 204 1 a (by decide) (by decide) W).mono fun e w' ⟨h1, h2⟩ => ⟨h1, hk.then_ h2⟩)
  have Tcc : Hid (readT scc = .ok (intW (a : Int)) scc.size) := Lib.hid (readT_doc (by rw [← HScc.out]; exact (by rw [← whole_int (by omega)]; exact doc_whole 204 1 a (by decide) rfl (by decide) (by omega))) (by rw [← HScc.out, Bt_size, List.length_cons, beL_len]; decide))
  obtain ⟨scd, HScd⟩ : ∃ y, Hid (Bt (205 :: beL 2 a) = y) := ⟨_, Lib.hid rfl⟩
  have Wcd : Hid (∀ W, Keep nob w W → Calls Tryz.prog 11 #[.int .u8 205, .int .i64 2, .int .u64 (a : Int)] W fun e w' => e = .returned (.string scd) ∧ Keep nob w w') := Lib.hid (fun W hk => by rw [← HScd.out]; exact (wide_ok 205 2 a (by decide) (by decide) W).mono fun e w' ⟨h1, h2⟩ => ⟨h1, hk.then_ h2⟩)
  have Tcd : Hid (readT scd = .ok (intW (a : Int)) scd.size) := Lib.hid (readT_doc (by rw [← HScd.out]; exact (by rw [← whole_int (by omega)]; exact doc_whole 205 2 a (by decide) rfl (by decide) (by omega))) (by rw [← HScd.out, Bt_size, List.length_cons, beL_len]; decide))
  obtain ⟨sce, HSce⟩ : ∃ y, Hid (Bt (206 :: beL 4 a) = y) := ⟨_, Lib.hid rfl⟩
  have Wce : Hid (∀ W, Keep nob w W → Calls Tryz.prog 11 #[.int .u8 206, .int .i64 4, .int .u64 (a : Int)] W fun e w' => e = .returned (.string sce) ∧ Keep nob w w') := Lib.hid (fun W hk => by rw [← HSce.out]; exact (wide_ok 206 4 a (by decide) (by decide) W).mono fun e w' ⟨h1, h2⟩ => ⟨h1, hk.then_ h2⟩)
  have Tce : Hid (readT sce = .ok (intW (a : Int)) sce.size) := Lib.hid (readT_doc (by rw [← HSce.out]; exact (by rw [← whole_int (by omega)]; exact doc_whole 206 4 a (by decide) rfl (by decide) (by omega))) (by rw [← HSce.out, Bt_size, List.length_cons, beL_len]; decide))
  obtain ⟨scf, HScf⟩ : ∃ y, Hid (Bt (207 :: beL 8 a) = y) := ⟨_, Lib.hid rfl⟩
  have Wcf : Hid (∀ W, Keep nob w W → Calls Tryz.prog 11 #[.int .u8 207, .int .i64 8, .int .u64 (a : Int)] W fun e w' => e = .returned (.string scf) ∧ Keep nob w w') := Lib.hid (fun W hk => by rw [← HScf.out]; exact (wide_ok 207 8 a (by decide) (by decide) W).mono fun e w' ⟨h1, h2⟩ => ⟨h1, hk.then_ h2⟩)
  have Tcf : Hid (readT scf = .ok (intW (a : Int)) scf.size) := Lib.hid (readT_doc (by rw [← HScf.out]; exact (by rw [← whole_int (by omega)]; exact doc_whole 207 8 a (by decide) rfl (by decide) (by omega))) (by rw [← HScf.out, Bt_size, List.length_cons, beL_len]; decide))
  obtain ⟨sda, HSda⟩ : ∃ y, Hid (Bt (209 :: beL 2 a) = y) := ⟨_, Lib.hid rfl⟩
  have Wda : Hid (∀ W, Keep nob w W → Calls Tryz.prog 11 #[.int .u8 209, .int .i64 2, .int .u64 (a : Int)] W fun e w' => e = .returned (.string sda) ∧ Keep nob w w') := Lib.hid (fun W hk => by rw [← HSda.out]; exact (wide_ok 209 2 a (by decide) (by decide) W).mono fun e w' ⟨h1, h2⟩ => ⟨h1, hk.then_ h2⟩)
  have Tda : Hid (readT sda = .ok (intW (a : Int)) sda.size) := Lib.hid (readT_doc (by rw [← HSda.out]; exact (by rw [← twos_int 1 a (a : Int) (by decide) (by omega) (by omega) (by omega)]; exact doc_signed 209 2 a (by decide) rfl)) (by rw [← HSda.out, Bt_size, List.length_cons, beL_len]; decide))
  obtain ⟨sdb, HSdb⟩ : ∃ y, Hid (Bt (209 :: beL 2 u) = y) := ⟨_, Lib.hid rfl⟩
  have Wdb : Hid (∀ W, Keep nob w W → Calls Tryz.prog 11 #[.int .u8 209, .int .i64 2, .int .u64 (u : Int)] W fun e w' => e = .returned (.string sdb) ∧ Keep nob w w') := Lib.hid (fun W hk => by rw [← HSdb.out]; exact (wide_ok 209 2 u (by decide) (by decide) W).mono fun e w' ⟨h1, h2⟩ => ⟨h1, hk.then_ h2⟩)
  have Tdb : Hid (readT sdb = .ok (intW z) sdb.size) := Lib.hid (readT_doc (by rw [← HSdb.out]; exact (by rw [← twos_int 1 u z (by decide) hu (by omega) (by omega)]; exact doc_signed 209 2 u (by decide) rfl)) (by rw [← HSdb.out, Bt_size, List.length_cons, beL_len]; decide))
  obtain ⟨sdc, HSdc⟩ : ∃ y, Hid (Bt (210 :: beL 4 u) = y) := ⟨_, Lib.hid rfl⟩
  have Wdc : Hid (∀ W, Keep nob w W → Calls Tryz.prog 11 #[.int .u8 210, .int .i64 4, .int .u64 (u : Int)] W fun e w' => e = .returned (.string sdc) ∧ Keep nob w w') := Lib.hid (fun W hk => by rw [← HSdc.out]; exact (wide_ok 210 4 u (by decide) (by decide) W).mono fun e w' ⟨h1, h2⟩ => ⟨h1, hk.then_ h2⟩)
  have Tdc : Hid (readT sdc = .ok (intW z) sdc.size) := Lib.hid (readT_doc (by rw [← HSdc.out]; exact (by rw [← twos_int 3 u z (by decide) hu (by omega) (by omega)]; exact doc_signed 210 4 u (by decide) rfl)) (by rw [← HSdc.out, Bt_size, List.length_cons, beL_len]; decide))
  obtain ⟨sdd, HSdd⟩ : ∃ y, Hid (Bt (211 :: beL 8 u) = y) := ⟨_, Lib.hid rfl⟩
  have Wdd : Hid (∀ W, Keep nob w W → Calls Tryz.prog 11 #[.int .u8 211, .int .i64 8, .int .u64 (u : Int)] W fun e w' => e = .returned (.string sdd) ∧ Keep nob w w') := Lib.hid (fun W hk => by rw [← HSdd.out]; exact (wide_ok 211 8 u (by decide) (by decide) W).mono fun e w' ⟨h1, h2⟩ => ⟨h1, hk.then_ h2⟩)
  have Tdd : Hid (readT sdd = .ok (intW z) sdd.size) := Lib.hid (readT_doc (by rw [← HSdd.out]; exact (by rw [← twos_int 7 u z (by decide) hu (by omega) (by omega)]; exact doc_signed 211 8 u (by decide) rfl)) (by rw [← HSdd.out, Bt_size, List.length_cons, beL_len]; decide))
  obtain ⟨see, HSee⟩ : ∃ y, Hid (Bt (203 :: beL 8 ez) = y) := ⟨_, Lib.hid rfl⟩
  have Wee : Hid (∀ W, Keep nob w W → Calls Tryz.prog 11 #[.int .u8 203, .int .i64 8, .int .u64 (ez : Int)] W fun e w' => e = .returned (.string see) ∧ Keep nob w w') := Lib.hid (fun W hk => by rw [← HSee.out]; exact (wide_ok 203 8 ez (by decide) (by decide) W).mono fun e w' ⟨h1, h2⟩ => ⟨h1, hk.then_ h2⟩)
  have Tee : Hid (readT see = .ok (intW z) see.size) := Lib.hid (readT_doc (by rw [← HSee.out]; exact (by rw [doc_double ez hez1, hez2])) (by rw [← HSee.out, Bt_size, List.length_cons, beL_len]; decide))
  obtain ⟨sca, HSca⟩ : ∃ y, Hid (Bt (202 :: beL 4 c) = y) := ⟨_, Lib.hid rfl⟩
  have Wca : Hid (∀ W, Keep nob w W → Calls Tryz.prog 11 #[.int .u8 202, .int .i64 4, .int .u64 (c : Int)] W fun e w' => e = .returned (.string sca) ∧ Keep nob w w') := Lib.hid (fun W hk => by rw [← HSca.out]; exact (wide_ok 202 4 c (by decide) (by decide) W).mono fun e w' ⟨h1, h2⟩ => ⟨h1, hk.then_ h2⟩)
  have Tca : Hid (readT sca = .ok (vc) sca.size) := Lib.hid (readT_doc (by rw [← HSca.out]; exact (by rw [doc_single c hc, HVC.out])) (by rw [← HSca.out, Bt_size, List.length_cons, beL_len]; decide))
  obtain ⟨seb, HSeb⟩ : ∃ y, Hid (Bt (203 :: beL 8 ec) = y) := ⟨_, Lib.hid rfl⟩
  have Web : Hid (∀ W, Keep nob w W → Calls Tryz.prog 11 #[.int .u8 203, .int .i64 8, .int .u64 (ec : Int)] W fun e w' => e = .returned (.string seb) ∧ Keep nob w w') := Lib.hid (fun W hk => by rw [← HSeb.out]; exact (wide_ok 203 8 ec (by decide) (by decide) W).mono fun e w' ⟨h1, h2⟩ => ⟨h1, hk.then_ h2⟩)
  have Teb : Hid (readT seb = .ok (vc) seb.size) := Lib.hid (readT_doc (by rw [← HSeb.out]; exact (by rw [doc_double ec hec1, hec2])) (by rw [← HSeb.out, Bt_size, List.length_cons, beL_len]; decide))
  have E1 : Hid (∀ W, Keep nob w W → Calls Tryz.prog 12 #[.string scc, .string scd] W fun e w' => e = .returned (.bool true) ∧ Keep nob w w') := Lib.hid (fun W hk => (same_law _ _ _ _ _ Tcc.out Tcd.out B sa W (HG.out.keep hk (fun _ h => h.elim))).mono fun e w' ⟨h1, h2⟩ => ⟨h1, hk.then_ h2⟩)
  have E2 : Hid (∀ W, Keep nob w W → Calls Tryz.prog 12 #[.string scd, .string sce] W fun e w' => e = .returned (.bool true) ∧ Keep nob w w') := Lib.hid (fun W hk => (same_law _ _ _ _ _ Tcd.out Tce.out B sa W (HG.out.keep hk (fun _ h => h.elim))).mono fun e w' ⟨h1, h2⟩ => ⟨h1, hk.then_ h2⟩)
  have E3 : Hid (∀ W, Keep nob w W → Calls Tryz.prog 12 #[.string sce, .string scf] W fun e w' => e = .returned (.bool true) ∧ Keep nob w w') := Lib.hid (fun W hk => (same_law _ _ _ _ _ Tce.out Tcf.out B sa W (HG.out.keep hk (fun _ h => h.elim))).mono fun e w' ⟨h1, h2⟩ => ⟨h1, hk.then_ h2⟩)
  have E4 : Hid (∀ W, Keep nob w W → Calls Tryz.prog 12 #[.string scf, .string sda] W fun e w' => e = .returned (.bool true) ∧ Keep nob w w') := Lib.hid (fun W hk => (same_law _ _ _ _ _ Tcf.out Tda.out B sa W (HG.out.keep hk (fun _ h => h.elim))).mono fun e w' ⟨h1, h2⟩ => ⟨h1, hk.then_ h2⟩)
  have E5 : Hid (∀ W, Keep nob w W → Calls Tryz.prog 12 #[.string sdb, .string sdc] W fun e w' => e = .returned (.bool true) ∧ Keep nob w w') := Lib.hid (fun W hk => (same_law _ _ _ _ _ Tdb.out Tdc.out B sa W (HG.out.keep hk (fun _ h => h.elim))).mono fun e w' ⟨h1, h2⟩ => ⟨h1, hk.then_ h2⟩)
  have E6 : Hid (∀ W, Keep nob w W → Calls Tryz.prog 12 #[.string sdc, .string sdd] W fun e w' => e = .returned (.bool true) ∧ Keep nob w w') := Lib.hid (fun W hk => (same_law _ _ _ _ _ Tdc.out Tdd.out B sa W (HG.out.keep hk (fun _ h => h.elim))).mono fun e w' ⟨h1, h2⟩ => ⟨h1, hk.then_ h2⟩)
  have E9 : Hid (∀ W, Keep nob w W → Calls Tryz.prog 12 #[.string sdb, .string see] W fun e w' => e = .returned (.bool true) ∧ Keep nob w w') := Lib.hid (fun W hk => (same_law _ _ _ _ _ Tdb.out Tee.out B sa W (HG.out.keep hk (fun _ h => h.elim))).mono fun e w' ⟨h1, h2⟩ => ⟨h1, hk.then_ h2⟩)
  have E10 : Hid (∀ W, Keep nob w W → Calls Tryz.prog 12 #[.string sca, .string seb] W fun e w' => e = .returned (.bool true) ∧ Keep nob w w') := Lib.hid (fun W hk => (same_law _ _ _ _ _ Tca.out Teb.out B sa W (HG.out.keep hk (fun _ h => h.elim))).mono fun e w' ⟨h1, h2⟩ => ⟨h1, hk.then_ h2⟩)
  have Lca : Hid (∀ W, Calls Tryz.prog 11 #[.int .u8 202, .int .i64 4, .int .u64 (c : Int)] W fun e w' => e = .returned (.string sca) ∧ Keep nob W w') := Lib.hid (fun W => by rw [← HSca.out]; exact wide_ok 202 4 c (by decide) (by decide) W)
  have Leb : Hid (∀ W, Calls Tryz.prog 11 #[.int .u8 203, .int .i64 8, .int .u64 (ec : Int)] W fun e w' => e = .returned (.string seb) ∧ Keep nob W w') := Lib.hid (fun W => by rw [← HSeb.out]; exact wide_ok 203 8 ec (by decide) (by decide) W)
  have EL10 : Hid (∀ W, Keep nob w W → Calls Tryz.prog 12 #[.string sca, .string seb] W fun e w' => e = .returned (.bool true) ∧ Keep nob W w') := Lib.hid (fun W hk => same_law _ _ _ _ _ Tca.out Teb.out B sa W (HG.out.keep hk (fun _ h => h.elim)))
  have HLL : Hid (∀ W, Keep nob w W → Calls Tryz.prog 10 #[] W fun e w' => e = .returned (.bool true) ∧ Keep nob W w') := Lib.hid (fun W hk => lives_ok B sa W (HG.out.keep hk (fun _ h => h.elim)))
  have da : decide ((a : Int) < 128) = true := by rw [decide_eq_true_iff]; omega
  have da' : decide (a < 128) = true := by rw [decide_eq_true_iff]; exact ha1
  obtain ⟨ssh, HSsh⟩ : ∃ y, Hid (Bt (a :: beL 0 0) = y) := ⟨_, Lib.hid rfl⟩
  have Wsh : Hid (∀ W, Keep nob w W → Calls Tryz.prog 11 #[.int .u8 (a : Int), .int .i64 0, .int .u64 0] W fun e w' => e = .returned (.string ssh) ∧ Keep nob w w') := Lib.hid (fun W hk => by rw [← HSsh.out]; exact (wide_ok a 0 0 (by omega) (by decide) W).mono fun e w' ⟨h1, h2⟩ => ⟨h1, hk.then_ h2⟩)
  have Tsh : Hid (readT ssh = .ok (intW (a : Int)) ssh.size) := Lib.hid (readT_doc (by rw [← HSsh.out]; exact (by rw [← whole_int (by omega)]; exact doc_short a a (by omega) (pick_whole ha1))) (by rw [← HSsh.out, Bt_size, List.length_cons, beL_len]; decide))
  obtain ⟨sd0, HSd0⟩ : ∃ y, Hid (Bt (208 :: beL 1 a) = y) := ⟨_, Lib.hid rfl⟩
  have Wd0 : Hid (∀ W, Keep nob w W → Calls Tryz.prog 11 #[.int .u8 208, .int .i64 1, .int .u64 (a : Int)] W fun e w' => e = .returned (.string sd0) ∧ Keep nob w w') := Lib.hid (fun W hk => by rw [← HSd0.out]; exact (wide_ok 208 1 a (by decide) (by decide) W).mono fun e w' ⟨h1, h2⟩ => ⟨h1, hk.then_ h2⟩)
  have Td0 : Hid (readT sd0 = .ok (intW (a : Int)) sd0.size) := Lib.hid (readT_doc (by rw [← HSd0.out]; exact (by rw [← twos_int 0 a (a : Int) (by decide) (by omega) (by omega) (by omega)]; exact doc_signed 208 1 a (by decide) rfl)) (by rw [← HSd0.out, Bt_size, List.length_cons, beL_len]; decide))
  have E7 : Hid (∀ W, Keep nob w W → Calls Tryz.prog 12 #[.string ssh, .string sd0] W fun e w' => e = .returned (.bool true) ∧ Keep nob w w') := Lib.hid (fun W hk => (same_law _ _ _ _ _ Tsh.out Td0.out B sa W (HG.out.keep hk (fun _ h => h.elim))).mono fun e w' ⟨h1, h2⟩ => ⟨h1, hk.then_ h2⟩)
  have E8 : Hid (∀ W, Keep nob w W → Calls Tryz.prog 12 #[.string ssh, .string scc] W fun e w' => e = .returned (.bool true) ∧ Keep nob w w') := Lib.hid (fun W hk => (same_law _ _ _ _ _ Tsh.out Tcc.out B sa W (HG.out.keep hk (fun _ h => h.elim))).mono fun e w' ⟨h1, h2⟩ => ⟨h1, hk.then_ h2⟩)
  have dz : decide (z ≥ -32) = true := by rw [decide_eq_true_iff]; omega
  have dz1 : decide (-32 ≤ z) = true := by rw [decide_eq_true_iff]; omega
  have dz2 : decide (z < 0) = true := by rw [decide_eq_true_iff]; omega
  obtain ⟨f, HF⟩ : ∃ f : Nat, Hid ((f : Int) = z + 256) := ⟨(z + 256).toNat, Lib.hid (by omega)⟩
  have hf : (f : Int) = z + 256 := HF.out
  have jf : IntKind.u8.wrap z = (f : Int) := by rw [IntKind.wrap_u8]; omega
  have hfz : -((256 - f : Nat) : Int) = z := by omega
  obtain ⟨ssf, HSsf⟩ : ∃ y, Hid (Bt (f :: beL 0 0) = y) := ⟨_, Lib.hid rfl⟩
  have Wsf : Hid (∀ W, Keep nob w W → Calls Tryz.prog 11 #[.int .u8 (f : Int), .int .i64 0, .int .u64 0] W fun e w' => e = .returned (.string ssf) ∧ Keep nob w w') := Lib.hid (fun W hk => by rw [← HSsf.out]; exact (wide_ok f 0 0 (by omega) (by decide) W).mono fun e w' ⟨h1, h2⟩ => ⟨h1, hk.then_ h2⟩)
  have Tsf : Hid (readT ssf = .ok (intW z) ssf.size) := Lib.hid (readT_doc (by rw [← HSsf.out]; exact (by rw [← hfz, ← below_int (by omega)]; exact doc_below f (256 - f) (by omega) (pick_below (by omega)))) (by rw [← HSsf.out, Bt_size, List.length_cons, beL_len]; decide))
  have E11 : Hid (∀ W, Keep nob w W → Calls Tryz.prog 12 #[.string ssf, .string sdb] W fun e w' => e = .returned (.bool true) ∧ Keep nob w w') := Lib.hid (fun W hk => (same_law _ _ _ _ _ Tsf.out Tdb.out B sa W (HG.out.keep hk (fun _ h => h.elim))).mono fun e w' ⟨h1, h2⟩ => ⟨h1, hk.then_ h2⟩)
  have HLV : Hid (∀ W, Keep nob w W → Calls Tryz.prog 10 #[] W fun e w' => e = .returned (.bool true) ∧ Keep nob w w') := Lib.hid (fun W hk => (lives_ok B sa W (HG.out.keep hk (fun _ h => h.elim))).mono fun e w' ⟨h1, h2⟩ => ⟨h1, hk.then_ h2⟩)
  have hr1 : readN Wd sdb = .ok (intW z) sdb.size := by
    have h := Tdb.out
    unfold readT at h
    split at h
    · cases h
    · exact h
  have R1 : Hid (∀ W, Keep nob w W → Calls Tryz.prog 7 #[.string sdb] W (fun e w2 => Keep nob w w2 ∧ ∃ r : Raw, e = .returned (.tuple #[.agg #[.int .i8 (r.kind : Int), .int .u64 (r.n : Int), .bool r.neg, .slice r.mA r.mL r.mC, .int .u64 (r.bits : Int), .int .i8 r.ext, .string r.text, .slice r.kA r.kL r.kC], .nilIface]) ∧ Tr w2 (fun k => k < w2.heap.size) r (intW z))) := by
    refine Lib.hid (fun W k => ?_)
    have h := read_all sdb B sa W (HG.out.keep k (fun _ h => h.elim))
    rw [Tdb.out] at h
    exact h.mono fun e w2 ⟨h1, r, h2, h3⟩ => ⟨k.then_ h1, r, h2, Tr.mono (fun b h1 _ => h1) _ _ h3⟩
  have V1 := read_own hr1
  have X1 := read_tx (by rw [← HSdb.out, Bt_size, List.length_cons, beL_len]; decide) hr1
  have Y1 := read_dep flatWd hr1
  have B1 : Hid (∀ (W : World) (r : Raw) (D : Nat → Prop), Keep nob w W → Tr W D r (intW z) → (∀ b, D b → b < W.heap.size) → Calls Tryz.prog 20 #[.agg #[.int .i8 (r.kind : Int), .int .u64 (r.n : Int), .bool r.neg, .slice r.mA r.mL r.mC, .int .u64 (r.bits : Int), .int .i8 r.ext, .string r.text, .slice r.kA r.kL r.kC]] W fun e w' => e = .returned (.tuple #[.int .u64 (ez : Int), .bool true]) ∧ Keep nob W w') := Lib.hid (fun W r D hk ht hD => bits_ok hez V1.1 X1.2 X1.1 Y1 r D B sa W (HG.out.keep hk (fun _ h => h.elim)) ht hD)
  have hr2 : readN Wd sca = .ok (vc) sca.size := by
    have h := Tca.out
    unfold readT at h
    split at h
    · cases h
    · exact h
  have R2 : Hid (∀ W, Keep nob w W → Calls Tryz.prog 7 #[.string sca] W (fun e w2 => Keep nob w w2 ∧ ∃ r : Raw, e = .returned (.tuple #[.agg #[.int .i8 (r.kind : Int), .int .u64 (r.n : Int), .bool r.neg, .slice r.mA r.mL r.mC, .int .u64 (r.bits : Int), .int .i8 r.ext, .string r.text, .slice r.kA r.kL r.kC], .nilIface]) ∧ Tr w2 (fun k => k < w2.heap.size) r (vc))) := by
    refine Lib.hid (fun W k => ?_)
    have h := read_all sca B sa W (HG.out.keep k (fun _ h => h.elim))
    rw [Tca.out] at h
    exact h.mono fun e w2 ⟨h1, r, h2, h3⟩ => ⟨k.then_ h1, r, h2, Tr.mono (fun b h1 _ => h1) _ _ h3⟩
  have V2 := read_own hr2
  have X2 := read_tx (by rw [← HSca.out, Bt_size, List.length_cons, beL_len]; decide) hr2
  have Y2 := read_dep flatWd hr2
  have B2 : Hid (∀ (W : World) (r : Raw) (D : Nat → Prop), Keep nob w W → Tr W D r (vc) → (∀ b, D b → b < W.heap.size) → Calls Tryz.prog 20 #[.agg #[.int .i8 (r.kind : Int), .int .u64 (r.n : Int), .bool r.neg, .slice r.mA r.mL r.mC, .int .u64 (r.bits : Int), .int .i8 r.ext, .string r.text, .slice r.kA r.kL r.kC]] W fun e w' => e = .returned (.tuple #[.int .u64 (ec : Int), .bool true]) ∧ Keep nob W w') := Lib.hid (fun W r D hk ht hD => bits_ok hec V2.1 X2.2 X2.1 Y2 r D B sa W (HG.out.keep hk (fun _ h => h.elim)) ht hD)
  have O1 : Hid (∀ W, Keep nob w W → Calls Tryz.prog 21 #[.int .u32 (c : Int)] W (fun e w2 => Keep nob W w2 ∧ ∃ r : Raw, e = .returned (.agg #[.int .i8 (r.kind : Int), .int .u64 (r.n : Int), .bool r.neg, .slice r.mA r.mL r.mC, .int .u64 (r.bits : Int), .int .i8 r.ext, .string r.text, .slice r.kA r.kL r.kC]) ∧ Tr w2 (fun k => W.heap.size ≤ k) r vc)) := by
    refine Lib.hid (fun W k => ?_)
    have h := of32v_ok c B hc sa W (HG.out.keep k (fun _ h => h.elim))
    rw [HVC.out] at h
    exact h
  have HSM := Lib.hid (fun (W : World) (r r' : Raw) (D D' : Nat → Prop) (h : Tr W D r vc) (h' : Tr W D' r' vc) => same_ok vc r r' D D' W h h')
  clear V1 X1 Y1 V2 X2 Y2 hr1 hr2 hez hez1 hez2 hec hec1 hec2 g hu ha1 hn1 hn2 hf hfz
  have hk0 : Keep nob w w := Keep.refl _ _
  go_enter Tryz.func6, Tryz.ntmps6
  go_upto_region 12 with (first | (first | (go_at_call 11; (with_reducible refine (Wcc.out _ (by first | assumption | exact Keep.alloc (by assumption) _)).mono ?_); rintro e w2 ⟨rfl, hk2⟩) | (go_at_call 11; (with_reducible refine (Wcd.out _ (by first | assumption | exact Keep.alloc (by assumption) _)).mono ?_); rintro e w2 ⟨rfl, hk2⟩) | (go_at_call 11; (with_reducible refine (Wce.out _ (by first | assumption | exact Keep.alloc (by assumption) _)).mono ?_); rintro e w2 ⟨rfl, hk2⟩) | (go_at_call 11; (with_reducible refine (Wcf.out _ (by first | assumption | exact Keep.alloc (by assumption) _)).mono ?_); rintro e w2 ⟨rfl, hk2⟩) | (go_at_call 11; (with_reducible refine (Wda.out _ (by first | assumption | exact Keep.alloc (by assumption) _)).mono ?_); rintro e w2 ⟨rfl, hk2⟩) | (go_at_call 11; (with_reducible refine (Wdb.out _ (by first | assumption | exact Keep.alloc (by assumption) _)).mono ?_); rintro e w2 ⟨rfl, hk2⟩) | (go_at_call 11; (with_reducible refine (Wdc.out _ (by first | assumption | exact Keep.alloc (by assumption) _)).mono ?_); rintro e w2 ⟨rfl, hk2⟩) | (go_at_call 11; (with_reducible refine (Wdd.out _ (by first | assumption | exact Keep.alloc (by assumption) _)).mono ?_); rintro e w2 ⟨rfl, hk2⟩) | (go_at_call 11; (with_reducible refine (Wee.out _ (by first | assumption | exact Keep.alloc (by assumption) _)).mono ?_); rintro e w2 ⟨rfl, hk2⟩) | (go_at_call 11; (with_reducible refine (Wca.out _ (by first | assumption | exact Keep.alloc (by assumption) _)).mono ?_); rintro e w2 ⟨rfl, hk2⟩) | (go_at_call 11; (with_reducible refine (Web.out _ (by first | assumption | exact Keep.alloc (by assumption) _)).mono ?_); rintro e w2 ⟨rfl, hk2⟩) | (go_at_call 12; (with_reducible refine (E1.out _ (by first | assumption | exact Keep.alloc (by assumption) _)).mono ?_); rintro e w2 ⟨rfl, hk2⟩) | (go_at_call 12; (with_reducible refine (E2.out _ (by first | assumption | exact Keep.alloc (by assumption) _)).mono ?_); rintro e w2 ⟨rfl, hk2⟩) | (go_at_call 12; (with_reducible refine (E3.out _ (by first | assumption | exact Keep.alloc (by assumption) _)).mono ?_); rintro e w2 ⟨rfl, hk2⟩) | (go_at_call 12; (with_reducible refine (E4.out _ (by first | assumption | exact Keep.alloc (by assumption) _)).mono ?_); rintro e w2 ⟨rfl, hk2⟩) | (go_at_call 12; (with_reducible refine (E5.out _ (by first | assumption | exact Keep.alloc (by assumption) _)).mono ?_); rintro e w2 ⟨rfl, hk2⟩) | (go_at_call 12; (with_reducible refine (E6.out _ (by first | assumption | exact Keep.alloc (by assumption) _)).mono ?_); rintro e w2 ⟨rfl, hk2⟩) | (go_at_call 12; (with_reducible refine (E9.out _ (by first | assumption | exact Keep.alloc (by assumption) _)).mono ?_); rintro e w2 ⟨rfl, hk2⟩) | (go_at_call 12; (with_reducible refine (E10.out _ (by first | assumption | exact Keep.alloc (by assumption) _)).mono ?_); rintro e w2 ⟨rfl, hk2⟩) | (go_at_call 11; (with_reducible refine (Wsh.out _ (by first | assumption | exact Keep.alloc (by assumption) _)).mono ?_); rintro e w2 ⟨rfl, hk2⟩) | (go_at_call 11; (with_reducible refine (Wd0.out _ (by first | assumption | exact Keep.alloc (by assumption) _)).mono ?_); rintro e w2 ⟨rfl, hk2⟩) | (go_at_call 12; (with_reducible refine (E7.out _ (by first | assumption | exact Keep.alloc (by assumption) _)).mono ?_); rintro e w2 ⟨rfl, hk2⟩) | (go_at_call 12; (with_reducible refine (E8.out _ (by first | assumption | exact Keep.alloc (by assumption) _)).mono ?_); rintro e w2 ⟨rfl, hk2⟩) | (go_at_call 11; (with_reducible refine (Wsf.out _ (by first | assumption | exact Keep.alloc (by assumption) _)).mono ?_); rintro e w2 ⟨rfl, hk2⟩) | (go_at_call 12; (with_reducible refine (E11.out _ (by first | assumption | exact Keep.alloc (by assumption) _)).mono ?_); rintro e w2 ⟨rfl, hk2⟩)) | (go_at_call 7; (with_reducible refine (R1.out _ (by first | assumption | exact Keep.alloc (by assumption) _)).mono ?_); rintro e w5 ⟨hk5, q1, rfl, ht1⟩))
  have HK5 := Lib.hid hk5
  have HT1 := Lib.hid ht1
  clear hk5 ht1
  obtain ⟨x1, HX1⟩ : ∃ x1, Hid (w5.alloc (.cells #[.int .i8 (q1.kind : Int), .int .u64 (q1.n : Int), .bool q1.neg, .slice q1.mA q1.mL q1.mC, .int .u64 (q1.bits : Int), .int .i8 q1.ext, .string q1.text, .slice q1.kA q1.kL q1.kC] 31) = x1) := ⟨_, Lib.hid rfl⟩
  obtain ⟨b1, HB1⟩ : ∃ b1, Hid (w5.heap.size = b1) := ⟨_, Lib.hid rfl⟩
  have HA1 : Hid (Keep nob w5 x1) := by unfold Hid; rw [← HX1.out]; exact (Keep.refl _ _).alloc _
  have HN1 := Lib.hid (range_new w5 q1 31)
  rw [show w5.alloc (.cells (ER.cells q1).toArray 31) = x1 from HX1.out, HB1.out] at HN1
  rw [HX1.out, HB1.out]
  have HW1 : Hid (Keep nob w x1) := Lib.hid (HK5.out.then_ HA1.out)
  have HTX1 : Hid (Tr x1 (fun k => k < x1.heap.size) q1 (intW z)) := Lib.hid (Tr.keep HA1.out (nobD _) _ _ (Tr.mono (fun b _ h => Nat.lt_of_lt_of_le h HA1.out.size) _ _ HT1.out))
  obtain ⟨c0, c1, c2, c3, c4, c5, c6, c7⟩ := cells_val HN1.out
  go_upto_region 13 with (go_at_call 20; go_must (refine (B1.out _ q1 _ HW1.out HTX1.out (fun _ h => h)).mono ?_); rintro e w6 ⟨rfl, hk6⟩)
  have hk6 : Keep nob w w6 := HW1.out.then_ hk6
  clear c0 c1 c2 c3 c4 c5 c6 c7
  go_upto_region 16 with (first | (first | (go_at_call 11; (with_reducible refine (Wcc.out _ (by first | assumption | exact Keep.alloc (by assumption) _)).mono ?_); rintro e w2 ⟨rfl, hk2⟩) | (go_at_call 11; (with_reducible refine (Wcd.out _ (by first | assumption | exact Keep.alloc (by assumption) _)).mono ?_); rintro e w2 ⟨rfl, hk2⟩) | (go_at_call 11; (with_reducible refine (Wce.out _ (by first | assumption | exact Keep.alloc (by assumption) _)).mono ?_); rintro e w2 ⟨rfl, hk2⟩) | (go_at_call 11; (with_reducible refine (Wcf.out _ (by first | assumption | exact Keep.alloc (by assumption) _)).mono ?_); rintro e w2 ⟨rfl, hk2⟩) | (go_at_call 11; (with_reducible refine (Wda.out _ (by first | assumption | exact Keep.alloc (by assumption) _)).mono ?_); rintro e w2 ⟨rfl, hk2⟩) | (go_at_call 11; (with_reducible refine (Wdb.out _ (by first | assumption | exact Keep.alloc (by assumption) _)).mono ?_); rintro e w2 ⟨rfl, hk2⟩) | (go_at_call 11; (with_reducible refine (Wdc.out _ (by first | assumption | exact Keep.alloc (by assumption) _)).mono ?_); rintro e w2 ⟨rfl, hk2⟩) | (go_at_call 11; (with_reducible refine (Wdd.out _ (by first | assumption | exact Keep.alloc (by assumption) _)).mono ?_); rintro e w2 ⟨rfl, hk2⟩) | (go_at_call 11; (with_reducible refine (Wee.out _ (by first | assumption | exact Keep.alloc (by assumption) _)).mono ?_); rintro e w2 ⟨rfl, hk2⟩) | (go_at_call 11; (with_reducible refine (Wca.out _ (by first | assumption | exact Keep.alloc (by assumption) _)).mono ?_); rintro e w2 ⟨rfl, hk2⟩) | (go_at_call 11; (with_reducible refine (Web.out _ (by first | assumption | exact Keep.alloc (by assumption) _)).mono ?_); rintro e w2 ⟨rfl, hk2⟩) | (go_at_call 12; (with_reducible refine (E1.out _ (by first | assumption | exact Keep.alloc (by assumption) _)).mono ?_); rintro e w2 ⟨rfl, hk2⟩) | (go_at_call 12; (with_reducible refine (E2.out _ (by first | assumption | exact Keep.alloc (by assumption) _)).mono ?_); rintro e w2 ⟨rfl, hk2⟩) | (go_at_call 12; (with_reducible refine (E3.out _ (by first | assumption | exact Keep.alloc (by assumption) _)).mono ?_); rintro e w2 ⟨rfl, hk2⟩) | (go_at_call 12; (with_reducible refine (E4.out _ (by first | assumption | exact Keep.alloc (by assumption) _)).mono ?_); rintro e w2 ⟨rfl, hk2⟩) | (go_at_call 12; (with_reducible refine (E5.out _ (by first | assumption | exact Keep.alloc (by assumption) _)).mono ?_); rintro e w2 ⟨rfl, hk2⟩) | (go_at_call 12; (with_reducible refine (E6.out _ (by first | assumption | exact Keep.alloc (by assumption) _)).mono ?_); rintro e w2 ⟨rfl, hk2⟩) | (go_at_call 12; (with_reducible refine (E9.out _ (by first | assumption | exact Keep.alloc (by assumption) _)).mono ?_); rintro e w2 ⟨rfl, hk2⟩) | (go_at_call 12; (with_reducible refine (E10.out _ (by first | assumption | exact Keep.alloc (by assumption) _)).mono ?_); rintro e w2 ⟨rfl, hk2⟩) | (go_at_call 11; (with_reducible refine (Wsh.out _ (by first | assumption | exact Keep.alloc (by assumption) _)).mono ?_); rintro e w2 ⟨rfl, hk2⟩) | (go_at_call 11; (with_reducible refine (Wd0.out _ (by first | assumption | exact Keep.alloc (by assumption) _)).mono ?_); rintro e w2 ⟨rfl, hk2⟩) | (go_at_call 12; (with_reducible refine (E7.out _ (by first | assumption | exact Keep.alloc (by assumption) _)).mono ?_); rintro e w2 ⟨rfl, hk2⟩) | (go_at_call 12; (with_reducible refine (E8.out _ (by first | assumption | exact Keep.alloc (by assumption) _)).mono ?_); rintro e w2 ⟨rfl, hk2⟩) | (go_at_call 11; (with_reducible refine (Wsf.out _ (by first | assumption | exact Keep.alloc (by assumption) _)).mono ?_); rintro e w2 ⟨rfl, hk2⟩) | (go_at_call 12; (with_reducible refine (E11.out _ (by first | assumption | exact Keep.alloc (by assumption) _)).mono ?_); rintro e w2 ⟨rfl, hk2⟩)) | (go_at_call 7; (with_reducible refine (R2.out _ (by first | assumption | exact Keep.alloc (by assumption) _)).mono ?_); rintro e w7 ⟨hk7, q2, rfl, ht2⟩))
  have HK7 := Lib.hid hk7
  have HT2 := Lib.hid ht2
  clear hk7 ht2
  obtain ⟨x2, HX2⟩ : ∃ x2, Hid (w7.alloc (.cells #[.int .i8 (q2.kind : Int), .int .u64 (q2.n : Int), .bool q2.neg, .slice q2.mA q2.mL q2.mC, .int .u64 (q2.bits : Int), .int .i8 q2.ext, .string q2.text, .slice q2.kA q2.kL q2.kC] 31) = x2) := ⟨_, Lib.hid rfl⟩
  obtain ⟨b2, HB2⟩ : ∃ b2, Hid (w7.heap.size = b2) := ⟨_, Lib.hid rfl⟩
  have HA2 : Hid (Keep nob w7 x2) := by unfold Hid; rw [← HX2.out]; exact (Keep.refl _ _).alloc _
  have HN2 := Lib.hid (range_new w7 q2 31)
  rw [show w7.alloc (.cells (ER.cells q2).toArray 31) = x2 from HX2.out, HB2.out] at HN2
  rw [HX2.out, HB2.out]
  have HW2 : Hid (Keep nob w x2) := Lib.hid (HK7.out.then_ HA2.out)
  have HTX2 : Hid (Tr x2 (fun k => k < x2.heap.size) q2 vc) := Lib.hid (Tr.keep HA2.out (nobD _) _ _ (Tr.mono (fun b _ h => Nat.lt_of_lt_of_le h HA2.out.size) _ _ HT2.out))
  obtain ⟨c0, c1, c2, c3, c4, c5, c6, c7⟩ := cells_val HN2.out
  go_upto_region 17 with (go_at_call 20; go_must (refine (B2.out _ q2 _ HW2.out HTX2.out (fun _ h => h)).mono ?_); rintro e w8 ⟨rfl, hk8⟩)
  have HK8 := Lib.hid hk8
  have HW8 : Hid (Keep nob w w8) := Lib.hid (HW2.out.then_ hk8)
  clear c0 c1 c2 c3 c4 c5 c6 c7 hk8
  refine wp_region_fx 23 [.p, .p, .p, .p, .p, .p, .kv, .p, .cf (fun x => .agg #[.int .i8 (x.r.kind : Int), .int .u64 (x.r.n : Int), .bool x.r.neg, .slice x.r.mA x.r.mL x.r.mC, .int .u64 (x.r.bits : Int), .int .i8 x.r.ext, .string x.r.text, .slice x.r.kA x.r.kL x.r.kC]) (fun x W => Tr W (fun _ => True) x.r vc), .cv (.bool true), .p, .p, .p, .p, .cv (.string sca), .p, .cv (.string seb), .cv (.bool true), .p, .p, .cv (.bool true), .p, .p] [] nob (fun _ => True) (fun _ _ _ _ => trivial) trivial (by kernel_rfl) (by kernel_rfl) (fun h => absurd rfl h) ?_
  simp only [List.take_succ_cons, List.take_zero, List.drop_succ_cons, List.drop_zero]
  refine fx_p ?_ (by rfl) (fun w' => ?_) (fun K hK => ?_); rotate_left; (go_simp; first | done | exact rfl); go_simp; refine hK _ ?_; clear hK K
  refine fx_p ?_ (by rfl) (fun w' => ?_) (fun K hK => ?_); rotate_left; (go_simp; first | done | exact rfl); go_simp; refine hK _ ?_; clear hK K
  refine fx_p ?_ (by rfl) (fun w' => ?_) (fun K hK => ?_); rotate_left; (go_simp; first | done | exact rfl); go_simp; refine hK _ ?_; clear hK K
  refine fx_p ?_ (by rfl) (fun w' => ?_) (fun K hK => ?_); rotate_left; (go_simp; first | done | exact rfl); go_simp; refine hK _ ?_; clear hK K
  refine fx_p ?_ (by rfl) (fun w' => ?_) (fun K hK => ?_); rotate_left; (go_simp; first | done | exact rfl); go_simp; refine hK _ ?_; clear hK K
  refine fx_p ?_ (by rfl) (fun w' => ?_) (fun K hK => ?_); rotate_left; (go_simp; first | done | exact rfl); go_simp; refine hK _ ?_; clear hK K
  refine fx_kv ?_ (by rfl) (fun w' hw' ha => ?_) (fun K hK => ?_); rotate_left; (obtain ⟨c0, c1, c2, c3, c4, c5, c6, c7⟩ := cells_val (range_keep (HK8.out.then_ hw'.keep) HN2.out); go_simp; first | done | exact rfl); go_simp; refine hK _ ?_; clear hK K
  refine fx_p ?_ (by rfl) (fun w' => ?_) (fun K hK => ?_); rotate_left; (go_simp; first | done | exact rfl); go_simp; refine hK _ ?_; clear hK K
  refine fx_cf (f := ?_) (args := ?_) (by rfl) (fun x W W' h k => Tr.keep k (fun _ _ hS => hS) _ _ h) (fun w' => ?_) (fun w' hw' ha => ?_) (fun K hK x => ?_); rotate_left 2; (go_simp; first | done | (refine And.intro ?_ ?_ <;> exact rfl) | exact rfl); (refine (O1.out _ (HW8.out.then_ hw'.keep)).mono ?_; rintro e w3 ⟨h2, r, rfl, h3⟩; exact ⟨⟨undef, 0, r⟩, rfl, h2, Tr.mono (fun _ _ _ => trivial) _ _ h3⟩); go_simp; refine hK _ _ ?_; clear hK K
  refine fx_cv (f := ?_) (args := ?_) (by rfl) (fun w' => ?_) (fun w' hw' ha => ?_) (fun K hK => ?_); rotate_left 2; (go_simp; first | done | (refine And.intro ?_ ?_ <;> exact rfl) | exact rfl); (have hx := ha _ List.mem_cons_self (by kernel_rfl); have hs := HSM.out w' q2 x.r _ _ (Tr.keep (HK8.out.then_ hw'.keep) (nobD _) _ _ HTX2.out) hx; simp only [ER] at hs; exact hs); go_simp; refine hK _ ?_; clear hK K
  refine fx_p ?_ (by rfl) (fun w' => ?_) (fun K hK => ?_); rotate_left; (go_simp; first | done | exact rfl); go_simp; refine hK _ ?_; clear hK K
  refine fx_p ?_ (by rfl) (fun w' => ?_) (fun K hK => ?_); rotate_left; (go_simp; first | done | exact rfl); go_simp; refine hK _ ?_; clear hK K
  refine fx_p ?_ (by rfl) (fun w' => ?_) (fun K hK => ?_); rotate_left; (go_simp; first | done | exact rfl); go_simp; refine hK _ ?_; clear hK K
  refine fx_p ?_ (by rfl) (fun w' => ?_) (fun K hK => ?_); rotate_left; (go_simp; first | done | exact rfl); go_simp; refine hK _ ?_; clear hK K
  refine fx_cv (f := ?_) (args := ?_) (by rfl) (fun w' => ?_) (fun w' hw' ha => ?_) (fun K hK => ?_); rotate_left 2; (go_simp; first | done | (refine And.intro ?_ ?_ <;> exact rfl) | exact rfl); (exact Lca.out _); go_simp; refine hK _ ?_; clear hK K
  refine fx_p ?_ (by rfl) (fun w' => ?_) (fun K hK => ?_); rotate_left; (go_simp; first | done | exact rfl); go_simp; refine hK _ ?_; clear hK K
  refine fx_cv (f := ?_) (args := ?_) (by rfl) (fun w' => ?_) (fun w' hw' ha => ?_) (fun K hK => ?_); rotate_left 2; (go_simp; first | done | (refine And.intro ?_ ?_ <;> exact rfl) | exact rfl); (exact Leb.out _); go_simp; refine hK _ ?_; clear hK K
  refine fx_cv (f := ?_) (args := ?_) (by rfl) (fun w' => ?_) (fun w' hw' ha => ?_) (fun K hK => ?_); rotate_left 2; (go_simp; first | done | (refine And.intro ?_ ?_ <;> exact rfl) | exact rfl); (exact EL10.out _ (HW8.out.then_ hw'.keep)); go_simp; refine hK _ ?_; clear hK K
  refine fx_p ?_ (by rfl) (fun w' => ?_) (fun K hK => ?_); rotate_left; (go_simp; first | done | exact rfl); go_simp; refine hK _ ?_; clear hK K
  refine fx_p ?_ (by rfl) (fun w' => ?_) (fun K hK => ?_); rotate_left; (go_simp; first | done | exact rfl); go_simp; refine hK _ ?_; clear hK K
  refine fx_cv (f := ?_) (args := ?_) (by rfl) (fun w' => ?_) (fun w' hw' ha => ?_) (fun K hK => ?_); rotate_left 2; (go_simp; first | done | (refine And.intro ?_ ?_ <;> exact rfl) | exact rfl); (exact HLL.out _ (HW8.out.then_ hw'.keep)); go_simp; refine hK _ ?_; clear hK K
  refine fx_p ?_ (by rfl) (fun w' => ?_) (fun K hK => ?_); rotate_left; (go_simp; first | done | exact rfl); go_simp; refine hK _ ?_; clear hK K
  refine fx_p ?_ (by rfl) (fun w' => ?_) (fun K hK => ?_); rotate_left; (go_simp; first | done | exact rfl); go_simp; refine hK _ ?_; clear hK K
  refine fx_nil ?_
  intro w9 hk9 hΓ
  have HK9 := Lib.hid hk9.keep
  have HFx := Lib.hid (hΓ _ List.mem_cons_self)
  clear hk9 hΓ
  go_wp2
  go_ret
  exact ⟨rfl, HW8.out.then_ HK9.out⟩
set_option maxRecDepth 100000 in
set_option maxHeartbeats 8000000 in
theorem lawN_al (a : Nat) (ha : a < 256) (z : Int) (hz1 : -32768 ≤ z) (hz2 : z < 32768) (c : Nat) (hc : c < 4294967296) (ha1 : a < 128) (hn1 : z < -32) (B : Nat) (sa : Nat → Addr) (w : World) (g : GL B sa w) : Calls Tryz.prog 6 #[.int .u8 (a : Int), .int .i16 z, .int .u32 (c : Int)] w fun e w' => e = .returned (.bool true) ∧ Keep nob w w' := by
  obtain ⟨u, HU⟩ : ∃ u : Nat, Hid ((u : Int) = z % 18446744073709551616) := ⟨(z % 18446744073709551616).toNat, Lib.hid (by omega)⟩
  have hu : (u : Int) = z % 18446744073709551616 := HU.out
  have i1 : IntKind.u64.wrap (a : Int) = (a : Int) := by rw [IntKind.wrap_u64]; omega
  have i2 : IntKind.u64.wrap z = (u : Int) := by rw [IntKind.wrap_u64]; exact HU.out.symm
  have i3 : IntKind.u64.wrap (c : Int) = (c : Int) := by rw [IntKind.wrap_u64]; omega
  obtain ⟨ez, hez, hez1, hez2⟩ := small_bits z (by omega)
  obtain ⟨vc, HVC⟩ : ∃ vc, Hid (ofV 23 (-149) 8 c = vc) := ⟨_, Lib.hid rfl⟩
  obtain ⟨ec, hec, hec1, hec2⟩ := single_bits c
  rw [HVC.out] at hec hec2
  have HG := Lib.hid g
  obtain ⟨scc, HScc⟩ : ∃ y, Hid (Bt (204 :: beL 1 a) = y) := ⟨_, Lib.hid rfl⟩
  have Wcc : Hid (∀ W, Keep nob w W → Calls Tryz.prog 11 #[.int .u8 204, .int .i64 1, .int .u64 (a : Int)] W fun e w' => e = .returned (.string scc) ∧ Keep nob w w') := Lib.hid (fun W hk => by rw [← HScc.out]; exact (wide_ok 204 1 a (by decide) (by decide) W).mono fun e w' ⟨h1, h2⟩ => ⟨h1, hk.then_ h2⟩)
  have Tcc : Hid (readT scc = .ok (intW (a : Int)) scc.size) := Lib.hid (readT_doc (by rw [← HScc.out]; exact (by rw [← whole_int (by omega)]; exact doc_whole 204 1 a (by decide) rfl (by decide) (by omega))) (by rw [← HScc.out, Bt_size, List.length_cons, beL_len]; decide))
  obtain ⟨scd, HScd⟩ : ∃ y, Hid (Bt (205 :: beL 2 a) = y) := ⟨_, Lib.hid rfl⟩
  have Wcd : Hid (∀ W, Keep nob w W → Calls Tryz.prog 11 #[.int .u8 205, .int .i64 2, .int .u64 (a : Int)] W fun e w' => e = .returned (.string scd) ∧ Keep nob w w') := Lib.hid (fun W hk => by rw [← HScd.out]; exact (wide_ok 205 2 a (by decide) (by decide) W).mono fun e w' ⟨h1, h2⟩ => ⟨h1, hk.then_ h2⟩)
  have Tcd : Hid (readT scd = .ok (intW (a : Int)) scd.size) := Lib.hid (readT_doc (by rw [← HScd.out]; exact (by rw [← whole_int (by omega)]; exact doc_whole 205 2 a (by decide) rfl (by decide) (by omega))) (by rw [← HScd.out, Bt_size, List.length_cons, beL_len]; decide))
  obtain ⟨sce, HSce⟩ : ∃ y, Hid (Bt (206 :: beL 4 a) = y) := ⟨_, Lib.hid rfl⟩
  have Wce : Hid (∀ W, Keep nob w W → Calls Tryz.prog 11 #[.int .u8 206, .int .i64 4, .int .u64 (a : Int)] W fun e w' => e = .returned (.string sce) ∧ Keep nob w w') := Lib.hid (fun W hk => by rw [← HSce.out]; exact (wide_ok 206 4 a (by decide) (by decide) W).mono fun e w' ⟨h1, h2⟩ => ⟨h1, hk.then_ h2⟩)
  have Tce : Hid (readT sce = .ok (intW (a : Int)) sce.size) := Lib.hid (readT_doc (by rw [← HSce.out]; exact (by rw [← whole_int (by omega)]; exact doc_whole 206 4 a (by decide) rfl (by decide) (by omega))) (by rw [← HSce.out, Bt_size, List.length_cons, beL_len]; decide))
  obtain ⟨scf, HScf⟩ : ∃ y, Hid (Bt (207 :: beL 8 a) = y) := ⟨_, Lib.hid rfl⟩
  have Wcf : Hid (∀ W, Keep nob w W → Calls Tryz.prog 11 #[.int .u8 207, .int .i64 8, .int .u64 (a : Int)] W fun e w' => e = .returned (.string scf) ∧ Keep nob w w') := Lib.hid (fun W hk => by rw [← HScf.out]; exact (wide_ok 207 8 a (by decide) (by decide) W).mono fun e w' ⟨h1, h2⟩ => ⟨h1, hk.then_ h2⟩)
  have Tcf : Hid (readT scf = .ok (intW (a : Int)) scf.size) := Lib.hid (readT_doc (by rw [← HScf.out]; exact (by rw [← whole_int (by omega)]; exact doc_whole 207 8 a (by decide) rfl (by decide) (by omega))) (by rw [← HScf.out, Bt_size, List.length_cons, beL_len]; decide))
  obtain ⟨sda, HSda⟩ : ∃ y, Hid (Bt (209 :: beL 2 a) = y) := ⟨_, Lib.hid rfl⟩
  have Wda : Hid (∀ W, Keep nob w W → Calls Tryz.prog 11 #[.int .u8 209, .int .i64 2, .int .u64 (a : Int)] W fun e w' => e = .returned (.string sda) ∧ Keep nob w w') := Lib.hid (fun W hk => by rw [← HSda.out]; exact (wide_ok 209 2 a (by decide) (by decide) W).mono fun e w' ⟨h1, h2⟩ => ⟨h1, hk.then_ h2⟩)
  have Tda : Hid (readT sda = .ok (intW (a : Int)) sda.size) := Lib.hid (readT_doc (by rw [← HSda.out]; exact (by rw [← twos_int 1 a (a : Int) (by decide) (by omega) (by omega) (by omega)]; exact doc_signed 209 2 a (by decide) rfl)) (by rw [← HSda.out, Bt_size, List.length_cons, beL_len]; decide))
  obtain ⟨sdb, HSdb⟩ : ∃ y, Hid (Bt (209 :: beL 2 u) = y) := ⟨_, Lib.hid rfl⟩
  have Wdb : Hid (∀ W, Keep nob w W → Calls Tryz.prog 11 #[.int .u8 209, .int .i64 2, .int .u64 (u : Int)] W fun e w' => e = .returned (.string sdb) ∧ Keep nob w w') := Lib.hid (fun W hk => by rw [← HSdb.out]; exact (wide_ok 209 2 u (by decide) (by decide) W).mono fun e w' ⟨h1, h2⟩ => ⟨h1, hk.then_ h2⟩)
  have Tdb : Hid (readT sdb = .ok (intW z) sdb.size) := Lib.hid (readT_doc (by rw [← HSdb.out]; exact (by rw [← twos_int 1 u z (by decide) hu (by omega) (by omega)]; exact doc_signed 209 2 u (by decide) rfl)) (by rw [← HSdb.out, Bt_size, List.length_cons, beL_len]; decide))
  obtain ⟨sdc, HSdc⟩ : ∃ y, Hid (Bt (210 :: beL 4 u) = y) := ⟨_, Lib.hid rfl⟩
  have Wdc : Hid (∀ W, Keep nob w W → Calls Tryz.prog 11 #[.int .u8 210, .int .i64 4, .int .u64 (u : Int)] W fun e w' => e = .returned (.string sdc) ∧ Keep nob w w') := Lib.hid (fun W hk => by rw [← HSdc.out]; exact (wide_ok 210 4 u (by decide) (by decide) W).mono fun e w' ⟨h1, h2⟩ => ⟨h1, hk.then_ h2⟩)
  have Tdc : Hid (readT sdc = .ok (intW z) sdc.size) := Lib.hid (readT_doc (by rw [← HSdc.out]; exact (by rw [← twos_int 3 u z (by decide) hu (by omega) (by omega)]; exact doc_signed 210 4 u (by decide) rfl)) (by rw [← HSdc.out, Bt_size, List.length_cons, beL_len]; decide))
  obtain ⟨sdd, HSdd⟩ : ∃ y, Hid (Bt (211 :: beL 8 u) = y) := ⟨_, Lib.hid rfl⟩
  have Wdd : Hid (∀ W, Keep nob w W → Calls Tryz.prog 11 #[.int .u8 211, .int .i64 8, .int .u64 (u : Int)] W fun e w' => e = .returned (.string sdd) ∧ Keep nob w w') := Lib.hid (fun W hk => by rw [← HSdd.out]; exact (wide_ok 211 8 u (by decide) (by decide) W).mono fun e w' ⟨h1, h2⟩ => ⟨h1, hk.then_ h2⟩)
  have Tdd : Hid (readT sdd = .ok (intW z) sdd.size) := Lib.hid (readT_doc (by rw [← HSdd.out]; exact (by rw [← twos_int 7 u z (by decide) hu (by omega) (by omega)]; exact doc_signed 211 8 u (by decide) rfl)) (by rw [← HSdd.out, Bt_size, List.length_cons, beL_len]; decide))
  obtain ⟨see, HSee⟩ : ∃ y, Hid (Bt (203 :: beL 8 ez) = y) := ⟨_, Lib.hid rfl⟩
  have Wee : Hid (∀ W, Keep nob w W → Calls Tryz.prog 11 #[.int .u8 203, .int .i64 8, .int .u64 (ez : Int)] W fun e w' => e = .returned (.string see) ∧ Keep nob w w') := Lib.hid (fun W hk => by rw [← HSee.out]; exact (wide_ok 203 8 ez (by decide) (by decide) W).mono fun e w' ⟨h1, h2⟩ => ⟨h1, hk.then_ h2⟩)
  have Tee : Hid (readT see = .ok (intW z) see.size) := Lib.hid (readT_doc (by rw [← HSee.out]; exact (by rw [doc_double ez hez1, hez2])) (by rw [← HSee.out, Bt_size, List.length_cons, beL_len]; decide))
  obtain ⟨sca, HSca⟩ : ∃ y, Hid (Bt (202 :: beL 4 c) = y) := ⟨_, Lib.hid rfl⟩
  have Wca : Hid (∀ W, Keep nob w W → Calls Tryz.prog 11 #[.int .u8 202, .int .i64 4, .int .u64 (c : Int)] W fun e w' => e = .returned (.string sca) ∧ Keep nob w w') := Lib.hid (fun W hk => by rw [← HSca.out]; exact (wide_ok 202 4 c (by decide) (by decide) W).mono fun e w' ⟨h1, h2⟩ => ⟨h1, hk.then_ h2⟩)
  have Tca : Hid (readT sca = .ok (vc) sca.size) := Lib.hid (readT_doc (by rw [← HSca.out]; exact (by rw [doc_single c hc, HVC.out])) (by rw [← HSca.out, Bt_size, List.length_cons, beL_len]; decide))
  obtain ⟨seb, HSeb⟩ : ∃ y, Hid (Bt (203 :: beL 8 ec) = y) := ⟨_, Lib.hid rfl⟩
  have Web : Hid (∀ W, Keep nob w W → Calls Tryz.prog 11 #[.int .u8 203, .int .i64 8, .int .u64 (ec : Int)] W fun e w' => e = .returned (.string seb) ∧ Keep nob w w') := Lib.hid (fun W hk => by rw [← HSeb.out]; exact (wide_ok 203 8 ec (by decide) (by decide) W).mono fun e w' ⟨h1, h2⟩ => ⟨h1, hk.then_ h2⟩)
  have Teb : Hid (readT seb = .ok (vc) seb.size) := Lib.hid (readT_doc (by rw [← HSeb.out]; exact (by rw [doc_double ec hec1, hec2])) (by rw [← HSeb.out, Bt_size, List.length_cons, beL_len]; decide))
  have E1 : Hid (∀ W, Keep nob w W → Calls Tryz.prog 12 #[.string scc, .string scd] W fun e w' => e = .returned (.bool true) ∧ Keep nob w w') := Lib.hid (fun W hk => (same_law _ _ _ _ _ Tcc.out Tcd.out B sa W (HG.out.keep hk (fun _ h => h.elim))).mono fun e w' ⟨h1, h2⟩ => ⟨h1, hk.then_ h2⟩)
  have E2 : Hid (∀ W, Keep nob w W → Calls Tryz.prog 12 #[.string scd, .string sce] W fun e w' => e = .returned (.bool true) ∧ Keep nob w w') := Lib.hid (fun W hk => (same_law _ _ _ _ _ Tcd.out Tce.out B sa W (HG.out.keep hk (fun _ h => h.elim))).mono fun e w' ⟨h1, h2⟩ => ⟨h1, hk.then_ h2⟩)
  have E3 : Hid (∀ W, Keep nob w W → Calls Tryz.prog 12 #[.string sce, .string scf] W fun e w' => e = .returned (.bool true) ∧ Keep nob w w') := Lib.hid (fun W hk => (same_law _ _ _ _ _ Tce.out Tcf.out B sa W (HG.out.keep hk (fun _ h => h.elim))).mono fun e w' ⟨h1, h2⟩ => ⟨h1, hk.then_ h2⟩)
  have E4 : Hid (∀ W, Keep nob w W → Calls Tryz.prog 12 #[.string scf, .string sda] W fun e w' => e = .returned (.bool true) ∧ Keep nob w w') := Lib.hid (fun W hk => (same_law _ _ _ _ _ Tcf.out Tda.out B sa W (HG.out.keep hk (fun _ h => h.elim))).mono fun e w' ⟨h1, h2⟩ => ⟨h1, hk.then_ h2⟩)
  have E5 : Hid (∀ W, Keep nob w W → Calls Tryz.prog 12 #[.string sdb, .string sdc] W fun e w' => e = .returned (.bool true) ∧ Keep nob w w') := Lib.hid (fun W hk => (same_law _ _ _ _ _ Tdb.out Tdc.out B sa W (HG.out.keep hk (fun _ h => h.elim))).mono fun e w' ⟨h1, h2⟩ => ⟨h1, hk.then_ h2⟩)
  have E6 : Hid (∀ W, Keep nob w W → Calls Tryz.prog 12 #[.string sdc, .string sdd] W fun e w' => e = .returned (.bool true) ∧ Keep nob w w') := Lib.hid (fun W hk => (same_law _ _ _ _ _ Tdc.out Tdd.out B sa W (HG.out.keep hk (fun _ h => h.elim))).mono fun e w' ⟨h1, h2⟩ => ⟨h1, hk.then_ h2⟩)
  have E9 : Hid (∀ W, Keep nob w W → Calls Tryz.prog 12 #[.string sdb, .string see] W fun e w' => e = .returned (.bool true) ∧ Keep nob w w') := Lib.hid (fun W hk => (same_law _ _ _ _ _ Tdb.out Tee.out B sa W (HG.out.keep hk (fun _ h => h.elim))).mono fun e w' ⟨h1, h2⟩ => ⟨h1, hk.then_ h2⟩)
  have E10 : Hid (∀ W, Keep nob w W → Calls Tryz.prog 12 #[.string sca, .string seb] W fun e w' => e = .returned (.bool true) ∧ Keep nob w w') := Lib.hid (fun W hk => (same_law _ _ _ _ _ Tca.out Teb.out B sa W (HG.out.keep hk (fun _ h => h.elim))).mono fun e w' ⟨h1, h2⟩ => ⟨h1, hk.then_ h2⟩)
  have Lca : Hid (∀ W, Calls Tryz.prog 11 #[.int .u8 202, .int .i64 4, .int .u64 (c : Int)] W fun e w' => e = .returned (.string sca) ∧ Keep nob W w') := Lib.hid (fun W => by rw [← HSca.out]; exact wide_ok 202 4 c (by decide) (by decide) W)
  have Leb : Hid (∀ W, Calls Tryz.prog 11 #[.int .u8 203, .int .i64 8, .int .u64 (ec : Int)] W fun e w' => e = .returned (.string seb) ∧ Keep nob W w') := Lib.hid (fun W => by rw [← HSeb.out]; exact wide_ok 203 8 ec (by decide) (by decide) W)
  have EL10 : Hid (∀ W, Keep nob w W → Calls Tryz.prog 12 #[.string sca, .string seb] W fun e w' => e = .returned (.bool true) ∧ Keep nob W w') := Lib.hid (fun W hk => same_law _ _ _ _ _ Tca.out Teb.out B sa W (HG.out.keep hk (fun _ h => h.elim)))
  have HLL : Hid (∀ W, Keep nob w W → Calls Tryz.prog 10 #[] W fun e w' => e = .returned (.bool true) ∧ Keep nob W w') := Lib.hid (fun W hk => lives_ok B sa W (HG.out.keep hk (fun _ h => h.elim)))
  have da : decide ((a : Int) < 128) = true := by rw [decide_eq_true_iff]; omega
  have da' : decide (a < 128) = true := by rw [decide_eq_true_iff]; exact ha1
  obtain ⟨ssh, HSsh⟩ : ∃ y, Hid (Bt (a :: beL 0 0) = y) := ⟨_, Lib.hid rfl⟩
  have Wsh : Hid (∀ W, Keep nob w W → Calls Tryz.prog 11 #[.int .u8 (a : Int), .int .i64 0, .int .u64 0] W fun e w' => e = .returned (.string ssh) ∧ Keep nob w w') := Lib.hid (fun W hk => by rw [← HSsh.out]; exact (wide_ok a 0 0 (by omega) (by decide) W).mono fun e w' ⟨h1, h2⟩ => ⟨h1, hk.then_ h2⟩)
  have Tsh : Hid (readT ssh = .ok (intW (a : Int)) ssh.size) := Lib.hid (readT_doc (by rw [← HSsh.out]; exact (by rw [← whole_int (by omega)]; exact doc_short a a (by omega) (pick_whole ha1))) (by rw [← HSsh.out, Bt_size, List.length_cons, beL_len]; decide))
  obtain ⟨sd0, HSd0⟩ : ∃ y, Hid (Bt (208 :: beL 1 a) = y) := ⟨_, Lib.hid rfl⟩
  have Wd0 : Hid (∀ W, Keep nob w W → Calls Tryz.prog 11 #[.int .u8 208, .int .i64 1, .int .u64 (a : Int)] W fun e w' => e = .returned (.string sd0) ∧ Keep nob w w') := Lib.hid (fun W hk => by rw [← HSd0.out]; exact (wide_ok 208 1 a (by decide) (by decide) W).mono fun e w' ⟨h1, h2⟩ => ⟨h1, hk.then_ h2⟩)
  have Td0 : Hid (readT sd0 = .ok (intW (a : Int)) sd0.size) := Lib.hid (readT_doc (by rw [← HSd0.out]; exact (by rw [← twos_int 0 a (a : Int) (by decide) (by omega) (by omega) (by omega)]; exact doc_signed 208 1 a (by decide) rfl)) (by rw [← HSd0.out, Bt_size, List.length_cons, beL_len]; decide))
  have E7 : Hid (∀ W, Keep nob w W → Calls Tryz.prog 12 #[.string ssh, .string sd0] W fun e w' => e = .returned (.bool true) ∧ Keep nob w w') := Lib.hid (fun W hk => (same_law _ _ _ _ _ Tsh.out Td0.out B sa W (HG.out.keep hk (fun _ h => h.elim))).mono fun e w' ⟨h1, h2⟩ => ⟨h1, hk.then_ h2⟩)
  have E8 : Hid (∀ W, Keep nob w W → Calls Tryz.prog 12 #[.string ssh, .string scc] W fun e w' => e = .returned (.bool true) ∧ Keep nob w w') := Lib.hid (fun W hk => (same_law _ _ _ _ _ Tsh.out Tcc.out B sa W (HG.out.keep hk (fun _ h => h.elim))).mono fun e w' ⟨h1, h2⟩ => ⟨h1, hk.then_ h2⟩)
  have dz : decide (z ≥ -32) = false := by rw [decide_eq_false_iff_not]; omega
  have dz1 : decide (-32 ≤ z) = false := by rw [decide_eq_false_iff_not]; omega
  have HLV : Hid (∀ W, Keep nob w W → Calls Tryz.prog 10 #[] W fun e w' => e = .returned (.bool true) ∧ Keep nob w w') := Lib.hid (fun W hk => (lives_ok B sa W (HG.out.keep hk (fun _ h => h.elim))).mono fun e w' ⟨h1, h2⟩ => ⟨h1, hk.then_ h2⟩)
  have hr1 : readN Wd sdb = .ok (intW z) sdb.size := by
    have h := Tdb.out
    unfold readT at h
    split at h
    · cases h
    · exact h
  have R1 : Hid (∀ W, Keep nob w W → Calls Tryz.prog 7 #[.string sdb] W (fun e w2 => Keep nob w w2 ∧ ∃ r : Raw, e = .returned (.tuple #[.agg #[.int .i8 (r.kind : Int), .int .u64 (r.n : Int), .bool r.neg, .slice r.mA r.mL r.mC, .int .u64 (r.bits : Int), .int .i8 r.ext, .string r.text, .slice r.kA r.kL r.kC], .nilIface]) ∧ Tr w2 (fun k => k < w2.heap.size) r (intW z))) := by
    refine Lib.hid (fun W k => ?_)
    have h := read_all sdb B sa W (HG.out.keep k (fun _ h => h.elim))
    rw [Tdb.out] at h
    exact h.mono fun e w2 ⟨h1, r, h2, h3⟩ => ⟨k.then_ h1, r, h2, Tr.mono (fun b h1 _ => h1) _ _ h3⟩
  have V1 := read_own hr1
  have X1 := read_tx (by rw [← HSdb.out, Bt_size, List.length_cons, beL_len]; decide) hr1
  have Y1 := read_dep flatWd hr1
  have B1 : Hid (∀ (W : World) (r : Raw) (D : Nat → Prop), Keep nob w W → Tr W D r (intW z) → (∀ b, D b → b < W.heap.size) → Calls Tryz.prog 20 #[.agg #[.int .i8 (r.kind : Int), .int .u64 (r.n : Int), .bool r.neg, .slice r.mA r.mL r.mC, .int .u64 (r.bits : Int), .int .i8 r.ext, .string r.text, .slice r.kA r.kL r.kC]] W fun e w' => e = .returned (.tuple #[.int .u64 (ez : Int), .bool true]) ∧ Keep nob W w') := Lib.hid (fun W r D hk ht hD => bits_ok hez V1.1 X1.2 X1.1 Y1 r D B sa W (HG.out.keep hk (fun _ h => h.elim)) ht hD)
  have hr2 : readN Wd sca = .ok (vc) sca.size := by
    have h := Tca.out
    unfold readT at h
    split at h
    · cases h
    · exact h
  have R2 : Hid (∀ W, Keep nob w W → Calls Tryz.prog 7 #[.string sca] W (fun e w2 => Keep nob w w2 ∧ ∃ r : Raw, e = .returned (.tuple #[.agg #[.int .i8 (r.kind : Int), .int .u64 (r.n : Int), .bool r.neg, .slice r.mA r.mL r.mC, .int .u64 (r.bits : Int), .int .i8 r.ext, .string r.text, .slice r.kA r.kL r.kC], .nilIface]) ∧ Tr w2 (fun k => k < w2.heap.size) r (vc))) := by
    refine Lib.hid (fun W k => ?_)
    have h := read_all sca B sa W (HG.out.keep k (fun _ h => h.elim))
    rw [Tca.out] at h
    exact h.mono fun e w2 ⟨h1, r, h2, h3⟩ => ⟨k.then_ h1, r, h2, Tr.mono (fun b h1 _ => h1) _ _ h3⟩
  have V2 := read_own hr2
  have X2 := read_tx (by rw [← HSca.out, Bt_size, List.length_cons, beL_len]; decide) hr2
  have Y2 := read_dep flatWd hr2
  have B2 : Hid (∀ (W : World) (r : Raw) (D : Nat → Prop), Keep nob w W → Tr W D r (vc) → (∀ b, D b → b < W.heap.size) → Calls Tryz.prog 20 #[.agg #[.int .i8 (r.kind : Int), .int .u64 (r.n : Int), .bool r.neg, .slice r.mA r.mL r.mC, .int .u64 (r.bits : Int), .int .i8 r.ext, .string r.text, .slice r.kA r.kL r.kC]] W fun e w' => e = .returned (.tuple #[.int .u64 (ec : Int), .bool true]) ∧ Keep nob W w') := Lib.hid (fun W r D hk ht hD => bits_ok hec V2.1 X2.2 X2.1 Y2 r D B sa W (HG.out.keep hk (fun _ h => h.elim)) ht hD)
  have O1 : Hid (∀ W, Keep nob w W → Calls Tryz.prog 21 #[.int .u32 (c : Int)] W (fun e w2 => Keep nob W w2 ∧ ∃ r : Raw, e = .returned (.agg #[.int .i8 (r.kind : Int), .int .u64 (r.n : Int), .bool r.neg, .slice r.mA r.mL r.mC, .int .u64 (r.bits : Int), .int .i8 r.ext, .string r.text, .slice r.kA r.kL r.kC]) ∧ Tr w2 (fun k => W.heap.size ≤ k) r vc)) := by
    refine Lib.hid (fun W k => ?_)
    have h := of32v_ok c B hc sa W (HG.out.keep k (fun _ h => h.elim))
    rw [HVC.out] at h
    exact h
  have HSM := Lib.hid (fun (W : World) (r r' : Raw) (D D' : Nat → Prop) (h : Tr W D r vc) (h' : Tr W D' r' vc) => same_ok vc r r' D D' W h h')
  clear V1 X1 Y1 V2 X2 Y2 hr1 hr2 hez hez1 hez2 hec hec1 hec2 g hu ha1 hn1
  have hk0 : Keep nob w w := Keep.refl _ _
  go_enter Tryz.func6, Tryz.ntmps6
  go_upto_region 12 with (first | (first | (go_at_call 11; (with_reducible refine (Wcc.out _ (by first | assumption | exact Keep.alloc (by assumption) _)).mono ?_); rintro e w2 ⟨rfl, hk2⟩) | (go_at_call 11; (with_reducible refine (Wcd.out _ (by first | assumption | exact Keep.alloc (by assumption) _)).mono ?_); rintro e w2 ⟨rfl, hk2⟩) | (go_at_call 11; (with_reducible refine (Wce.out _ (by first | assumption | exact Keep.alloc (by assumption) _)).mono ?_); rintro e w2 ⟨rfl, hk2⟩) | (go_at_call 11; (with_reducible refine (Wcf.out _ (by first | assumption | exact Keep.alloc (by assumption) _)).mono ?_); rintro e w2 ⟨rfl, hk2⟩) | (go_at_call 11; (with_reducible refine (Wda.out _ (by first | assumption | exact Keep.alloc (by assumption) _)).mono ?_); rintro e w2 ⟨rfl, hk2⟩) | (go_at_call 11; (with_reducible refine (Wdb.out _ (by first | assumption | exact Keep.alloc (by assumption) _)).mono ?_); rintro e w2 ⟨rfl, hk2⟩) | (go_at_call 11; (with_reducible refine (Wdc.out _ (by first | assumption | exact Keep.alloc (by assumption) _)).mono ?_); rintro e w2 ⟨rfl, hk2⟩) | (go_at_call 11; (with_reducible refine (Wdd.out _ (by first | assumption | exact Keep.alloc (by assumption) _)).mono ?_); rintro e w2 ⟨rfl, hk2⟩) | (go_at_call 11; (with_reducible refine (Wee.out _ (by first | assumption | exact Keep.alloc (by assumption) _)).mono ?_); rintro e w2 ⟨rfl, hk2⟩) | (go_at_call 11; (with_reducible refine (Wca.out _ (by first | assumption | exact Keep.alloc (by assumption) _)).mono ?_); rintro e w2 ⟨rfl, hk2⟩) | (go_at_call 11; (with_reducible refine (Web.out _ (by first | assumption | exact Keep.alloc (by assumption) _)).mono ?_); rintro e w2 ⟨rfl, hk2⟩) | (go_at_call 12; (with_reducible refine (E1.out _ (by first | assumption | exact Keep.alloc (by assumption) _)).mono ?_); rintro e w2 ⟨rfl, hk2⟩) | (go_at_call 12; (with_reducible refine (E2.out _ (by first | assumption | exact Keep.alloc (by assumption) _)).mono ?_); rintro e w2 ⟨rfl, hk2⟩) | (go_at_call 12; (with_reducible refine (E3.out _ (by first | assumption | exact Keep.alloc (by assumption) _)).mono ?_); rintro e w2 ⟨rfl, hk2⟩) | (go_at_call 12; (with_reducible refine (E4.out _ (by first | assumption | exact Keep.alloc (by assumption) _)).mono ?_); rintro e w2 ⟨rfl, hk2⟩) | (go_at_call 12; (with_reducible refine (E5.out _ (by first | assumption | exact Keep.alloc (by assumption) _)).mono ?_); rintro e w2 ⟨rfl, hk2⟩) | (go_at_call 12; (with_reducible refine (E6.out _ (by first | assumption | exact Keep.alloc (by assumption) _)).mono ?_); rintro e w2 ⟨rfl, hk2⟩) | (go_at_call 12; (with_reducible refine (E9.out _ (by first | assumption | exact Keep.alloc (by assumption) _)).mono ?_); rintro e w2 ⟨rfl, hk2⟩) | (go_at_call 12; (with_reducible refine (E10.out _ (by first | assumption | exact Keep.alloc (by assumption) _)).mono ?_); rintro e w2 ⟨rfl, hk2⟩) | (go_at_call 11; (with_reducible refine (Wsh.out _ (by first | assumption | exact Keep.alloc (by assumption) _)).mono ?_); rintro e w2 ⟨rfl, hk2⟩) | (go_at_call 11; (with_reducible refine (Wd0.out _ (by first | assumption | exact Keep.alloc (by assumption) _)).mono ?_); rintro e w2 ⟨rfl, hk2⟩) | (go_at_call 12; (with_reducible refine (E7.out _ (by first | assumption | exact Keep.alloc (by assumption) _)).mono ?_); rintro e w2 ⟨rfl, hk2⟩) | (go_at_call 12; (with_reducible refine (E8.out _ (by first | assumption | exact Keep.alloc (by assumption) _)).mono ?_); rintro e w2 ⟨rfl, hk2⟩)) | (go_at_call 7; (with_reducible refine (R1.out _ (by first | assumption | exact Keep.alloc (by assumption) _)).mono ?_); rintro e w5 ⟨hk5, q1, rfl, ht1⟩))
  have HK5 := Lib.hid hk5
  have HT1 := Lib.hid ht1
  clear hk5 ht1
  obtain ⟨x1, HX1⟩ : ∃ x1, Hid (w5.alloc (.cells #[.int .i8 (q1.kind : Int), .int .u64 (q1.n : Int), .bool q1.neg, .slice q1.mA q1.mL q1.mC, .int .u64 (q1.bits : Int), .int .i8 q1.ext, .string q1.text, .slice q1.kA q1.kL q1.kC] 31) = x1) := ⟨_, Lib.hid rfl⟩
  obtain ⟨b1, HB1⟩ : ∃ b1, Hid (w5.heap.size = b1) := ⟨_, Lib.hid rfl⟩
  have HA1 : Hid (Keep nob w5 x1) := by unfold Hid; rw [← HX1.out]; exact (Keep.refl _ _).alloc _
  have HN1 := Lib.hid (range_new w5 q1 31)
  rw [show w5.alloc (.cells (ER.cells q1).toArray 31) = x1 from HX1.out, HB1.out] at HN1
  rw [HX1.out, HB1.out]
  have HW1 : Hid (Keep nob w x1) := Lib.hid (HK5.out.then_ HA1.out)
  have HTX1 : Hid (Tr x1 (fun k => k < x1.heap.size) q1 (intW z)) := Lib.hid (Tr.keep HA1.out (nobD _) _ _ (Tr.mono (fun b _ h => Nat.lt_of_lt_of_le h HA1.out.size) _ _ HT1.out))
  obtain ⟨c0, c1, c2, c3, c4, c5, c6, c7⟩ := cells_val HN1.out
  go_upto_region 13 with (go_at_call 20; go_must (refine (B1.out _ q1 _ HW1.out HTX1.out (fun _ h => h)).mono ?_); rintro e w6 ⟨rfl, hk6⟩)
  have hk6 : Keep nob w w6 := HW1.out.then_ hk6
  clear c0 c1 c2 c3 c4 c5 c6 c7
  go_upto_region 16 with (first | (first | (go_at_call 11; (with_reducible refine (Wcc.out _ (by first | assumption | exact Keep.alloc (by assumption) _)).mono ?_); rintro e w2 ⟨rfl, hk2⟩) | (go_at_call 11; (with_reducible refine (Wcd.out _ (by first | assumption | exact Keep.alloc (by assumption) _)).mono ?_); rintro e w2 ⟨rfl, hk2⟩) | (go_at_call 11; (with_reducible refine (Wce.out _ (by first | assumption | exact Keep.alloc (by assumption) _)).mono ?_); rintro e w2 ⟨rfl, hk2⟩) | (go_at_call 11; (with_reducible refine (Wcf.out _ (by first | assumption | exact Keep.alloc (by assumption) _)).mono ?_); rintro e w2 ⟨rfl, hk2⟩) | (go_at_call 11; (with_reducible refine (Wda.out _ (by first | assumption | exact Keep.alloc (by assumption) _)).mono ?_); rintro e w2 ⟨rfl, hk2⟩) | (go_at_call 11; (with_reducible refine (Wdb.out _ (by first | assumption | exact Keep.alloc (by assumption) _)).mono ?_); rintro e w2 ⟨rfl, hk2⟩) | (go_at_call 11; (with_reducible refine (Wdc.out _ (by first | assumption | exact Keep.alloc (by assumption) _)).mono ?_); rintro e w2 ⟨rfl, hk2⟩) | (go_at_call 11; (with_reducible refine (Wdd.out _ (by first | assumption | exact Keep.alloc (by assumption) _)).mono ?_); rintro e w2 ⟨rfl, hk2⟩) | (go_at_call 11; (with_reducible refine (Wee.out _ (by first | assumption | exact Keep.alloc (by assumption) _)).mono ?_); rintro e w2 ⟨rfl, hk2⟩) | (go_at_call 11; (with_reducible refine (Wca.out _ (by first | assumption | exact Keep.alloc (by assumption) _)).mono ?_); rintro e w2 ⟨rfl, hk2⟩) | (go_at_call 11; (with_reducible refine (Web.out _ (by first | assumption | exact Keep.alloc (by assumption) _)).mono ?_); rintro e w2 ⟨rfl, hk2⟩) | (go_at_call 12; (with_reducible refine (E1.out _ (by first | assumption | exact Keep.alloc (by assumption) _)).mono ?_); rintro e w2 ⟨rfl, hk2⟩) | (go_at_call 12; (with_reducible refine (E2.out _ (by first | assumption | exact Keep.alloc (by assumption) _)).mono ?_); rintro e w2 ⟨rfl, hk2⟩) | (go_at_call 12; (with_reducible refine (E3.out _ (by first | assumption | exact Keep.alloc (by assumption) _)).mono ?_); rintro e w2 ⟨rfl, hk2⟩) | (go_at_call 12; (with_reducible refine (E4.out _ (by first | assumption | exact Keep.alloc (by assumption) _)).mono ?_); rintro e w2 ⟨rfl, hk2⟩) | (go_at_call 12; (with_reducible refine (E5.out _ (by first | assumption | exact Keep.alloc (by assumption) _)).mono ?_); rintro e w2 ⟨rfl, hk2⟩) | (go_at_call 12; (with_reducible refine (E6.out _ (by first | assumption | exact Keep.alloc (by assumption) _)).mono ?_); rintro e w2 ⟨rfl, hk2⟩) | (go_at_call 12; (with_reducible refine (E9.out _ (by first | assumption | exact Keep.alloc (by assumption) _)).mono ?_); rintro e w2 ⟨rfl, hk2⟩) | (go_at_call 12; (with_reducible refine (E10.out _ (by first | assumption | exact Keep.alloc (by assumption) _)).mono ?_); rintro e w2 ⟨rfl, hk2⟩) | (go_at_call 11; (with_reducible refine (Wsh.out _ (by first | assumption | exact Keep.alloc (by assumption) _)).mono ?_); rintro e w2 ⟨rfl, hk2⟩) | (go_at_call 11; (with_reducible refine (Wd0.out _ (by first | assumption | exact Keep.alloc (by assumption) _)).mono ?_); rintro e w2 ⟨rfl, hk2⟩) | (go_at_call 12; (with_reducible refine (E7.out _ (by first | assumption | exact Keep.alloc (by assumption) _)).mono ?_); rintro e w2 ⟨rfl, hk2⟩) | (go_at_call 12; (with_reducible refine (E8.out _ (by first | assumption | exact Keep.alloc (by assumption) _)).mono ?_); rintro e w2 ⟨rfl, hk2⟩)) | (go_at_call 7; (with_reducible refine (R2.out _ (by first | assumption | exact Keep.alloc (by assumption) _)).mono ?_); rintro e w7 ⟨hk7, q2, rfl, ht2⟩))
  have HK7 := Lib.hid hk7
  have HT2 := Lib.hid ht2
  clear hk7 ht2
  obtain ⟨x2, HX2⟩ : ∃ x2, Hid (w7.alloc (.cells #[.int .i8 (q2.kind : Int), .int .u64 (q2.n : Int), .bool q2.neg, .slice q2.mA q2.mL q2.mC, .int .u64 (q2.bits : Int), .int .i8 q2.ext, .string q2.text, .slice q2.kA q2.kL q2.kC] 31) = x2) := ⟨_, Lib.hid rfl⟩
  obtain ⟨b2, HB2⟩ : ∃ b2, Hid (w7.heap.size = b2) := ⟨_, Lib.hid rfl⟩
  have HA2 : Hid (Keep nob w7 x2) := by unfold Hid; rw [← HX2.out]; exact (Keep.refl _ _).alloc _
  have HN2 := Lib.hid (range_new w7 q2 31)
  rw [show w7.alloc (.cells (ER.cells q2).toArray 31) = x2 from HX2.out, HB2.out] at HN2
  rw [HX2.out, HB2.out]
  have HW2 : Hid (Keep nob w x2) := Lib.hid (HK7.out.then_ HA2.out)
  have HTX2 : Hid (Tr x2 (fun k => k < x2.heap.size) q2 vc) := Lib.hid (Tr.keep HA2.out (nobD _) _ _ (Tr.mono (fun b _ h => Nat.lt_of_lt_of_le h HA2.out.size) _ _ HT2.out))
  obtain ⟨c0, c1, c2, c3, c4, c5, c6, c7⟩ := cells_val HN2.out
  go_upto_region 17 with (go_at_call 20; go_must (refine (B2.out _ q2 _ HW2.out HTX2.out (fun _ h => h)).mono ?_); rintro e w8 ⟨rfl, hk8⟩)
  have HK8 := Lib.hid hk8
  have HW8 : Hid (Keep nob w w8) := Lib.hid (HW2.out.then_ hk8)
  clear c0 c1 c2 c3 c4 c5 c6 c7 hk8
  refine wp_region_fx 23 [.p, .p, .p, .p, .p, .p, .kv, .p, .cf (fun x => .agg #[.int .i8 (x.r.kind : Int), .int .u64 (x.r.n : Int), .bool x.r.neg, .slice x.r.mA x.r.mL x.r.mC, .int .u64 (x.r.bits : Int), .int .i8 x.r.ext, .string x.r.text, .slice x.r.kA x.r.kL x.r.kC]) (fun x W => Tr W (fun _ => True) x.r vc), .cv (.bool true), .p, .p, .p, .p, .cv (.string sca), .p, .cv (.string seb), .cv (.bool true), .p, .p, .cv (.bool true), .p, .p] [] nob (fun _ => True) (fun _ _ _ _ => trivial) trivial (by kernel_rfl) (by kernel_rfl) (fun h => absurd rfl h) ?_
  simp only [List.take_succ_cons, List.take_zero, List.drop_succ_cons, List.drop_zero]
  refine fx_p ?_ (by rfl) (fun w' => ?_) (fun K hK => ?_); rotate_left; (go_simp; first | done | exact rfl); go_simp; refine hK _ ?_; clear hK K
  refine fx_p ?_ (by rfl) (fun w' => ?_) (fun K hK => ?_); rotate_left; (go_simp; first | done | exact rfl); go_simp; refine hK _ ?_; clear hK K
  refine fx_p ?_ (by rfl) (fun w' => ?_) (fun K hK => ?_); rotate_left; (go_simp; first | done | exact rfl); go_simp; refine hK _ ?_; clear hK K
  refine fx_p ?_ (by rfl) (fun w' => ?_) (fun K hK => ?_); rotate_left; (go_simp; first | done | exact rfl); go_simp; refine hK _ ?_; clear hK K
  refine fx_p ?_ (by rfl) (fun w' => ?_) (fun K hK => ?_); rotate_left; (go_simp; first | done | exact rfl); go_simp; refine hK _ ?_; clear hK K
  refine fx_p ?_ (by rfl) (fun w' => ?_) (fun K hK => ?_); rotate_left; (go_simp; first | done | exact rfl); go_simp; refine hK _ ?_; clear hK K
  refine fx_kv ?_ (by rfl) (fun w' hw' ha => ?_) (fun K hK => ?_); rotate_left; (obtain ⟨c0, c1, c2, c3, c4, c5, c6, c7⟩ := cells_val (range_keep (HK8.out.then_ hw'.keep) HN2.out); go_simp; first | done | exact rfl); go_simp; refine hK _ ?_; clear hK K
  refine fx_p ?_ (by rfl) (fun w' => ?_) (fun K hK => ?_); rotate_left; (go_simp; first | done | exact rfl); go_simp; refine hK _ ?_; clear hK K
  refine fx_cf (f := ?_) (args := ?_) (by rfl) (fun x W W' h k => Tr.keep k (fun _ _ hS => hS) _ _ h) (fun w' => ?_) (fun w' hw' ha => ?_) (fun K hK x => ?_); rotate_left 2; (go_simp; first | done | (refine And.intro ?_ ?_ <;> exact rfl) | exact rfl); (refine (O1.out _ (HW8.out.then_ hw'.keep)).mono ?_; rintro e w3 ⟨h2, r, rfl, h3⟩; exact ⟨⟨undef, 0, r⟩, rfl, h2, Tr.mono (fun _ _ _ => trivial) _ _ h3⟩); go_simp; refine hK _ _ ?_; clear hK K
  refine fx_cv (f := ?_) (args := ?_) (by rfl) (fun w' => ?_) (fun w' hw' ha => ?_) (fun K hK => ?_); rotate_left 2; (go_simp; first | done | (refine And.intro ?_ ?_ <;> exact rfl) | exact rfl); (have hx := ha _ List.mem_cons_self (by kernel_rfl); have hs := HSM.out w' q2 x.r _ _ (Tr.keep (HK8.out.then_ hw'.keep) (nobD _) _ _ HTX2.out) hx; simp only [ER] at hs; exact hs); go_simp; refine hK _ ?_; clear hK K
  refine fx_p ?_ (by rfl) (fun w' => ?_) (fun K hK => ?_); rotate_left; (go_simp; first | done | exact rfl); go_simp; refine hK _ ?_; clear hK K
  refine fx_p ?_ (by rfl) (fun w' => ?_) (fun K hK => ?_); rotate_left; (go_simp; first | done | exact rfl); go_simp; refine hK _ ?_; clear hK K
  refine fx_p ?_ (by rfl) (fun w' => ?_) (fun K hK => ?_); rotate_left; (go_simp; first | done | exact rfl); go_simp; refine hK _ ?_; clear hK K
  refine fx_p ?_ (by rfl) (fun w' => ?_) (fun K hK => ?_); rotate_left; (go_simp; first | done | exact rfl); go_simp; refine hK _ ?_; clear hK K
  refine fx_cv (f := ?_) (args := ?_) (by rfl) (fun w' => ?_) (fun w' hw' ha => ?_) (fun K hK => ?_); rotate_left 2; (go_simp; first | done | (refine And.intro ?_ ?_ <;> exact rfl) | exact rfl); (exact Lca.out _); go_simp; refine hK _ ?_; clear hK K
  refine fx_p ?_ (by rfl) (fun w' => ?_) (fun K hK => ?_); rotate_left; (go_simp; first | done | exact rfl); go_simp; refine hK _ ?_; clear hK K
  refine fx_cv (f := ?_) (args := ?_) (by rfl) (fun w' => ?_) (fun w' hw' ha => ?_) (fun K hK => ?_); rotate_left 2; (go_simp; first | done | (refine And.intro ?_ ?_ <;> exact rfl) | exact rfl); (exact Leb.out _); go_simp; refine hK _ ?_; clear hK K
  refine fx_cv (f := ?_) (args := ?_) (by rfl) (fun w' => ?_) (fun w' hw' ha => ?_) (fun K hK => ?_); rotate_left 2; (go_simp; first | done | (refine And.intro ?_ ?_ <;> exact rfl) | exact rfl); (exact EL10.out _ (HW8.out.then_ hw'.keep)); go_simp; refine hK _ ?_; clear hK K
  refine fx_p ?_ (by rfl) (fun w' => ?_) (fun K hK => ?_); rotate_left; (go_simp; first | done | exact rfl); go_simp; refine hK _ ?_; clear hK K
  refine fx_p ?_ (by rfl) (fun w' => ?_) (fun K hK => ?_); rotate_left; (go_simp; first | done | exact rfl); go_simp; refine hK _ ?_; clear hK K
  refine fx_cv (f := ?_) (args := ?_) (by rfl) (fun w' => ?_) (fun w' hw' ha => ?_) (fun K hK => ?_); rotate_left 2; (go_simp; first | done | (refine And.intro ?_ ?_ <;> exact rfl) | exact rfl); (exact HLL.out _ (HW8.out.then_ hw'.keep)); go_simp; refine hK _ ?_; clear hK K
  refine fx_p ?_ (by rfl) (fun w' => ?_) (fun K hK => ?_); rotate_left; (go_simp; first | done | exact rfl); go_simp; refine hK _ ?_; clear hK K
  refine fx_p ?_ (by rfl) (fun w' => ?_) (fun K hK => ?_); rotate_left; (go_simp; first | done | exact rfl); go_simp; refine hK _ ?_; clear hK K
  refine fx_nil ?_
  intro w9 hk9 hΓ
  have HK9 := Lib.hid hk9.keep
  have HFx := Lib.hid (hΓ _ List.mem_cons_self)
  clear hk9 hΓ
  go_wp2
  go_ret
  exact ⟨rfl, HW8.out.then_ HK9.out⟩
set_option maxRecDepth 100000 in
set_option maxHeartbeats 8000000 in
theorem lawN_ag (a : Nat) (ha : a < 256) (z : Int) (hz1 : -32768 ≤ z) (hz2 : z < 32768) (c : Nat) (hc : c < 4294967296) (ha1 : a < 128) (hn1 : 0 ≤ z) (B : Nat) (sa : Nat → Addr) (w : World) (g : GL B sa w) : Calls Tryz.prog 6 #[.int .u8 (a : Int), .int .i16 z, .int .u32 (c : Int)] w fun e w' => e = .returned (.bool true) ∧ Keep nob w w' := by
  obtain ⟨u, HU⟩ : ∃ u : Nat, Hid ((u : Int) = z % 18446744073709551616) := ⟨(z % 18446744073709551616).toNat, Lib.hid (by omega)⟩
  have hu : (u : Int) = z % 18446744073709551616 := HU.out
  have i1 : IntKind.u64.wrap (a : Int) = (a : Int) := by rw [IntKind.wrap_u64]; omega
  have i2 : IntKind.u64.wrap z = (u : Int) := by rw [IntKind.wrap_u64]; exact HU.out.symm
  have i3 : IntKind.u64.wrap (c : Int) = (c : Int) := by rw [IntKind.wrap_u64]; omega
  obtain ⟨ez, hez, hez1, hez2⟩ := small_bits z (by omega)
  obtain ⟨vc, HVC⟩ : ∃ vc, Hid (ofV 23 (-149) 8 c = vc) := ⟨_, Lib.hid rfl⟩
  obtain ⟨ec, hec, hec1, hec2⟩ := single_bits c
  rw [HVC.out] at hec hec2
  have HG := Lib.hid g
  obtain ⟨scc, HScc⟩ : ∃ y, Hid (Bt (204 :: beL 1 a) = y) := ⟨_, Lib.hid rfl⟩
  have Wcc : Hid (∀ W, Keep nob w W → Calls Tryz.prog 11 #[.int .u8 204, .int .i64 1, .int .u64 (a : Int)] W fun e w' => e = .returned (.string scc) ∧ Keep nob w w') := Lib.hid (fun W hk => by rw [← HScc.out]; exact (wide_ok 204 1 a (by decide) (by decide) W).mono fun e w' ⟨h1, h2⟩ => ⟨h1, hk.then_ h2⟩)
  have Tcc : Hid (readT scc = .ok (intW (a : Int)) scc.size) := Lib.hid (readT_doc (by rw [← HScc.out]; exact (by rw [← whole_int (by omega)]; exact doc_whole 204 1 a (by decide) rfl (by decide) (by omega))) (by rw [← HScc.out, Bt_size, List.length_cons, beL_len]; decide))
  obtain ⟨scd, HScd⟩ : ∃ y, Hid (Bt (205 :: beL 2 a) = y) := ⟨_, Lib.hid rfl⟩
  have Wcd : Hid (∀ W, Keep nob w W → Calls Tryz.prog 11 #[.int .u8 205, .int .i64 2, .int .u64 (a : Int)] W fun e w' => e = .returned (.string scd) ∧ Keep nob w w') := Lib.hid (fun W hk => by rw [← HScd.out]; exact (wide_ok 205 2 a (by decide) (by decide) W).mono fun e w' ⟨h1, h2⟩ => ⟨h1, hk.then_ h2⟩)
  have Tcd : Hid (readT scd = .ok (intW (a : Int)) scd.size) := Lib.hid (readT_doc (by rw [← HScd.out]; exact (by rw [← whole_int (by omega)]; exact doc_whole 205 2 a (by decide) rfl (by decide) (by omega))) (by rw [← HScd.out, Bt_size, List.length_cons, beL_len]; decide))
  obtain ⟨sce, HSce⟩ : ∃ y, Hid (Bt (206 :: beL 4 a) = y) := ⟨_, Lib.hid rfl⟩
  have Wce : Hid (∀ W, Keep nob w W → Calls Tryz.prog 11 #[.int .u8 206, .int .i64 4, .int .u64 (a : Int)] W fun e w' => e = .returned (.string sce) ∧ Keep nob w w') := Lib.hid (fun W hk => by rw [← HSce.out]; exact (wide_ok 206 4 a (by decide) (by decide) W).mono fun e w' ⟨h1, h2⟩ => ⟨h1, hk.then_ h2⟩)
  have Tce : Hid (readT sce = .ok (intW (a : Int)) sce.size) := Lib.hid (readT_doc (by rw [← HSce.out]; exact (by rw [← whole_int (by omega)]; exact doc_whole 206 4 a (by decide) rfl (by decide) (by omega))) (by rw [← HSce.out, Bt_size, List.length_cons, beL_len]; decide))
  obtain ⟨scf, HScf⟩ : ∃ y, Hid (Bt (207 :: beL 8 a) = y) := ⟨_, Lib.hid rfl⟩
  have Wcf : Hid (∀ W, Keep nob w W → Calls Tryz.prog 11 #[.int .u8 207, .int .i64 8, .int .u64 (a : Int)] W fun e w' => e = .returned (.string scf) ∧ Keep nob w w') := Lib.hid (fun W hk => by rw [← HScf.out]; exact (wide_ok 207 8 a (by decide) (by decide) W).mono fun e w' ⟨h1, h2⟩ => ⟨h1, hk.then_ h2⟩)
  have Tcf : Hid (readT scf = .ok (intW (a : Int)) scf.size) := Lib.hid (readT_doc (by rw [← HScf.out]; exact (by rw [← whole_int (by omega)]; exact doc_whole 207 8 a (by decide) rfl (by decide) (by omega))) (by rw [← HScf.out, Bt_size, List.length_cons, beL_len]; decide))
  obtain ⟨sda, HSda⟩ : ∃ y, Hid (Bt (209 :: beL 2 a) = y) := ⟨_, Lib.hid rfl⟩
  have Wda : Hid (∀ W, Keep nob w W → Calls Tryz.prog 11 #[.int .u8 209, .int .i64 2, .int .u64 (a : Int)] W fun e w' => e = .returned (.string sda) ∧ Keep nob w w') := Lib.hid (fun W hk => by rw [← HSda.out]; exact (wide_ok 209 2 a (by decide) (by decide) W).mono fun e w' ⟨h1, h2⟩ => ⟨h1, hk.then_ h2⟩)
  have Tda : Hid (readT sda = .ok (intW (a : Int)) sda.size) := Lib.hid (readT_doc (by rw [← HSda.out]; exact (by rw [← twos_int 1 a (a : Int) (by decide) (by omega) (by omega) (by omega)]; exact doc_signed 209 2 a (by decide) rfl)) (by rw [← HSda.out, Bt_size, List.length_cons, beL_len]; decide))
  obtain ⟨sdb, HSdb⟩ : ∃ y, Hid (Bt (209 :: beL 2 u) = y) := ⟨_, Lib.hid rfl⟩
  have Wdb : Hid (∀ W, Keep nob w W → Calls Tryz.prog 11 #[.int .u8 209, .int .i64 2, .int .u64 (u : Int)] W fun e w' => e = .returned (.string sdb) ∧ Keep nob w w') := Lib.hid (fun W hk => by rw [← HSdb.out]; exact (wide_ok 209 2 u (by decide) (by decide) W).mono fun e w' ⟨h1, h2⟩ => ⟨h1, hk.then_ h2⟩)
  have Tdb : Hid (readT sdb = .ok (intW z) sdb.size) := Lib.hid (readT_doc (by rw [← HSdb.out]; exact (by rw [← twos_int 1 u z (by decide) hu (by omega) (by omega)]; exact doc_signed 209 2 u (by decide) rfl)) (by rw [← HSdb.out, Bt_size, List.length_cons, beL_len]; decide))
  obtain ⟨sdc, HSdc⟩ : ∃ y, Hid (Bt (210 :: beL 4 u) = y) := ⟨_, Lib.hid rfl⟩
  have Wdc : Hid (∀ W, Keep nob w W → Calls Tryz.prog 11 #[.int .u8 210, .int .i64 4, .int .u64 (u : Int)] W fun e w' => e = .returned (.string sdc) ∧ Keep nob w w') := Lib.hid (fun W hk => by rw [← HSdc.out]; exact (wide_ok 210 4 u (by decide) (by decide) W).mono fun e w' ⟨h1, h2⟩ => ⟨h1, hk.then_ h2⟩)
  have Tdc : Hid (readT sdc = .ok (intW z) sdc.size) := Lib.hid (readT_doc (by rw [← HSdc.out]; exact (by rw [← twos_int 3 u z (by decide) hu (by omega) (by omega)]; exact doc_signed 210 4 u (by decide) rfl)) (by rw [← HSdc.out, Bt_size, List.length_cons, beL_len]; decide))
  obtain ⟨sdd, HSdd⟩ : ∃ y, Hid (Bt (211 :: beL 8 u) = y) := ⟨_, Lib.hid rfl⟩
  have Wdd : Hid (∀ W, Keep nob w W → Calls Tryz.prog 11 #[.int .u8 211, .int .i64 8, .int .u64 (u : Int)] W fun e w' => e = .returned (.string sdd) ∧ Keep nob w w') := Lib.hid (fun W hk => by rw [← HSdd.out]; exact (wide_ok 211 8 u (by decide) (by decide) W).mono fun e w' ⟨h1, h2⟩ => ⟨h1, hk.then_ h2⟩)
  have Tdd : Hid (readT sdd = .ok (intW z) sdd.size) := Lib.hid (readT_doc (by rw [← HSdd.out]; exact (by rw [← twos_int 7 u z (by decide) hu (by omega) (by omega)]; exact doc_signed 211 8 u (by decide) rfl)) (by rw [← HSdd.out, Bt_size, List.length_cons, beL_len]; decide))
  obtain ⟨see, HSee⟩ : ∃ y, Hid (Bt (203 :: beL 8 ez) = y) := ⟨_, Lib.hid rfl⟩
  have Wee : Hid (∀ W, Keep nob w W → Calls Tryz.prog 11 #[.int .u8 203, .int .i64 8, .int .u64 (ez : Int)] W fun e w' => e = .returned (.string see) ∧ Keep nob w w') := Lib.hid (fun W hk => by rw [← HSee.out]; exact (wide_ok 203 8 ez (by decide) (by decide) W).mono fun e w' ⟨h1, h2⟩ => ⟨h1, hk.then_ h2⟩)
  have Tee : Hid (readT see = .ok (intW z) see.size) := Lib.hid (readT_doc (by rw [← HSee.out]; exact (by rw [doc_double ez hez1, hez2])) (by rw [← HSee.out, Bt_size, List.length_cons, beL_len]; decide))
  obtain ⟨sca, HSca⟩ : ∃ y, Hid (Bt (202 :: beL 4 c) = y) := ⟨_, Lib.hid rfl⟩
  have Wca : Hid (∀ W, Keep nob w W → Calls Tryz.prog 11 #[.int .u8 202, .int .i64 4, .int .u64 (c : Int)] W fun e w' => e = .returned (.string sca) ∧ Keep nob w w') := Lib.hid (fun W hk => by rw [← HSca.out]; exact (wide_ok 202 4 c (by decide) (by decide) W).mono fun e w' ⟨h1, h2⟩ => ⟨h1, hk.then_ h2⟩)
  have Tca : Hid (readT sca = .ok (vc) sca.size) := Lib.hid (readT_doc (by rw [← HSca.out]; exact (by rw [doc_single c hc, HVC.out])) (by rw [← HSca.out, Bt_size, List.length_cons, beL_len]; decide))
  obtain ⟨seb, HSeb⟩ : ∃ y, Hid (Bt (203 :: beL 8 ec) = y) := ⟨_, Lib.hid rfl⟩
  have Web : Hid (∀ W, Keep nob w W → Calls Tryz.prog 11 #[.int .u8 203, .int .i64 8, .int .u64 (ec : Int)] W fun e w' => e = .returned (.string seb) ∧ Keep nob w w') := Lib.hid (fun W hk => by rw [← HSeb.out]; exact (wide_ok 203 8 ec (by decide) (by decide) W).mono fun e w' ⟨h1, h2⟩ => ⟨h1, hk.then_ h2⟩)
  have Teb : Hid (readT seb = .ok (vc) seb.size) := Lib.hid (readT_doc (by rw [← HSeb.out]; exact (by rw [doc_double ec hec1, hec2])) (by rw [← HSeb.out, Bt_size, List.length_cons, beL_len]; decide))
  have E1 : Hid (∀ W, Keep nob w W → Calls Tryz.prog 12 #[.string scc, .string scd] W fun e w' => e = .returned (.bool true) ∧ Keep nob w w') := Lib.hid (fun W hk => (same_law _ _ _ _ _ Tcc.out Tcd.out B sa W (HG.out.keep hk (fun _ h => h.elim))).mono fun e w' ⟨h1, h2⟩ => ⟨h1, hk.then_ h2⟩)
  have E2 : Hid (∀ W, Keep nob w W → Calls Tryz.prog 12 #[.string scd, .string sce] W fun e w' => e = .returned (.bool true) ∧ Keep nob w w') := Lib.hid (fun W hk => (same_law _ _ _ _ _ Tcd.out Tce.out B sa W (HG.out.keep hk (fun _ h => h.elim))).mono fun e w' ⟨h1, h2⟩ => ⟨h1, hk.then_ h2⟩)
  have E3 : Hid (∀ W, Keep nob w W → Calls Tryz.prog 12 #[.string sce, .string scf] W fun e w' => e = .returned (.bool true) ∧ Keep nob w w') := Lib.hid (fun W hk => (same_law _ _ _ _ _ Tce.out Tcf.out B sa W (HG.out.keep hk (fun _ h => h.elim))).mono fun e w' ⟨h1, h2⟩ => ⟨h1, hk.then_ h2⟩)
  have E4 : Hid (∀ W, Keep nob w W → Calls Tryz.prog 12 #[.string scf, .string sda] W fun e w' => e = .returned (.bool true) ∧ Keep nob w w') := Lib.hid (fun W hk => (same_law _ _ _ _ _ Tcf.out Tda.out B sa W (HG.out.keep hk (fun _ h => h.elim))).mono fun e w' ⟨h1, h2⟩ => ⟨h1, hk.then_ h2⟩)
  have E5 : Hid (∀ W, Keep nob w W → Calls Tryz.prog 12 #[.string sdb, .string sdc] W fun e w' => e = .returned (.bool true) ∧ Keep nob w w') := Lib.hid (fun W hk => (same_law _ _ _ _ _ Tdb.out Tdc.out B sa W (HG.out.keep hk (fun _ h => h.elim))).mono fun e w' ⟨h1, h2⟩ => ⟨h1, hk.then_ h2⟩)
  have E6 : Hid (∀ W, Keep nob w W → Calls Tryz.prog 12 #[.string sdc, .string sdd] W fun e w' => e = .returned (.bool true) ∧ Keep nob w w') := Lib.hid (fun W hk => (same_law _ _ _ _ _ Tdc.out Tdd.out B sa W (HG.out.keep hk (fun _ h => h.elim))).mono fun e w' ⟨h1, h2⟩ => ⟨h1, hk.then_ h2⟩)
  have E9 : Hid (∀ W, Keep nob w W → Calls Tryz.prog 12 #[.string sdb, .string see] W fun e w' => e = .returned (.bool true) ∧ Keep nob w w') := Lib.hid (fun W hk => (same_law _ _ _ _ _ Tdb.out Tee.out B sa W (HG.out.keep hk (fun _ h => h.elim))).mono fun e w' ⟨h1, h2⟩ => ⟨h1, hk.then_ h2⟩)
  have E10 : Hid (∀ W, Keep nob w W → Calls Tryz.prog 12 #[.string sca, .string seb] W fun e w' => e = .returned (.bool true) ∧ Keep nob w w') := Lib.hid (fun W hk => (same_law _ _ _ _ _ Tca.out Teb.out B sa W (HG.out.keep hk (fun _ h => h.elim))).mono fun e w' ⟨h1, h2⟩ => ⟨h1, hk.then_ h2⟩)
  have Lca : Hid (∀ W, Calls Tryz.prog 11 #[.int .u8 202, .int .i64 4, .int .u64 (c : Int)] W fun e w' => e = .returned (.string sca) ∧ Keep nob W w') := Lib.hid (fun W => by rw [← HSca.out]; exact wide_ok 202 4 c (by decide) (by decide) W)
  have Leb : Hid (∀ W, Calls Tryz.prog 11 #[.int .u8 203, .int .i64 8, .int .u64 (ec : Int)] W fun e w' => e = .returned (.string seb) ∧ Keep nob W w') := Lib.hid (fun W => by rw [← HSeb.out]; exact wide_ok 203 8 ec (by decide) (by decide) W)
  have EL10 : Hid (∀ W, Keep nob w W → Calls Tryz.prog 12 #[.string sca, .string seb] W fun e w' => e = .returned (.bool true) ∧ Keep nob W w') := Lib.hid (fun W hk => same_law _ _ _ _ _ Tca.out Teb.out B sa W (HG.out.keep hk (fun _ h => h.elim)))
  have HLL : Hid (∀ W, Keep nob w W → Calls Tryz.prog 10 #[] W fun e w' => e = .returned (.bool true) ∧ Keep nob W w') := Lib.hid (fun W hk => lives_ok B sa W (HG.out.keep hk (fun _ h => h.elim)))
  have da : decide ((a : Int) < 128) = true := by rw [decide_eq_true_iff]; omega
  have da' : decide (a < 128) = true := by rw [decide_eq_true_iff]; exact ha1
  obtain ⟨ssh, HSsh⟩ : ∃ y, Hid (Bt (a :: beL 0 0) = y) := ⟨_, Lib.hid rfl⟩
  have Wsh : Hid (∀ W, Keep nob w W → Calls Tryz.prog 11 #[.int .u8 (a : Int), .int .i64 0, .int .u64 0] W fun e w' => e = .returned (.string ssh) ∧ Keep nob w w') := Lib.hid (fun W hk => by rw [← HSsh.out]; exact (wide_ok a 0 0 (by omega) (by decide) W).mono fun e w' ⟨h1, h2⟩ => ⟨h1, hk.then_ h2⟩)
  have Tsh : Hid (readT ssh = .ok (intW (a : Int)) ssh.size) := Lib.hid (readT_doc (by rw [← HSsh.out]; exact (by rw [← whole_int (by omega)]; exact doc_short a a (by omega) (pick_whole ha1))) (by rw [← HSsh.out, Bt_size, List.length_cons, beL_len]; decide))
  obtain ⟨sd0, HSd0⟩ : ∃ y, Hid (Bt (208 :: beL 1 a) = y) := ⟨_, Lib.hid rfl⟩
  have Wd0 : Hid (∀ W, Keep nob w W → Calls Tryz.prog 11 #[.int .u8 208, .int .i64 1, .int .u64 (a : Int)] W fun e w' => e = .returned (.string sd0) ∧ Keep nob w w') := Lib.hid (fun W hk => by rw [← HSd0.out]; exact (wide_ok 208 1 a (by decide) (by decide) W).mono fun e w' ⟨h1, h2⟩ => ⟨h1, hk.then_ h2⟩)
  have Td0 : Hid (readT sd0 = .ok (intW (a : Int)) sd0.size) := Lib.hid (readT_doc (by rw [← HSd0.out]; exact (by rw [← twos_int 0 a (a : Int) (by decide) (by omega) (by omega) (by omega)]; exact doc_signed 208 1 a (by decide) rfl)) (by rw [← HSd0.out, Bt_size, List.length_cons, beL_len]; decide))
  have E7 : Hid (∀ W, Keep nob w W → Calls Tryz.prog 12 #[.string ssh, .string sd0] W fun e w' => e = .returned (.bool true) ∧ Keep nob w w') := Lib.hid (fun W hk => (same_law _ _ _ _ _ Tsh.out Td0.out B sa W (HG.out.keep hk (fun _ h => h.elim))).mono fun e w' ⟨h1, h2⟩ => ⟨h1, hk.then_ h2⟩)
  have E8 : Hid (∀ W, Keep nob w W → Calls Tryz.prog 12 #[.string ssh, .string scc] W fun e w' => e = .returned (.bool true) ∧ Keep nob w w') := Lib.hid (fun W hk => (same_law _ _ _ _ _ Tsh.out Tcc.out B sa W (HG.out.keep hk (fun _ h => h.elim))).mono fun e w' ⟨h1, h2⟩ => ⟨h1, hk.then_ h2⟩)
  have dz : decide (z ≥ -32) = true := by rw [decide_eq_true_iff]; omega
  have dz1 : decide (-32 ≤ z) = true := by rw [decide_eq_true_iff]; omega
  have dz2 : decide (z < 0) = false := by rw [decide_eq_false_iff_not]; omega
  have HLV : Hid (∀ W, Keep nob w W → Calls Tryz.prog 10 #[] W fun e w' => e = .returned (.bool true) ∧ Keep nob w w') := Lib.hid (fun W hk => (lives_ok B sa W (HG.out.keep hk (fun _ h => h.elim))).mono fun e w' ⟨h1, h2⟩ => ⟨h1, hk.then_ h2⟩)
  have hr1 : readN Wd sdb = .ok (intW z) sdb.size := by
    have h := Tdb.out
    unfold readT at h
    split at h
    · cases h
    · exact h
  have R1 : Hid (∀ W, Keep nob w W → Calls Tryz.prog 7 #[.string sdb] W (fun e w2 => Keep nob w w2 ∧ ∃ r : Raw, e = .returned (.tuple #[.agg #[.int .i8 (r.kind : Int), .int .u64 (r.n : Int), .bool r.neg, .slice r.mA r.mL r.mC, .int .u64 (r.bits : Int), .int .i8 r.ext, .string r.text, .slice r.kA r.kL r.kC], .nilIface]) ∧ Tr w2 (fun k => k < w2.heap.size) r (intW z))) := by
    refine Lib.hid (fun W k => ?_)
    have h := read_all sdb B sa W (HG.out.keep k (fun _ h => h.elim))
    rw [Tdb.out] at h
    exact h.mono fun e w2 ⟨h1, r, h2, h3⟩ => ⟨k.then_ h1, r, h2, Tr.mono (fun b h1 _ => h1) _ _ h3⟩
  have V1 := read_own hr1
  have X1 := read_tx (by rw [← HSdb.out, Bt_size, List.length_cons, beL_len]; decide) hr1
  have Y1 := read_dep flatWd hr1
  have B1 : Hid (∀ (W : World) (r : Raw) (D : Nat → Prop), Keep nob w W → Tr W D r (intW z) → (∀ b, D b → b < W.heap.size) → Calls Tryz.prog 20 #[.agg #[.int .i8 (r.kind : Int), .int .u64 (r.n : Int), .bool r.neg, .slice r.mA r.mL r.mC, .int .u64 (r.bits : Int), .int .i8 r.ext, .string r.text, .slice r.kA r.kL r.kC]] W fun e w' => e = .returned (.tuple #[.int .u64 (ez : Int), .bool true]) ∧ Keep nob W w') := Lib.hid (fun W r D hk ht hD => bits_ok hez V1.1 X1.2 X1.1 Y1 r D B sa W (HG.out.keep hk (fun _ h => h.elim)) ht hD)
  have hr2 : readN Wd sca = .ok (vc) sca.size := by
    have h := Tca.out
    unfold readT at h
    split at h
    · cases h
    · exact h
  have R2 : Hid (∀ W, Keep nob w W → Calls Tryz.prog 7 #[.string sca] W (fun e w2 => Keep nob w w2 ∧ ∃ r : Raw, e = .returned (.tuple #[.agg #[.int .i8 (r.kind : Int), .int .u64 (r.n : Int), .bool r.neg, .slice r.mA r.mL r.mC, .int .u64 (r.bits : Int), .int .i8 r.ext, .string r.text, .slice r.kA r.kL r.kC], .nilIface]) ∧ Tr w2 (fun k => k < w2.heap.size) r (vc))) := by
    refine Lib.hid (fun W k => ?_)
    have h := read_all sca B sa W (HG.out.keep k (fun _ h => h.elim))
    rw [Tca.out] at h
    exact h.mono fun e w2 ⟨h1, r, h2, h3⟩ => ⟨k.then_ h1, r, h2, Tr.mono (fun b h1 _ => h1) _ _ h3⟩
  have V2 := read_own hr2
  have X2 := read_tx (by rw [← HSca.out, Bt_size, List.length_cons, beL_len]; decide) hr2
  have Y2 := read_dep flatWd hr2
  have B2 : Hid (∀ (W : World) (r : Raw) (D : Nat → Prop), Keep nob w W → Tr W D r (vc) → (∀ b, D b → b < W.heap.size) → Calls Tryz.prog 20 #[.agg #[.int .i8 (r.kind : Int), .int .u64 (r.n : Int), .bool r.neg, .slice r.mA r.mL r.mC, .int .u64 (r.bits : Int), .int .i8 r.ext, .string r.text, .slice r.kA r.kL r.kC]] W fun e w' => e = .returned (.tuple #[.int .u64 (ec : Int), .bool true]) ∧ Keep nob W w') := Lib.hid (fun W r D hk ht hD => bits_ok hec V2.1 X2.2 X2.1 Y2 r D B sa W (HG.out.keep hk (fun _ h => h.elim)) ht hD)
  have O1 : Hid (∀ W, Keep nob w W → Calls Tryz.prog 21 #[.int .u32 (c : Int)] W (fun e w2 => Keep nob W w2 ∧ ∃ r : Raw, e = .returned (.agg #[.int .i8 (r.kind : Int), .int .u64 (r.n : Int), .bool r.neg, .slice r.mA r.mL r.mC, .int .u64 (r.bits : Int), .int .i8 r.ext, .string r.text, .slice r.kA r.kL r.kC]) ∧ Tr w2 (fun k => W.heap.size ≤ k) r vc)) := by
    refine Lib.hid (fun W k => ?_)
    have h := of32v_ok c B hc sa W (HG.out.keep k (fun _ h => h.elim))
    rw [HVC.out] at h
    exact h
  have HSM := Lib.hid (fun (W : World) (r r' : Raw) (D D' : Nat → Prop) (h : Tr W D r vc) (h' : Tr W D' r' vc) => same_ok vc r r' D D' W h h')
  clear V1 X1 Y1 V2 X2 Y2 hr1 hr2 hez hez1 hez2 hec hec1 hec2 g hu ha1 hn1
  have hk0 : Keep nob w w := Keep.refl _ _
  go_enter Tryz.func6, Tryz.ntmps6
  go_upto_region 12 with (first | (first | (go_at_call 11; (with_reducible refine (Wcc.out _ (by first | assumption | exact Keep.alloc (by assumption) _)).mono ?_); rintro e w2 ⟨rfl, hk2⟩) | (go_at_call 11; (with_reducible refine (Wcd.out _ (by first | assumption | exact Keep.alloc (by assumption) _)).mono ?_); rintro e w2 ⟨rfl, hk2⟩) | (go_at_call 11; (with_reducible refine (Wce.out _ (by first | assumption | exact Keep.alloc (by assumption) _)).mono ?_); rintro e w2 ⟨rfl, hk2⟩) | (go_at_call 11; (with_reducible refine (Wcf.out _ (by first | assumption | exact Keep.alloc (by assumption) _)).mono ?_); rintro e w2 ⟨rfl, hk2⟩) | (go_at_call 11; (with_reducible refine (Wda.out _ (by first | assumption | exact Keep.alloc (by assumption) _)).mono ?_); rintro e w2 ⟨rfl, hk2⟩) | (go_at_call 11; (with_reducible refine (Wdb.out _ (by first | assumption | exact Keep.alloc (by assumption) _)).mono ?_); rintro e w2 ⟨rfl, hk2⟩) | (go_at_call 11; (with_reducible refine (Wdc.out _ (by first | assumption | exact Keep.alloc (by assumption) _)).mono ?_); rintro e w2 ⟨rfl, hk2⟩) | (go_at_call 11; (with_reducible refine (Wdd.out _ (by first | assumption | exact Keep.alloc (by assumption) _)).mono ?_); rintro e w2 ⟨rfl, hk2⟩) | (go_at_call 11; (with_reducible refine (Wee.out _ (by first | assumption | exact Keep.alloc (by assumption) _)).mono ?_); rintro e w2 ⟨rfl, hk2⟩) | (go_at_call 11; (with_reducible refine (Wca.out _ (by first | assumption | exact Keep.alloc (by assumption) _)).mono ?_); rintro e w2 ⟨rfl, hk2⟩) | (go_at_call 11; (with_reducible refine (Web.out _ (by first | assumption | exact Keep.alloc (by assumption) _)).mono ?_); rintro e w2 ⟨rfl, hk2⟩) | (go_at_call 12; (with_reducible refine (E1.out _ (by first | assumption | exact Keep.alloc (by assumption) _)).mono ?_); rintro e w2 ⟨rfl, hk2⟩) | (go_at_call 12; (with_reducible refine (E2.out _ (by first | assumption | exact Keep.alloc (by assumption) _)).mono ?_); rintro e w2 ⟨rfl, hk2⟩) | (go_at_call 12; (with_reducible refine (E3.out _ (by first | assumption | exact Keep.alloc (by assumption) _)).mono ?_); rintro e w2 ⟨rfl, hk2⟩) | (go_at_call 12; (with_reducible refine (E4.out _ (by first | assumption | exact Keep.alloc (by assumption) _)).mono ?_); rintro e w2 ⟨rfl, hk2⟩) | (go_at_call 12; (with_reducible refine (E5.out _ (by first | assumption | exact Keep.alloc (by assumption) _)).mono ?_); rintro e w2 ⟨rfl, hk2⟩) | (go_at_call 12; (with_reducible refine (E6.out _ (by first | assumption | exact Keep.alloc (by assumption) _)).mono ?_); rintro e w2 ⟨rfl, hk2⟩) | (go_at_call 12; (with_reducible refine (E9.out _ (by first | assumption | exact Keep.alloc (by assumption) _)).mono ?_); rintro e w2 ⟨rfl, hk2⟩) | (go_at_call 12; (with_reducible refine (E10.out _ (by first | assumption | exact Keep.alloc (by assumption) _)).mono ?_); rintro e w2 ⟨rfl, hk2⟩) | (go_at_call 11; (with_reducible refine (Wsh.out _ (by first | assumption | exact Keep.alloc (by assumption) _)).mono ?_); rintro e w2 ⟨rfl, hk2⟩) | (go_at_call 11; (with_reducible refine (Wd0.out _ (by first | assumption | exact Keep.alloc (by assumption) _)).mono ?_); rintro e w2 ⟨rfl, hk2⟩) | (go_at_call 12; (with_reducible refine (E7.out _ (by first | assumption | exact Keep.alloc (by assumption) _)).mono ?_); rintro e w2 ⟨rfl, hk2⟩) | (go_at_call 12; (with_reducible refine (E8.out _ (by first | assumption | exact Keep.alloc (by assumption) _)).mono ?_); rintro e w2 ⟨rfl, hk2⟩)) | (go_at_call 7; (with_reducible refine (R1.out _ (by first | assumption | exact Keep.alloc (by assumption) _)).mono ?_); rintro e w5 ⟨hk5, q1, rfl, ht1⟩))
  have HK5 := Lib.hid hk5
  have HT1 := Lib.hid ht1
  clear hk5 ht1
  obtain ⟨x1, HX1⟩ : ∃ x1, Hid (w5.alloc (.cells #[.int .i8 (q1.kind : Int), .int .u64 (q1.n : Int), .bool q1.neg, .slice q1.mA q1.mL q1.mC, .int .u64 (q1.bits : Int), .int .i8 q1.ext, .string q1.text, .slice q1.kA q1.kL q1.kC] 31) = x1) := ⟨_, Lib.hid rfl⟩
  obtain ⟨b1, HB1⟩ : ∃ b1, Hid (w5.heap.size = b1) := ⟨_, Lib.hid rfl⟩
  have HA1 : Hid (Keep nob w5 x1) := by unfold Hid; rw [← HX1.out]; exact (Keep.refl _ _).alloc _
  have HN1 := Lib.hid (range_new w5 q1 31)
  rw [show w5.alloc (.cells (ER.cells q1).toArray 31) = x1 from HX1.out, HB1.out] at HN1
  rw [HX1.out, HB1.out]
  have HW1 : Hid (Keep nob w x1) := Lib.hid (HK5.out.then_ HA1.out)
  have HTX1 : Hid (Tr x1 (fun k => k < x1.heap.size) q1 (intW z)) := Lib.hid (Tr.keep HA1.out (nobD _) _ _ (Tr.mono (fun b _ h => Nat.lt_of_lt_of_le h HA1.out.size) _ _ HT1.out))
  obtain ⟨c0, c1, c2, c3, c4, c5, c6, c7⟩ := cells_val HN1.out
  go_upto_region 13 with (go_at_call 20; go_must (refine (B1.out _ q1 _ HW1.out HTX1.out (fun _ h => h)).mono ?_); rintro e w6 ⟨rfl, hk6⟩)
  have hk6 : Keep nob w w6 := HW1.out.then_ hk6
  clear c0 c1 c2 c3 c4 c5 c6 c7
  go_upto_region 16 with (first | (first | (go_at_call 11; (with_reducible refine (Wcc.out _ (by first | assumption | exact Keep.alloc (by assumption) _)).mono ?_); rintro e w2 ⟨rfl, hk2⟩) | (go_at_call 11; (with_reducible refine (Wcd.out _ (by first | assumption | exact Keep.alloc (by assumption) _)).mono ?_); rintro e w2 ⟨rfl, hk2⟩) | (go_at_call 11; (with_reducible refine (Wce.out _ (by first | assumption | exact Keep.alloc (by assumption) _)).mono ?_); rintro e w2 ⟨rfl, hk2⟩) | (go_at_call 11; (with_reducible refine (Wcf.out _ (by first | assumption | exact Keep.alloc (by assumption) _)).mono ?_); rintro e w2 ⟨rfl, hk2⟩) | (go_at_call 11; (with_reducible refine (Wda.out _ (by first | assumption | exact Keep.alloc (by assumption) _)).mono ?_); rintro e w2 ⟨rfl, hk2⟩) | (go_at_call 11; (with_reducible refine (Wdb.out _ (by first | assumption | exact Keep.alloc (by assumption) _)).mono ?_); rintro e w2 ⟨rfl, hk2⟩) | (go_at_call 11; (with_reducible refine (Wdc.out _ (by first | assumption | exact Keep.alloc (by assumption) _)).mono ?_); rintro e w2 ⟨rfl, hk2⟩) | (go_at_call 11; (with_reducible refine (Wdd.out _ (by first | assumption | exact Keep.alloc (by assumption) _)).mono ?_); rintro e w2 ⟨rfl, hk2⟩) | (go_at_call 11; (with_reducible refine (Wee.out _ (by first | assumption | exact Keep.alloc (by assumption) _)).mono ?_); rintro e w2 ⟨rfl, hk2⟩) | (go_at_call 11; (with_reducible refine (Wca.out _ (by first | assumption | exact Keep.alloc (by assumption) _)).mono ?_); rintro e w2 ⟨rfl, hk2⟩) | (go_at_call 11; (with_reducible refine (Web.out _ (by first | assumption | exact Keep.alloc (by assumption) _)).mono ?_); rintro e w2 ⟨rfl, hk2⟩) | (go_at_call 12; (with_reducible refine (E1.out _ (by first | assumption | exact Keep.alloc (by assumption) _)).mono ?_); rintro e w2 ⟨rfl, hk2⟩) | (go_at_call 12; (with_reducible refine (E2.out _ (by first | assumption | exact Keep.alloc (by assumption) _)).mono ?_); rintro e w2 ⟨rfl, hk2⟩) | (go_at_call 12; (with_reducible refine (E3.out _ (by first | assumption | exact Keep.alloc (by assumption) _)).mono ?_); rintro e w2 ⟨rfl, hk2⟩) | (go_at_call 12; (with_reducible refine (E4.out _ (by first | assumption | exact Keep.alloc (by assumption) _)).mono ?_); rintro e w2 ⟨rfl, hk2⟩) | (go_at_call 12; (with_reducible refine (E5.out _ (by first | assumption | exact Keep.alloc (by assumption) _)).mono ?_); rintro e w2 ⟨rfl, hk2⟩) | (go_at_call 12; (with_reducible refine (E6.out _ (by first | assumption | exact Keep.alloc (by assumption) _)).mono ?_); rintro e w2 ⟨rfl, hk2⟩) | (go_at_call 12; (with_reducible refine (E9.out _ (by first | assumption | exact Keep.alloc (by assumption) _)).mono ?_); rintro e w2 ⟨rfl, hk2⟩) | (go_at_call 12; (with_reducible refine (E10.out _ (by first | assumption | exact Keep.alloc (by assumption) _)).mono ?_); rintro e w2 ⟨rfl, hk2⟩) | (go_at_call 11; (with_reducible refine (Wsh.out _ (by first | assumption | exact Keep.alloc (by assumption) _)).mono ?_); rintro e w2 ⟨rfl, hk2⟩) | (go_at_call 11; (with_reducible refine (Wd0.out _ (by first | assumption | exact Keep.alloc (by assumption) _)).mono ?_); rintro e w2 ⟨rfl, hk2⟩) | (go_at_call 12; (with_reducible refine (E7.out _ (by first | assumption | exact Keep.alloc (by assumption) _)).mono ?_); rintro e w2 ⟨rfl, hk2⟩) | (go_at_call 12; (with_reducible refine (E8.out _ (by first | assumption | exact Keep.alloc (by assumption) _)).mono ?_); rintro e w2 ⟨rfl, hk2⟩)) | (go_at_call 7; (with_reducible refine (R2.out _ (by first | assumption | exact Keep.alloc (by assumption) _)).mono ?_); rintro e w7 ⟨hk7, q2, rfl, ht2⟩))
  have HK7 := Lib.hid hk7
  have HT2 := Lib.hid ht2
  clear hk7 ht2
  obtain ⟨x2, HX2⟩ : ∃ x2, Hid (w7.alloc (.cells #[.int .i8 (q2.kind : Int), .int .u64 (q2.n : Int), .bool q2.neg, .slice q2.mA q2.mL q2.mC, .int .u64 (q2.bits : Int), .int .i8 q2.ext, .string q2.text, .slice q2.kA q2.kL q2.kC] 31) = x2) := ⟨_, Lib.hid rfl⟩
  obtain ⟨b2, HB2⟩ : ∃ b2, Hid (w7.heap.size = b2) := ⟨_, Lib.hid rfl⟩
  have HA2 : Hid (Keep nob w7 x2) := by unfold Hid; rw [← HX2.out]; exact (Keep.refl _ _).alloc _
  have HN2 := Lib.hid (range_new w7 q2 31)
  rw [show w7.alloc (.cells (ER.cells q2).toArray 31) = x2 from HX2.out, HB2.out] at HN2
  rw [HX2.out, HB2.out]
  have HW2 : Hid (Keep nob w x2) := Lib.hid (HK7.out.then_ HA2.out)
  have HTX2 : Hid (Tr x2 (fun k => k < x2.heap.size) q2 vc) := Lib.hid (Tr.keep HA2.out (nobD _) _ _ (Tr.mono (fun b _ h => Nat.lt_of_lt_of_le h HA2.out.size) _ _ HT2.out))
  obtain ⟨c0, c1, c2, c3, c4, c5, c6, c7⟩ := cells_val HN2.out
  go_upto_region 17 with (go_at_call 20; go_must (refine (B2.out _ q2 _ HW2.out HTX2.out (fun _ h => h)).mono ?_); rintro e w8 ⟨rfl, hk8⟩)
  have HK8 := Lib.hid hk8
  have HW8 : Hid (Keep nob w w8) := Lib.hid (HW2.out.then_ hk8)
  clear c0 c1 c2 c3 c4 c5 c6 c7 hk8
  refine wp_region_fx 23 [.p, .p, .p, .p, .p, .p, .kv, .p, .cf (fun x => .agg #[.int .i8 (x.r.kind : Int), .int .u64 (x.r.n : Int), .bool x.r.neg, .slice x.r.mA x.r.mL x.r.mC, .int .u64 (x.r.bits : Int), .int .i8 x.r.ext, .string x.r.text, .slice x.r.kA x.r.kL x.r.kC]) (fun x W => Tr W (fun _ => True) x.r vc), .cv (.bool true), .p, .p, .p, .p, .cv (.string sca), .p, .cv (.string seb), .cv (.bool true), .p, .p, .cv (.bool true), .p, .p] [] nob (fun _ => True) (fun _ _ _ _ => trivial) trivial (by kernel_rfl) (by kernel_rfl) (fun h => absurd rfl h) ?_
  simp only [List.take_succ_cons, List.take_zero, List.drop_succ_cons, List.drop_zero]
  refine fx_p ?_ (by rfl) (fun w' => ?_) (fun K hK => ?_); rotate_left; (go_simp; first | done | exact rfl); go_simp; refine hK _ ?_; clear hK K
  refine fx_p ?_ (by rfl) (fun w' => ?_) (fun K hK => ?_); rotate_left; (go_simp; first | done | exact rfl); go_simp; refine hK _ ?_; clear hK K
  refine fx_p ?_ (by rfl) (fun w' => ?_) (fun K hK => ?_); rotate_left; (go_simp; first | done | exact rfl); go_simp; refine hK _ ?_; clear hK K
  refine fx_p ?_ (by rfl) (fun w' => ?_) (fun K hK => ?_); rotate_left; (go_simp; first | done | exact rfl); go_simp; refine hK _ ?_; clear hK K
  refine fx_p ?_ (by rfl) (fun w' => ?_) (fun K hK => ?_); rotate_left; (go_simp; first | done | exact rfl); go_simp; refine hK _ ?_; clear hK K
  refine fx_p ?_ (by rfl) (fun w' => ?_) (fun K hK => ?_); rotate_left; (go_simp; first | done | exact rfl); go_simp; refine hK _ ?_; clear hK K
  refine fx_kv ?_ (by rfl) (fun w' hw' ha => ?_) (fun K hK => ?_); rotate_left; (obtain ⟨c0, c1, c2, c3, c4, c5, c6, c7⟩ := cells_val (range_keep (HK8.out.then_ hw'.keep) HN2.out); go_simp; first | done | exact rfl); go_simp; refine hK _ ?_; clear hK K
  refine fx_p ?_ (by rfl) (fun w' => ?_) (fun K hK => ?_); rotate_left; (go_simp; first | done | exact rfl); go_simp; refine hK _ ?_; clear hK K
  refine fx_cf (f := ?_) (args := ?_) (by rfl) (fun x W W' h k => Tr.keep k (fun _ _ hS => hS) _ _ h) (fun w' => ?_) (fun w' hw' ha => ?_) (fun K hK x => ?_); rotate_left 2; (go_simp; first | done | (refine And.intro ?_ ?_ <;> exact rfl) | exact rfl); (refine (O1.out _ (HW8.out.then_ hw'.keep)).mono ?_; rintro e w3 ⟨h2, r, rfl, h3⟩; exact ⟨⟨undef, 0, r⟩, rfl, h2, Tr.mono (fun _ _ _ => trivial) _ _ h3⟩); go_simp; refine hK _ _ ?_; clear hK K
  refine fx_cv (f := ?_) (args := ?_) (by rfl) (fun w' => ?_) (fun w' hw' ha => ?_) (fun K hK => ?_); rotate_left 2; (go_simp; first | done | (refine And.intro ?_ ?_ <;> exact rfl) | exact rfl); (have hx := ha _ List.mem_cons_self (by kernel_rfl); have hs := HSM.out w' q2 x.r _ _ (Tr.keep (HK8.out.then_ hw'.keep) (nobD _) _ _ HTX2.out) hx; simp only [ER] at hs; exact hs); go_simp; refine hK _ ?_; clear hK K
  refine fx_p ?_ (by rfl) (fun w' => ?_) (fun K hK => ?_); rotate_left; (go_simp; first | done | exact rfl); go_simp; refine hK _ ?_; clear hK K
  refine fx_p ?_ (by rfl) (fun w' => ?_) (fun K hK => ?_); rotate_left; (go_simp; first | done | exact rfl); go_simp; refine hK _ ?_; clear hK K
  refine fx_p ?_ (by rfl) (fun w' => ?_) (fun K hK => ?_); rotate_left; (go_simp; first | done | exact rfl); go_simp; refine hK _ ?_; clear hK K
  refine fx_p ?_ (by rfl) (fun w' => ?_) (fun K hK => ?_); rotate_left; (go_simp; first | done | exact rfl); go_simp; refine hK _ ?_; clear hK K
  refine fx_cv (f := ?_) (args := ?_) (by rfl) (fun w' => ?_) (fun w' hw' ha => ?_) (fun K hK => ?_); rotate_left 2; (go_simp; first | done | (refine And.intro ?_ ?_ <;> exact rfl) | exact rfl); (exact Lca.out _); go_simp; refine hK _ ?_; clear hK K
  refine fx_p ?_ (by rfl) (fun w' => ?_) (fun K hK => ?_); rotate_left; (go_simp; first | done | exact rfl); go_simp; refine hK _ ?_; clear hK K
  refine fx_cv (f := ?_) (args := ?_) (by rfl) (fun w' => ?_) (fun w' hw' ha => ?_) (fun K hK => ?_); rotate_left 2; (go_simp; first | done | (refine And.intro ?_ ?_ <;> exact rfl) | exact rfl); (exact Leb.out _); go_simp; refine hK _ ?_; clear hK K
  refine fx_cv (f := ?_) (args := ?_) (by rfl) (fun w' => ?_) (fun w' hw' ha => ?_) (fun K hK => ?_); rotate_left 2; (go_simp; first | done | (refine And.intro ?_ ?_ <;> exact rfl) | exact rfl); (exact EL10.out _ (HW8.out.then_ hw'.keep)); go_simp; refine hK _ ?_; clear hK K
  refine fx_p ?_ (by rfl) (fun w' => ?_) (fun K hK => ?_); rotate_left; (go_simp; first | done | exact rfl); go_simp; refine hK _ ?_; clear hK K
  refine fx_p ?_ (by rfl) (fun w' => ?_) (fun K hK => ?_); rotate_left; (go_simp; first | done | exact rfl); go_simp; refine hK _ ?_; clear hK K
  refine fx_cv (f := ?_) (args := ?_) (by rfl) (fun w' => ?_) (fun w' hw' ha => ?_) (fun K hK => ?_); rotate_left 2; (go_simp; first | done | (refine And.intro ?_ ?_ <;> exact rfl) | exact rfl); (exact HLL.out _ (HW8.out.then_ hw'.keep)); go_simp; refine hK _ ?_; clear hK K
  refine fx_p ?_ (by rfl) (fun w' => ?_) (fun K hK => ?_); rotate_left; (go_simp; first | done | exact rfl); go_simp; refine hK _ ?_; clear hK K
  refine fx_p ?_ (by rfl) (fun w' => ?_) (fun K hK => ?_); rotate_left; (go_simp; first | done | exact rfl); go_simp; refine hK _ ?_; clear hK K
  refine fx_nil ?_
  intro w9 hk9 hΓ
  have HK9 := Lib.hid hk9.keep
  have HFx := Lib.hid (hΓ _ List.mem_cons_self)
  clear hk9 hΓ
  go_wp2
  go_ret
  exact ⟨rfl, HW8.out.then_ HK9.out⟩
set_option maxRecDepth 100000 in
set_option maxHeartbeats 8000000 in
theorem lawN_bi (a : Nat) (ha : a < 256) (z : Int) (hz1 : -32768 ≤ z) (hz2 : z < 32768) (c : Nat) (hc : c < 4294967296) (ha1 : ¬ a < 128) (hn1 : -32 ≤ z) (hn2 : z < 0) (B : Nat) (sa : Nat → Addr) (w : World) (g : GL B sa w) : Calls Tryz.prog 6 #[.int .u8 (a : Int), .int .i16 z, .int .u32 (c : Int)] w fun e w' => e = .returned (.bool true) ∧ Keep nob w w' := by
  obtain ⟨u, HU⟩ : ∃ u : Nat, Hid ((u : Int) = z % 18446744073709551616) := ⟨(z % 18446744073709551616).toNat, Lib.hid (by omega)⟩
  have hu : (u : Int) = z % 18446744073709551616 := HU.out
  have i1 : IntKind.u64.wrap (a : Int) = (a : Int) := by rw [IntKind.wrap_u64]; omega
  have i2 : IntKind.u64.wrap z = (u : Int) := by rw [IntKind.wrap_u64]; exact HU.out.symm
  have i3 : IntKind.u64.wrap (c : Int) = (c : Int) := by rw [IntKind.wrap_u64]; omega
  obtain ⟨ez, hez, hez1, hez2⟩ := small_bits z (by omega)
  obtain ⟨vc, HVC⟩ : ∃ vc, Hid (ofV 23 (-149) 8 c = vc) := ⟨_, Lib.hid rfl⟩
  obtain ⟨ec, hec, hec1, hec2⟩ := single_bits c
  rw [HVC.out] at hec hec2
  have HG := Lib.hid g
  obtain ⟨scc, HScc⟩ : ∃ y, Hid (Bt (204 :: beL 1 a) = y) := ⟨_, Lib.hid rfl⟩
  have Wcc : Hid (∀ W, Keep nob w W → Calls Tryz.prog 11 #[.int .u8 204, .int .i64 1, .int .u64 (a : Int)] W fun e w' => e = .returned (.string scc) ∧ Keep nob w w') := Lib.hid (fun W hk => by rw [← HScc.out]; exact (wide_ok 204 1 a (by decide) (by decide) W).mono fun e w' ⟨h1, h2⟩ => ⟨h1, hk.then_ h2⟩)
  have Tcc : Hid (readT scc = .ok (intW (a : Int)) scc.size) := Lib.hid (readT_doc (by rw [← HScc.out]; exact (by rw [← whole_int (by omega)]; exact doc_whole 204 1 a (by decide) rfl (by decide) (by omega))) (by rw [← HScc.out, Bt_size, List.length_cons, beL_len]; decide))
  obtain ⟨scd, HScd⟩ : ∃ y, Hid (Bt (205 :: beL 2 a) = y) := ⟨_, Lib.hid rfl⟩
  have Wcd : Hid (∀ W, Keep nob w W → Calls Tryz.prog 11 #[.int .u8 205, .int .i64 2, .int .u64 (a : Int)] W fun e w' => e = .returned (.string scd) ∧ Keep nob w w') := Lib.hid (fun W hk => by rw [← HScd.out]; exact (wide_ok 205 2 a (by decide) (by decide) W).mono fun e w' ⟨h1, h2⟩ => ⟨h1, hk.then_ h2⟩)
  have Tcd : Hid (readT scd = .ok (intW (a : Int)) scd.size) := Lib.hid (readT_doc (by rw [← HScd.out]; exact (by rw [← whole_int (by omega)]; exact doc_whole 205 2 a (by decide) rfl (by decide) (by omega))) (by rw [← HScd.out, Bt_size, List.length_cons, beL_len]; decide))
  obtain ⟨sce, HSce⟩ : ∃ y, Hid (Bt (206 :: beL 4 a) = y) := ⟨_, Lib.hid rfl⟩
  have Wce : Hid (∀ W, Keep nob w W → Calls Tryz.prog 11 #[.int .u8 206, .int .i64 4, .int .u64 (a : Int)] W fun e w' => e = .returned (.string sce) ∧ Keep nob w w') := Lib.hid (fun W hk => by rw [← HSce.out]; exact (wide_ok 206 4 a (by decide) (by decide) W).mono fun e w' ⟨h1, h2⟩ => ⟨h1, hk.then_ h2⟩)
  have Tce : Hid (readT sce = .ok (intW (a : Int)) sce.size) := Lib.hid (readT_doc (by rw [← HSce.out]; exact (by rw [← whole_int (by omega)]; exact doc_whole 206 4 a (by decide) rfl (by decide) (by omega))) (by rw [← HSce.out, Bt_size, List.length_cons, beL_len]; decide))
  obtain ⟨scf, HScf⟩ : ∃ y, Hid (Bt (207 :: beL 8 a) = y) := ⟨_, Lib.hid rfl⟩
  have Wcf : Hid (∀ W, Keep nob w W → Calls Tryz.prog 11 #[.int .u8 207, .int .i64 8, .int .u64 (a : Int)] W fun e w' => e = .returned (.string scf) ∧ Keep nob w w') := Lib.hid (fun W hk => by rw [← HScf.out]; exact (wide_ok 207 8 a (by decide) (by decide) W).mono fun e w' ⟨h1, h2⟩ => ⟨h1, hk.then_ h2⟩)
  have Tcf : Hid (readT scf = .ok (intW (a : Int)) scf.size) := Lib.hid (readT_doc (by rw [← HScf.out]; exact (by rw [← whole_int (by omega)]; exact doc_whole 207 8 a (by decide) rfl (by decide) (by omega))) (by rw [← HScf.out, Bt_size, List.length_cons, beL_len]; decide))
  obtain ⟨sda, HSda⟩ : ∃ y, Hid (Bt (209 :: beL 2 a) = y) := ⟨_, Lib.hid rfl⟩
  have Wda : Hid (∀ W, Keep nob w W → Calls Tryz.prog 11 #[.int .u8 209, .int .i64 2, .int .u64 (a : Int)] W fun e w' => e = .returned (.string sda) ∧ Keep nob w w') := Lib.hid (fun W hk => by rw [← HSda.out]; exact (wide_ok 209 2 a (by decide) (by decide) W).mono fun e w' ⟨h1, h2⟩ => ⟨h1, hk.then_ h2⟩)
  have Tda : Hid (readT sda = .ok (intW (a : Int)) sda.size) := Lib.hid (readT_doc (by rw [← HSda.out]; exact (by rw [← twos_int 1 a (a : Int) (by decide) (by omega) (by omega) (by omega)]; exact doc_signed 209 2 a (by decide) rfl)) (by rw [← HSda.out, Bt_size, List.length_cons, beL_len]; decide))
  obtain ⟨sdb, HSdb⟩ : ∃ y, Hid (Bt (209 :: beL 2 u) = y) := ⟨_, Lib.hid rfl⟩
  have Wdb : Hid (∀ W, Keep nob w W → Calls Tryz.prog 11 #[.int .u8 209, .int .i64 2, .int .u64 (u : Int)] W fun e w' => e = .returned (.string sdb) ∧ Keep nob w w') := Lib.hid (fun W hk => by rw [← HSdb.out]; exact (wide_ok 209 2 u (by decide) (by decide) W).mono fun e w' ⟨h1, h2⟩ => ⟨h1, hk.then_ h2⟩)
  have Tdb : Hid (readT sdb = .ok (intW z) sdb.size) := Lib.hid (readT_doc (by rw [← HSdb.out]; exact (by rw [← twos_int 1 u z (by decide) hu (by omega) (by omega)]; exact doc_signed 209 2 u (by decide) rfl)) (by rw [← HSdb.out, Bt_size, List.length_cons, beL_len]; decide))
  obtain ⟨sdc, HSdc⟩ : ∃ y, Hid (Bt (210 :: beL 4 u) = y) := ⟨_, Lib.hid rfl⟩
  have Wdc : Hid (∀ W, Keep nob w W → Calls Tryz.prog 11 #[.int .u8 210, .int .i64 4, .int .u64 (u : Int)] W fun e w' => e = .returned (.string sdc) ∧ Keep nob w w') := Lib.hid (fun W hk => by rw [← HSdc.out]; exact (wide_ok 210 4 u (by decide) (by decide) W).mono fun e w' ⟨h1, h2⟩ => ⟨h1, hk.then_ h2⟩)
  have Tdc : Hid (readT sdc = .ok (intW z) sdc.size) := Lib.hid (readT_doc (by rw [← HSdc.out]; exact (by rw [← twos_int 3 u z (by decide) hu (by omega) (by omega)]; exact doc_signed 210 4 u (by decide) rfl)) (by rw [← HSdc.out, Bt_size, List.length_cons, beL_len]; decide))
  obtain ⟨sdd, HSdd⟩ : ∃ y, Hid (Bt (211 :: beL 8 u) = y) := ⟨_, Lib.hid rfl⟩
  have Wdd : Hid (∀ W, Keep nob w W → Calls Tryz.prog 11 #[.int .u8 211, .int .i64 8, .int .u64 (u : Int)] W fun e w' => e = .returned (.string sdd) ∧ Keep nob w w') := Lib.hid (fun W hk => by rw [← HSdd.out]; exact (wide_ok 211 8 u (by decide) (by decide) W).mono fun e w' ⟨h1, h2⟩ => ⟨h1, hk.then_ h2⟩)
  have Tdd : Hid (readT sdd = .ok (intW z) sdd.size) := Lib.hid (readT_doc (by rw [← HSdd.out]; exact (by rw [← twos_int 7 u z (by decide) hu (by omega) (by omega)]; exact doc_signed 211 8 u (by decide) rfl)) (by rw [← HSdd.out, Bt_size, List.length_cons, beL_len]; decide))
  obtain ⟨see, HSee⟩ : ∃ y, Hid (Bt (203 :: beL 8 ez) = y) := ⟨_, Lib.hid rfl⟩
  have Wee : Hid (∀ W, Keep nob w W → Calls Tryz.prog 11 #[.int .u8 203, .int .i64 8, .int .u64 (ez : Int)] W fun e w' => e = .returned (.string see) ∧ Keep nob w w') := Lib.hid (fun W hk => by rw [← HSee.out]; exact (wide_ok 203 8 ez (by decide) (by decide) W).mono fun e w' ⟨h1, h2⟩ => ⟨h1, hk.then_ h2⟩)
  have Tee : Hid (readT see = .ok (intW z) see.size) := Lib.hid (readT_doc (by rw [← HSee.out]; exact (by rw [doc_double ez hez1, hez2])) (by rw [← HSee.out, Bt_size, List.length_cons, beL_len]; decide))
  obtain ⟨sca, HSca⟩ : ∃ y, Hid (Bt (202 :: beL 4 c) = y) := ⟨_, Lib.hid rfl⟩
  have Wca : Hid (∀ W, Keep nob w W → Calls Tryz.prog 11 #[.int .u8 202, .int .i64 4, .int .u64 (c : Int)] W fun e w' => e = .returned (.string sca) ∧ Keep nob w w') := Lib.hid (fun W hk => by rw [← HSca.out]; exact (wide_ok 202 4 c (by decide) (by decide) W).mono fun e w' ⟨h1, h2⟩ => ⟨h1, hk.then_ h2⟩)
  have Tca : Hid (readT sca = .ok (vc) sca.size) := Lib.hid (readT_doc (by rw [← HSca.out]; exact (by rw [doc_single c hc, HVC.out])) (by rw [← HSca.out, Bt_size, List.length_cons, beL_len]; decide))
  obtain ⟨seb, HSeb⟩ : ∃ y, Hid (Bt (203 :: beL 8 ec) = y) := ⟨_, Lib.hid rfl⟩
  have Web : Hid (∀ W, Keep nob w W → Calls Tryz.prog 11 #[.int .u8 203, .int .i64 8, .int .u64 (ec : Int)] W fun e w' => e = .returned (.string seb) ∧ Keep nob w w') := Lib.hid (fun W hk => by rw [← HSeb.out]; exact (wide_ok 203 8 ec (by decide) (by decide) W).mono fun e w' ⟨h1, h2⟩ => ⟨h1, hk.then_ h2⟩)
  have Teb : Hid (readT seb = .ok (vc) seb.size) := Lib.hid (readT_doc (by rw [← HSeb.out]; exact (by rw [doc_double ec hec1, hec2])) (by rw [← HSeb.out, Bt_size, List.length_cons, beL_len]; decide))
  have E1 : Hid (∀ W, Keep nob w W → Calls Tryz.prog 12 #[.string scc, .string scd] W fun e w' => e = .returned (.bool true) ∧ Keep nob w w') := Lib.hid (fun W hk => (same_law _ _ _ _ _ Tcc.out Tcd.out B sa W (HG.out.keep hk (fun _ h => h.elim))).mono fun e w' ⟨h1, h2⟩ => ⟨h1, hk.then_ h2⟩)
  have E2 : Hid (∀ W, Keep nob w W → Calls Tryz.prog 12 #[.string scd, .string sce] W fun e w' => e = .returned (.bool true) ∧ Keep nob w w') := Lib.hid (fun W hk => (same_law _ _ _ _ _ Tcd.out Tce.out B sa W (HG.out.keep hk (fun _ h => h.elim))).mono fun e w' ⟨h1, h2⟩ => ⟨h1, hk.then_ h2⟩)
  have E3 : Hid (∀ W, Keep nob w W → Calls Tryz.prog 12 #[.string sce, .string scf] W fun e w' => e = .returned (.bool true) ∧ Keep nob w w') := Lib.hid (fun W hk => (same_law _ _ _ _ _ Tce.out Tcf.out B sa W (HG.out.keep hk (fun _ h => h.elim))).mono fun e w' ⟨h1, h2⟩ => ⟨h1, hk.then_ h2⟩)
  have E4 : Hid (∀ W, Keep nob w W → Calls Tryz.prog 12 #[.string scf, .string sda] W fun e w' => e = .returned (.bool true) ∧ Keep nob w w') := Lib.hid (fun W hk => (same_law _ _ _ _ _ Tcf.out Tda.out B sa W (HG.out.keep hk (fun _ h => h.elim))).mono fun e w' ⟨h1, h2⟩ => ⟨h1, hk.then_ h2⟩)
  have E5 : Hid (∀ W, Keep nob w W → Calls Tryz.prog 12 #[.string sdb, .string sdc] W fun e w' => e = .returned (.bool true) ∧ Keep nob w w') := Lib.hid (fun W hk => (same_law _ _ _ _ _ Tdb.out Tdc.out B sa W (HG.out.keep hk (fun _ h => h.elim))).mono fun e w' ⟨h1, h2⟩ => ⟨h1, hk.then_ h2⟩)
  have E6 : Hid (∀ W, Keep nob w W → Calls Tryz.prog 12 #[.string sdc, .string sdd] W fun e w' => e = .returned (.bool true) ∧ Keep nob w w') := Lib.hid (fun W hk => (same_law _ _ _ _ _ Tdc.out Tdd.out B sa W (HG.out.keep hk (fun _ h => h.elim))).mono fun e w' ⟨h1, h2⟩ => ⟨h1, hk.then_ h2⟩)
  have E9 : Hid (∀ W, Keep nob w W → Calls Tryz.prog 12 #[.string sdb, .string see] W fun e w' => e = .returned (.bool true) ∧ Keep nob w w') := Lib.hid (fun W hk => (same_law _ _ _ _ _ Tdb.out Tee.out B sa W (HG.out.keep hk (fun _ h => h.elim))).mono fun e w' ⟨h1, h2⟩ => ⟨h1, hk.then_ h2⟩)
  have E10 : Hid (∀ W, Keep nob w W → Calls Tryz.prog 12 #[.string sca, .string seb] W fun e w' => e = .returned (.bool true) ∧ Keep nob w w') := Lib.hid (fun W hk => (same_law _ _ _ _ _ Tca.out Teb.out B sa W (HG.out.keep hk (fun _ h => h.elim))).mono fun e w' ⟨h1, h2⟩ => ⟨h1, hk.then_ h2⟩)
  have Lca : Hid (∀ W, Calls Tryz.prog 11 #[.int .u8 202, .int .i64 4, .int .u64 (c : Int)] W fun e w' => e = .returned (.string sca) ∧ Keep nob W w') := Lib.hid (fun W => by rw [← HSca.out]; exact wide_ok 202 4 c (by decide) (by decide) W)
  have Leb : Hid (∀ W, Calls Tryz.prog 11 #[.int .u8 203, .int .i64 8, .int .u64 (ec : Int)] W fun e w' => e = .returned (.string seb) ∧ Keep nob W w') := Lib.hid (fun W => by rw [← HSeb.out]; exact wide_ok 203 8 ec (by decide) (by decide) W)
  have EL10 : Hid (∀ W, Keep nob w W → Calls Tryz.prog 12 #[.string sca, .string seb] W fun e w' => e = .returned (.bool true) ∧ Keep nob W w') := Lib.hid (fun W hk => same_law _ _ _ _ _ Tca.out Teb.out B sa W (HG.out.keep hk (fun _ h => h.elim)))
  have HLL : Hid (∀ W, Keep nob w W → Calls Tryz.prog 10 #[] W fun e w' => e = .returned (.bool true) ∧ Keep nob W w') := Lib.hid (fun W hk => lives_ok B sa W (HG.out.keep hk (fun _ h => h.elim)))
  have da : decide ((a : Int) < 128) = false := by rw [decide_eq_false_iff_not]; omega
  have da' : decide (a < 128) = false := by rw [decide_eq_false_iff_not]; exact ha1
  have dz : decide (z ≥ -32) = true := by rw [decide_eq_true_iff]; omega
  have dz1 : decide (-32 ≤ z) = true := by rw [decide_eq_true_iff]; omega
  have dz2 : decide (z < 0) = true := by rw [decide_eq_true_iff]; omega
  obtain ⟨f, HF⟩ : ∃ f : Nat, Hid ((f : Int) = z + 256) := ⟨(z + 256).toNat, Lib.hid (by omega)⟩
  have hf : (f : Int) = z + 256 := HF.out
  have jf : IntKind.u8.wrap z = (f : Int) := by rw [IntKind.wrap_u8]; omega
  have hfz : -((256 - f : Nat) : Int) = z := by omega
  obtain ⟨ssf, HSsf⟩ : ∃ y, Hid (Bt (f :: beL 0 0) = y) := ⟨_, Lib.hid rfl⟩
  have Wsf : Hid (∀ W, Keep nob w W → Calls Tryz.prog 11 #[.int .u8 (f : Int), .int .i64 0, .int .u64 0] W fun e w' => e = .returned (.string ssf) ∧ Keep nob w w') := Lib.hid (fun W hk => by rw [← HSsf.out]; exact (wide_ok f 0 0 (by omega) (by decide) W).mono fun e w' ⟨h1, h2⟩ => ⟨h1, hk.then_ h2⟩)
  have Tsf : Hid (readT ssf = .ok (intW z) ssf.size) := Lib.hid (readT_doc (by rw [← HSsf.out]; exact (by rw [← hfz, ← below_int (by omega)]; exact doc_below f (256 - f) (by omega) (pick_below (by omega)))) (by rw [← HSsf.out, Bt_size, List.length_cons, beL_len]; decide))
  have E11 : Hid (∀ W, Keep nob w W → Calls Tryz.prog 12 #[.string ssf, .string sdb] W fun e w' => e = .returned (.bool true) ∧ Keep nob w w') := Lib.hid (fun W hk => (same_law _ _ _ _ _ Tsf.out Tdb.out B sa W (HG.out.keep hk (fun _ h => h.elim))).mono fun e w' ⟨h1, h2⟩ => ⟨h1, hk.then_ h2⟩)
  have HLV : Hid (∀ W, Keep nob w W → Calls Tryz.prog 10 #[] W fun e w' => e = .returned (.bool true) ∧ Keep nob w w') := Lib.hid (fun W hk => (lives_ok B sa W (HG.out.keep hk (fun _ h => h.elim))).mono fun e w' ⟨h1, h2⟩ => ⟨h1, hk.then_ h2⟩)
  have hr1 : readN Wd sdb = .ok (intW z) sdb.size := by
    have h := Tdb.out
    unfold readT at h
    split at h
    · cases h
    · exact h
  have R1 : Hid (∀ W, Keep nob w W → Calls Tryz.prog 7 #[.string sdb] W (fun e w2 => Keep nob w w2 ∧ ∃ r : Raw, e = .returned (.tuple #[.agg #[.int .i8 (r.kind : Int), .int .u64 (r.n : Int), .bool r.neg, .slice r.mA r.mL r.mC, .int .u64 (r.bits : Int), .int .i8 r.ext, .string r.text, .slice r.kA r.kL r.kC], .nilIface]) ∧ Tr w2 (fun k => k < w2.heap.size) r (intW z))) := by
    refine Lib.hid (fun W k => ?_)
    have h := read_all sdb B sa W (HG.out.keep k (fun _ h => h.elim))
    rw [Tdb.out] at h
    exact h.mono fun e w2 ⟨h1, r, h2, h3⟩ => ⟨k.then_ h1, r, h2, Tr.mono (fun b h1 _ => h1) _ _ h3⟩
  have V1 := read_own hr1
  have X1 := read_tx (by rw [← HSdb.out, Bt_size, List.length_cons, beL_len]; decide) hr1
  have Y1 := read_dep flatWd hr1
  have B1 : Hid (∀ (W : World) (r : Raw) (D : Nat → Prop), Keep nob w W → Tr W D r (intW z) → (∀ b, D b → b < W.heap.size) → Calls Tryz.prog 20 #[.agg #[.int .i8 (r.kind : Int), .int .u64 (r.n : Int), .bool r.neg, .slice r.mA r.mL r.mC, .int .u64 (r.bits : Int), .int .i8 r.ext, .string r.text, .slice r.kA r.kL r.kC]] W fun e w' => e = .returned (.tuple #[.int .u64 (ez : Int), .bool true]) ∧ Keep nob W w') := Lib.hid (fun W r D hk ht hD => bits_ok hez V1.1 X1.2 X1.1 Y1 r D B sa W (HG.out.keep hk (fun _ h => h.elim)) ht hD)
  have hr2 : readN Wd sca = .ok (vc) sca.size := by
    have h := Tca.out
    unfold readT at h
    split at h
    · cases h
    · exact h
  have R2 : Hid (∀ W, Keep nob w W → Calls Tryz.prog 7 #[.string sca] W (fun e w2 => Keep nob w w2 ∧ ∃ r : Raw, e = .returned (.tuple #[.agg #[.int .i8 (r.kind : Int), .int .u64 (r.n : Int), .bool r.neg, .slice r.mA r.mL r.mC, .int .u64 (r.bits : Int), .int .i8 r.ext, .string r.text, .slice r.kA r.kL r.kC], .nilIface]) ∧ Tr w2 (fun k => k < w2.heap.size) r (vc))) := by
    refine Lib.hid (fun W k => ?_)
    have h := read_all sca B sa W (HG.out.keep k (fun _ h => h.elim))
    rw [Tca.out] at h
    exact h.mono fun e w2 ⟨h1, r, h2, h3⟩ => ⟨k.then_ h1, r, h2, Tr.mono (fun b h1 _ => h1) _ _ h3⟩
  have V2 := read_own hr2
  have X2 := read_tx (by rw [← HSca.out, Bt_size, List.length_cons, beL_len]; decide) hr2
  have Y2 := read_dep flatWd hr2
  have B2 : Hid (∀ (W : World) (r : Raw) (D : Nat → Prop), Keep nob w W → Tr W D r (vc) → (∀ b, D b → b < W.heap.size) → Calls Tryz.prog 20 #[.agg #[.int .i8 (r.kind : Int), .int .u64 (r.n : Int), .bool r.neg, .slice r.mA r.mL r.mC, .int .u64 (r.bits : Int), .int .i8 r.ext, .string r.text, .slice r.kA r.kL r.kC]] W fun e w' => e = .returned (.tuple #[.int .u64 (ec : Int), .bool true]) ∧ Keep nob W w') := Lib.hid (fun W r D hk ht hD => bits_ok hec V2.1 X2.2 X2.1 Y2 r D B sa W (HG.out.keep hk (fun _ h => h.elim)) ht hD)
  have O1 : Hid (∀ W, Keep nob w W → Calls Tryz.prog 21 #[.int .u32 (c : Int)] W (fun e w2 => Keep nob W w2 ∧ ∃ r : Raw, e = .returned (.agg #[.int .i8 (r.kind : Int), .int .u64 (r.n : Int), .bool r.neg, .slice r.mA r.mL r.mC, .int .u64 (r.bits : Int), .int .i8 r.ext, .string r.text, .slice r.kA r.kL r.kC]) ∧ Tr w2 (fun k => W.heap.size ≤ k) r vc)) := by
    refine Lib.hid (fun W k => ?_)
    have h := of32v_ok c B hc sa W (HG.out.keep k (fun _ h => h.elim))
    rw [HVC.out] at h
    exact h
  have HSM := Lib.hid (fun (W : World) (r r' : Raw) (D D' : Nat → Prop) (h : Tr W D r vc) (h' : Tr W D' r' vc) => same_ok vc r r' D D' W h h')
  clear V1 X1 Y1 V2 X2 Y2 hr1 hr2 hez hez1 hez2 hec hec1 hec2 g hu ha1 hn1 hn2 hf hfz
  have hk0 : Keep nob w w := Keep.refl _ _
  go_enter Tryz.func6, Tryz.ntmps6
  go_upto_region 12 with (first | (first | (go_at_call 11; (with_reducible refine (Wcc.out _ (by first | assumption | exact Keep.alloc (by assumption) _)).mono ?_); rintro e w2 ⟨rfl, hk2⟩) | (go_at_call 11; (with_reducible refine (Wcd.out _ (by first | assumption | exact Keep.alloc (by assumption) _)).mono ?_); rintro e w2 ⟨rfl, hk2⟩) | (go_at_call 11; (with_reducible refine (Wce.out _ (by first | assumption | exact Keep.alloc (by assumption) _)).mono ?_); rintro e w2 ⟨rfl, hk2⟩) | (go_at_call 11; (with_reducible refine (Wcf.out _ (by first | assumption | exact Keep.alloc (by assumption) _)).mono ?_); rintro e w2 ⟨rfl, hk2⟩) | (go_at_call 11; (with_reducible refine (Wda.out _ (by first | assumption | exact Keep.alloc (by assumption) _)).mono ?_); rintro e w2 ⟨rfl, hk2⟩) | (go_at_call 11; (with_reducible refine (Wdb.out _ (by first | assumption | exact Keep.alloc (by assumption) _)).mono ?_); rintro e w2 ⟨rfl, hk2⟩) | (go_at_call 11; (with_reducible refine (Wdc.out _ (by first | assumption | exact Keep.alloc (by assumption) _)).mono ?_); rintro e w2 ⟨rfl, hk2⟩) | (go_at_call 11; (with_reducible refine (Wdd.out _ (by first | assumption | exact Keep.alloc (by assumption) _)).mono ?_); rintro e w2 ⟨rfl, hk2⟩) | (go_at_call 11; (with_reducible refine (Wee.out _ (by first | assumption | exact Keep.alloc (by assumption) _)).mono ?_); rintro e w2 ⟨rfl, hk2⟩) | (go_at_call 11; (with_reducible refine (Wca.out _ (by first | assumption | exact Keep.alloc (by assumption) _)).mono ?_); rintro e w2 ⟨rfl, hk2⟩) | (go_at_call 11; (with_reducible refine (Web.out _ (by first | assumption | exact Keep.alloc (by assumption) _)).mono ?_); rintro e w2 ⟨rfl, hk2⟩) | (go_at_call 12; (with_reducible refine (E1.out _ (by first | assumption | exact Keep.alloc (by assumption) _)).mono ?_); rintro e w2 ⟨rfl, hk2⟩) | (go_at_call 12; (with_reducible refine (E2.out _ (by first | assumption | exact Keep.alloc (by assumption) _)).mono ?_); rintro e w2 ⟨rfl, hk2⟩) | (go_at_call 12; (with_reducible refine (E3.out _ (by first | assumption | exact Keep.alloc (by assumption) _)).mono ?_); rintro e w2 ⟨rfl, hk2⟩) | (go_at_call 12; (with_reducible refine (E4.out _ (by first | assumption | exact Keep.alloc (by assumption) _)).mono ?_); rintro e w2 ⟨rfl, hk2⟩) | (go_at_call 12; (with_reducible refine (E5.out _ (by first | assumption | exact Keep.alloc (by assumption) _)).mono ?_); rintro e w2 ⟨rfl, hk2⟩) | (go_at_call 12; (with_reducible refine (E6.out _ (by first | assumption | exact Keep.alloc (by assumption) _)).mono ?_); rintro e w2 ⟨rfl, hk2⟩) | (go_at_call 12; (with_reducible refine (E9.out _ (by first | assumption | exact Keep.alloc (by assumption) _)).mono ?_); rintro e w2 ⟨rfl, hk2⟩) | (go_at_call 12; (with_reducible refine (E10.out _ (by first | assumption | exact Keep.alloc (by assumption) _)).mono ?_); rintro e w2 ⟨rfl, hk2⟩) | (go_at_call 11; (with_reducible refine (Wsf.out _ (by first | assumption | exact Keep.alloc (by assumption) _)).mono ?_); rintro e w2 ⟨rfl, hk2⟩) | (go_at_call 12; (with_reducible refine (E11.out _ (by first | assumption | exact Keep.alloc (by assumption) _)).mono ?_); rintro e w2 ⟨rfl, hk2⟩)) | (go_at_call 7; (with_reducible refine (R1.out _ (by first | assumption | exact Keep.alloc (by assumption) _)).mono ?_); rintro e w5 ⟨hk5, q1, rfl, ht1⟩))
  have HK5 := Lib.hid hk5
  have HT1 := Lib.hid ht1
  clear hk5 ht1
  obtain ⟨x1, HX1⟩ : ∃ x1, Hid (w5.alloc (.cells #[.int .i8 (q1.kind : Int), .int .u64 (q1.n : Int), .bool q1.neg, .slice q1.mA q1.mL q1.mC, .int .u64 (q1.bits : Int), .int .i8 q1.ext, .string q1.text, .slice q1.kA q1.kL q1.kC] 31) = x1) := ⟨_, Lib.hid rfl⟩
  obtain ⟨b1, HB1⟩ : ∃ b1, Hid (w5.heap.size = b1) := ⟨_, Lib.hid rfl⟩
  have HA1 : Hid (Keep nob w5 x1) := by unfold Hid; rw [← HX1.out]; exact (Keep.refl _ _).alloc _
  have HN1 := Lib.hid (range_new w5 q1 31)
  rw [show w5.alloc (.cells (ER.cells q1).toArray 31) = x1 from HX1.out, HB1.out] at HN1
  rw [HX1.out, HB1.out]
  have HW1 : Hid (Keep nob w x1) := Lib.hid (HK5.out.then_ HA1.out)
  have HTX1 : Hid (Tr x1 (fun k => k < x1.heap.size) q1 (intW z)) := Lib.hid (Tr.keep HA1.out (nobD _) _ _ (Tr.mono (fun b _ h => Nat.lt_of_lt_of_le h HA1.out.size) _ _ HT1.out))
  obtain ⟨c0, c1, c2, c3, c4, c5, c6, c7⟩ := cells_val HN1.out
  go_upto_region 13 with (go_at_call 20; go_must (refine (B1.out _ q1 _ HW1.out HTX1.out (fun _ h => h)).mono ?_); rintro e w6 ⟨rfl, hk6⟩)
  have hk6 : Keep nob w w6 := HW1.out.then_ hk6
  clear c0 c1 c2 c3 c4 c5 c6 c7
  go_upto_region 16 with (first | (first | (go_at_call 11; (with_reducible refine (Wcc.out _ (by first | assumption | exact Keep.alloc (by assumption) _)).mono ?_); rintro e w2 ⟨rfl, hk2⟩) | (go_at_call 11; (with_reducible refine (Wcd.out _ (by first | assumption | exact Keep.alloc (by assumption) _)).mono ?_); rintro e w2 ⟨rfl, hk2⟩) | (go_at_call 11; (with_reducible refine (Wce.out _ (by first | assumption | exact Keep.alloc (by assumption) _)).mono ?_); rintro e w2 ⟨rfl, hk2⟩) | (go_at_call 11; (with_reducible refine (Wcf.out _ (by first | assumption | exact Keep.alloc (by assumption) _)).mono ?_); rintro e w2 ⟨rfl, hk2⟩) | (go_at_call 11; (with_reducible refine (Wda.out _ (by first | assumption | exact Keep.alloc (by assumption) _)).mono ?_); rintro e w2 ⟨rfl, hk2⟩) | (go_at_call 11; (with_reducible refine (Wdb.out _ (by first | assumption | exact Keep.alloc (by assumption) _)).mono ?_); rintro e w2 ⟨rfl, hk2⟩) | (go_at_call 11; (with_reducible refine (Wdc.out _ (by first | assumption | exact Keep.alloc (by assumption) _)).mono ?_); rintro e w2 ⟨rfl, hk2⟩) | (go_at_call 11; (with_reducible refine (Wdd.out _ (by first | assumption | exact Keep.alloc (by assumption) _)).mono ?_); rintro e w2 ⟨rfl, hk2⟩) | (go_at_call 11; (with_reducible refine (Wee.out _ (by first | assumption | exact Keep.alloc (by assumption) _)).mono ?_); rintro e w2 ⟨rfl, hk2⟩) | (go_at_call 11; (with_reducible refine (Wca.out _ (by first | assumption | exact Keep.alloc (by assumption) _)).mono ?_); rintro e w2 ⟨rfl, hk2⟩) | (go_at_call 11; (with_reducible refine (Web.out _ (by first | assumption | exact Keep.alloc (by assumption) _)).mono ?_); rintro e w2 ⟨rfl, hk2⟩) | (go_at_call 12; (with_reducible refine (E1.out _ (by first | assumption | exact Keep.alloc (by assumption) _)).mono ?_); rintro e w2 ⟨rfl, hk2⟩) | (go_at_call 12; (with_reducible refine (E2.out _ (by first | assumption | exact Keep.alloc (by assumption) _)).mono ?_); rintro e w2 ⟨rfl, hk2⟩) | (go_at_call 12; (with_reducible refine (E3.out _ (by first | assumption | exact Keep.alloc (by assumption) _)).mono ?_); rintro e w2 ⟨rfl, hk2⟩) | (go_at_call 12; (with_reducible refine (E4.out _ (by first | assumption | exact Keep.alloc (by assumption) _)).mono ?_); rintro e w2 ⟨rfl, hk2⟩) | (go_at_call 12; (with_reducible refine (E5.out _ (by first | assumption | exact Keep.alloc (by assumption) _)).mono ?_); rintro e w2 ⟨rfl, hk2⟩) | (go_at_call 12; (with_reducible refine (E6.out _ (by first | assumption | exact Keep.alloc (by assumption) _)).mono ?_); rintro e w2 ⟨rfl, hk2⟩) | (go_at_call 12; (with_reducible refine (E9.out _ (by first | assumption | exact Keep.alloc (by assumption) _)).mono ?_); rintro e w2 ⟨rfl, hk2⟩) | (go_at_call 12; (with_reducible refine (E10.out _ (by first | assumption | exact Keep.alloc (by assumption) _)).mono ?_); rintro e w2 ⟨rfl, hk2⟩) | (go_at_call 11; (with_reducible refine (Wsf.out _ (by first | assumption | exact Keep.alloc (by assumption) _)).mono ?_); rintro e w2 ⟨rfl, hk2⟩) | (go_at_call 12; (with_reducible refine (E11.out _ (by first | assumption | exact Keep.alloc (by assumption) _)).mono ?_); rintro e w2 ⟨rfl, hk2⟩)) | (go_at_call 7; (with_reducible refine (R2.out _ (by first | assumption | exact Keep.alloc (by assumption) _)).mono ?_); rintro e w7 ⟨hk7, q2, rfl, ht2⟩))
  have HK7 := Lib.hid hk7
  have HT2 := Lib.hid ht2
  clear hk7 ht2
  obtain ⟨x2, HX2⟩ : ∃ x2, Hid (w7.alloc (.cells #[.int .i8 (q2.kind : Int), .int .u64 (q2.n : Int), .bool q2.neg, .slice q2.mA q2.mL q2.mC, .int .u64 (q2.bits : Int), .int .i8 q2.ext, .string q2.text, .slice q2.kA q2.kL q2.kC] 31) = x2) := ⟨_, Lib.hid rfl⟩
  obtain ⟨b2, HB2⟩ : ∃ b2, Hid (w7.heap.size = b2) := ⟨_, Lib.hid rfl⟩
  have HA2 : Hid (Keep nob w7 x2) := by unfold Hid; rw [← HX2.out]; exact (Keep.refl _ _).alloc _
  have HN2 := Lib.hid (range_new w7 q2 31)
  rw [show w7.alloc (.cells (ER.cells q2).toArray 31) = x2 from HX2.out, HB2.out] at HN2
  rw [HX2.out, HB2.out]
  have HW2 : Hid (Keep nob w x2) := Lib.hid (HK7.out.then_ HA2.out)
  have HTX2 : Hid (Tr x2 (fun k => k < x2.heap.size) q2 vc) := Lib.hid (Tr.keep HA2.out (nobD _) _ _ (Tr.mono (fun b _ h => Nat.lt_of_lt_of_le h HA2.out.size) _ _ HT2.out))
  obtain ⟨c0, c1, c2, c3, c4, c5, c6, c7⟩ := cells_val HN2.out
  go_upto_region 17 with (go_at_call 20; go_must (refine (B2.out _ q2 _ HW2.out HTX2.out (fun _ h => h)).mono ?_); rintro e w8 ⟨rfl, hk8⟩)
  have HK8 := Lib.hid hk8
  have HW8 : Hid (Keep nob w w8) := Lib.hid (HW2.out.then_ hk8)
  clear c0 c1 c2 c3 c4 c5 c6 c7 hk8
  refine wp_region_fx 23 [.p, .p, .p, .p, .p, .p, .kv, .p, .cf (fun x => .agg #[.int .i8 (x.r.kind : Int), .int .u64 (x.r.n : Int), .bool x.r.neg, .slice x.r.mA x.r.mL x.r.mC, .int .u64 (x.r.bits : Int), .int .i8 x.r.ext, .string x.r.text, .slice x.r.kA x.r.kL x.r.kC]) (fun x W => Tr W (fun _ => True) x.r vc), .cv (.bool true), .p, .p, .p, .p, .cv (.string sca), .p, .cv (.string seb), .cv (.bool true), .p, .p, .cv (.bool true), .p, .p] [] nob (fun _ => True) (fun _ _ _ _ => trivial) trivial (by kernel_rfl) (by kernel_rfl) (fun h => absurd rfl h) ?_
  simp only [List.take_succ_cons, List.take_zero, List.drop_succ_cons, List.drop_zero]
  refine fx_p ?_ (by rfl) (fun w' => ?_) (fun K hK => ?_); rotate_left; (go_simp; first | done | exact rfl); go_simp; refine hK _ ?_; clear hK K
  refine fx_p ?_ (by rfl) (fun w' => ?_) (fun K hK => ?_); rotate_left; (go_simp; first | done | exact rfl); go_simp; refine hK _ ?_; clear hK K
  refine fx_p ?_ (by rfl) (fun w' => ?_) (fun K hK => ?_); rotate_left; (go_simp; first | done | exact rfl); go_simp; refine hK _ ?_; clear hK K
  refine fx_p ?_ (by rfl) (fun w' => ?_) (fun K hK => ?_); rotate_left; (go_simp; first | done | exact rfl); go_simp; refine hK _ ?_; clear hK K
  refine fx_p ?_ (by rfl) (fun w' => ?_) (fun K hK => ?_); rotate_left; (go_simp; first | done | exact rfl); go_simp; refine hK _ ?_; clear hK K
  refine fx_p ?_ (by rfl) (fun w' => ?_) (fun K hK => ?_); rotate_left; (go_simp; first | done | exact rfl); go_simp; refine hK _ ?_; clear hK K
  refine fx_kv ?_ (by rfl) (fun w' hw' ha => ?_) (fun K hK => ?_); rotate_left; (obtain ⟨c0, c1, c2, c3, c4, c5, c6, c7⟩ := cells_val (range_keep (HK8.out.then_ hw'.keep) HN2.out); go_simp; first | done | exact rfl); go_simp; refine hK _ ?_; clear hK K
  refine fx_p ?_ (by rfl) (fun w' => ?_) (fun K hK => ?_); rotate_left; (go_simp; first | done | exact rfl); go_simp; refine hK _ ?_; clear hK K
  refine fx_cf (f := ?_) (args := ?_) (by rfl) (fun x W W' h k => Tr.keep k (fun _ _ hS => hS) _ _ h) (fun w' => ?_) (fun w' hw' ha => ?_) (fun K hK x => ?_); rotate_left 2; (go_simp; first | done | (refine And.intro ?_ ?_ <;> exact rfl) | exact rfl); (refine (O1.out _ (HW8.out.then_ hw'.keep)).mono ?_; rintro e w3 ⟨h2, r, rfl, h3⟩; exact ⟨⟨undef, 0, r⟩, rfl, h2, Tr.mono (fun _ _ _ => trivial) _ _ h3⟩); go_simp; refine hK _ _ ?_; clear hK K
  refine fx_cv (f := ?_) (args := ?_) (by rfl) (fun w' => ?_) (fun w' hw' ha => ?_) (fun K hK => ?_); rotate_left 2; (go_simp; first | done | (refine And.intro ?_ ?_ <;> exact rfl) | exact rfl); (have hx := ha _ List.mem_cons_self (by kernel_rfl); have hs := HSM.out w' q2 x.r _ _ (Tr.keep (HK8.out.then_ hw'.keep) (nobD _) _ _ HTX2.out) hx; simp only [ER] at hs; exact hs); go_simp; refine hK _ ?_; clear hK K
  refine fx_p ?_ (by rfl) (fun w' => ?_) (fun K hK => ?_); rotate_left; (go_simp; first | done | exact rfl); go_simp; refine hK _ ?_; clear hK K
  refine fx_p ?_ (by rfl) (fun w' => ?_) (fun K hK => ?_); rotate_left; (go_simp; first | done | exact rfl); go_simp; refine hK _ ?_; clear hK K
  refine fx_p ?_ (by rfl) (fun w' => ?_) (fun K hK => ?_); rotate_left; (go_simp; first | done | exact rfl); go_simp; refine hK _ ?_; clear hK K
  refine fx_p ?_ (by rfl) (fun w' => ?_) (fun K hK => ?_); rotate_left; (go_simp; first | done | exact rfl); go_simp; refine hK _ ?_; clear hK K
  refine fx_cv (f := ?_) (args := ?_) (by rfl) (fun w' => ?_) (fun w' hw' ha => ?_) (fun K hK => ?_); rotate_left 2; (go_simp; first | done | (refine And.intro ?_ ?_ <;> exact rfl) | exact rfl); (exact Lca.out _); go_simp; refine hK _ ?_; clear hK K
  refine fx_p ?_ (by rfl) (fun w' => ?_) (fun K hK => ?_); rotate_left; (go_simp; first | done | exact rfl); go_simp; refine hK _ ?_; clear hK K
  refine fx_cv (f := ?_) (args := ?_) (by rfl) (fun w' => ?_) (fun w' hw' ha => ?_) (fun K hK => ?_); rotate_left 2; (go_simp; first | done | (refine And.intro ?_ ?_ <;> exact rfl) | exact rfl); (exact Leb.out _); go_simp; refine hK _ ?_; clear hK K
  refine fx_cv (f := ?_) (args := ?_) (by rfl) (fun w' => ?_) (fun w' hw' ha => ?_) (fun K hK => ?_); rotate_left 2; (go_simp; first | done | (refine And.intro ?_ ?_ <;> exact rfl) | exact rfl); (exact EL10.out _ (HW8.out.then_ hw'.keep)); go_simp; refine hK _ ?_; clear hK K
  refine fx_p ?_ (by rfl) (fun w' => ?_) (fun K hK => ?_); rotate_left; (go_simp; first | done | exact rfl); go_simp; refine hK _ ?_; clear hK K
  refine fx_p ?_ (by rfl) (fun w' => ?_) (fun K hK => ?_); rotate_left; (go_simp; first | done | exact rfl); go_simp; refine hK _ ?_; clear hK K
  refine fx_cv (f := ?_) (args := ?_) (by rfl) (fun w' => ?_) (fun w' hw' ha => ?_) (fun K hK => ?_); rotate_left 2; (go_simp; first | done | (refine And.intro ?_ ?_ <;> exact rfl) | exact rfl); (exact HLL.out _ (HW8.out.then_ hw'.keep)); go_simp; refine hK _ ?_; clear hK K
  refine fx_p ?_ (by rfl) (fun w' => ?_) (fun K hK => ?_); rotate_left; (go_simp; first | done | exact rfl); go_simp; refine hK _ ?_; clear hK K
  refine fx_p ?_ (by rfl) (fun w' => ?_) (fun K hK => ?_); rotate_left; (go_simp; first | done | exact rfl); go_simp; refine hK _ ?_; clear hK K
  refine fx_nil ?_
  intro w9 hk9 hΓ
  have HK9 := Lib.hid hk9.keep
  have HFx := Lib.hid (hΓ _ List.mem_cons_self)
  clear hk9 hΓ
  go_wp2
  go_ret
  exact ⟨rfl, HW8.out.then_ HK9.out⟩
set_option maxRecDepth 100000 in
set_option maxHeartbeats 8000000 in
theorem lawN_bl (a : Nat) (ha : a < 256) (z : Int) (hz1 : -32768 ≤ z) (hz2 : z < 32768) (c : Nat) (hc : c < 4294967296) (ha1 : ¬ a < 128) (hn1 : z < -32) (B : Nat) (sa : Nat → Addr) (w : World) (g : GL B sa w) : Calls Tryz.prog 6 #[.int .u8 (a : Int), .int .i16 z, .int .u32 (c : Int)] w fun e w' => e = .returned (.bool true) ∧ Keep nob w w' := by
  obtain ⟨u, HU⟩ : ∃ u : Nat, Hid ((u : Int) = z % 18446744073709551616) := ⟨(z % 18446744073709551616).toNat, Lib.hid (by omega)⟩
  have hu : (u : Int) = z % 18446744073709551616 := HU.out
  have i1 : IntKind.u64.wrap (a : Int) = (a : Int) := by rw [IntKind.wrap_u64]; omega
  have i2 : IntKind.u64.wrap z = (u : Int) := by rw [IntKind.wrap_u64]; exact HU.out.symm
  have i3 : IntKind.u64.wrap (c : Int) = (c : Int) := by rw [IntKind.wrap_u64]; omega
  obtain ⟨ez, hez, hez1, hez2⟩ := small_bits z (by omega)
  obtain ⟨vc, HVC⟩ : ∃ vc, Hid (ofV 23 (-149) 8 c = vc) := ⟨_, Lib.hid rfl⟩
  obtain ⟨ec, hec, hec1, hec2⟩ := single_bits c
  rw [HVC.out] at hec hec2
  have HG := Lib.hid g
  obtain ⟨scc, HScc⟩ : ∃ y, Hid (Bt (204 :: beL 1 a) = y) := ⟨_, Lib.hid rfl⟩
  have Wcc : Hid (∀ W, Keep nob w W → Calls Tryz.prog 11 #[.int .u8 204, .int .i64 1, .int .u64 (a : Int)] W fun e w' => e = .returned (.string scc) ∧ Keep nob w w') := Lib.hid (fun W hk => by rw [← HScc.out]; exact (wide_ok 204 1 a (by decide) (by decide) W).mono fun e w' ⟨h1, h2⟩ => ⟨h1, hk.then_ h2⟩)
  have Tcc : Hid (readT scc = .ok (intW (a : Int)) scc.size) := Lib.hid (readT_doc (by rw [← HScc.out]; exact (by rw [← whole_int (by omega)]; exact doc_whole 204 1 a (by decide) rfl (by decide) (by omega))) (by rw [← HScc.out, Bt_size, List.length_cons, beL_len]; decide))
  obtain ⟨scd, HScd⟩ : ∃ y, Hid (Bt (205 :: beL 2 a) = y) := ⟨_, Lib.hid rfl⟩
  have Wcd : Hid (∀ W, Keep nob w W → Calls Tryz.prog 11 #[.int .u8 205, .int .i64 2, .int .u64 (a : Int)] W fun e w' => e = .returned (.string scd) ∧ Keep nob w w') := Lib.hid (fun W hk => by rw [← HScd.out]; exact (wide_ok 205 2 a (by decide) (by decide) W).mono fun e w' ⟨h1, h2⟩ => ⟨h1, hk.then_ h2⟩)
  have Tcd : Hid (readT scd = .ok (intW (a : Int)) scd.size) := Lib.hid (readT_doc (by rw [← HScd.out]; exact (by rw [← whole_int (by omega)]; exact doc_whole 205 2 a (by decide) rfl (by decide) (by omega))) (by rw [← HScd.out, Bt_size, List.length_cons, beL_len]; decide))
  obtain ⟨sce, HSce⟩ : ∃ y, Hid (Bt (206 :: beL 4 a) = y) := ⟨_, Lib.hid rfl⟩
  have Wce : Hid (∀ W, Keep nob w W → Calls Tryz.prog 11 #[.int .u8 206, .int .i64 4, .int .u64 (a : Int)] W fun e w' => e = .returned (.string sce) ∧ Keep nob w w') := Lib.hid (fun W hk => by rw [← HSce.out]; exact (wide_ok 206 4 a (by decide) (by decide) W).mono fun e w' ⟨h1, h2⟩ => ⟨h1, hk.then_ h2⟩)
  have Tce : Hid (readT sce = .ok (intW (a : Int)) sce.size) := Lib.hid (readT_doc (by rw [← HSce.out]; exact (by rw [← whole_int (by omega)]; exact doc_whole 206 4 a (by decide) rfl (by decide) (by omega))) (by rw [← HSce.out, Bt_size, List.length_cons, beL_len]; decide))
  obtain ⟨scf, HScf⟩ : ∃ y, Hid (Bt (207 :: beL 8 a) = y) := ⟨_, Lib.hid rfl⟩
  have Wcf : Hid (∀ W, Keep nob w W → Calls Tryz.prog 11 #[.int .u8 207, .int .i64 8, .int .u64 (a : Int)] W fun e w' => e = .returned (.string scf) ∧ Keep nob w w') := Lib.hid (fun W hk => by rw [← HScf.out]; exact (wide_ok 207 8 a (by decide) (by decide) W).mono fun e w' ⟨h1, h2⟩ => ⟨h1, hk.then_ h2⟩)
  have Tcf : Hid (readT scf = .ok (intW (a : Int)) scf.size) := Lib.hid (readT_doc (by rw [← HScf.out]; exact (by rw [← whole_int (by omega)]; exact doc_whole 207 8 a (by decide) rfl (by decide) (by omega))) (by rw [← HScf.out, Bt_size, List.length_cons, beL_len]; decide))
  obtain ⟨sda, HSda⟩ : ∃ y, Hid (Bt (209 :: beL 2 a) = y) := ⟨_, Lib.hid rfl⟩
  have Wda : Hid (∀ W, Keep nob w W → Calls Tryz.prog 11 #[.int .u8 209, .int .i64 2, .int .u64 (a : Int)] W fun e w' => e = .returned (.string sda) ∧ Keep nob w w') := Lib.hid (fun W hk => by rw [← HSda.out]; exact (wide_ok 209 2 a (by decide) (by decide) W).mono fun e w' ⟨h1, h2⟩ => ⟨h1, hk.then_ h2⟩)
  have Tda : Hid (readT sda = .ok (intW (a : Int)) sda.size) := Lib.hid (readT_doc (by rw [← HSda.out]; exact (by rw [← twos_int 1 a (a : Int) (by decide) (by omega) (by omega) (by omega)]; exact doc_signed 209 2 a (by decide) rfl)) (by rw [← HSda.out, Bt_size, List.length_cons, beL_len]; decide))
  obtain ⟨sdb, HSdb⟩ : ∃ y, Hid (Bt (209 :: beL 2 u) = y) := ⟨_, Lib.hid rfl⟩
  have Wdb : Hid (∀ W, Keep nob w W → Calls Tryz.prog 11 #[.int .u8 209, .int .i64 2, .int .u64 (u : Int)] W fun e w' => e = .returned (.string sdb) ∧ Keep nob w w') := Lib.hid (fun W hk => by rw [← HSdb.out]; exact (wide_ok 209 2 u (by decide) (by decide) W).mono fun e w' ⟨h1, h2⟩ => ⟨h1, hk.then_ h2⟩)
  have Tdb : Hid (readT sdb = .ok (intW z) sdb.size) := Lib.hid (readT_doc (by rw [← HSdb.out]; exact (by rw [← twos_int 1 u z (by decide) hu (by omega) (by omega)]; exact doc_signed 209 2 u (by decide) rfl)) (by rw [← HSdb.out, Bt_size, List.length_cons, beL_len]; decide))
  obtain ⟨sdc, HSdc⟩ : ∃ y, Hid (Bt (210 :: beL 4 u) = y) := ⟨_, Lib.hid rfl⟩
  have Wdc : Hid (∀ W, Keep nob w W → Calls Tryz.prog 11 #[.int .u8 210, .int .i64 4, .int .u64 (u : Int)] W fun e w' => e = .returned (.string sdc) ∧ Keep nob w w') := Lib.hid (fun W hk => by rw [← HSdc.out]; exact (wide_ok 210 4 u (by decide) (by decide) W).mono fun e w' ⟨h1, h2⟩ => ⟨h1, hk.then_ h2⟩)
  have Tdc : Hid (readT sdc = .ok (intW z) sdc.size) := Lib.hid (readT_doc (by rw [← HSdc.out]; exact (by rw [← twos_int 3 u z (by decide) hu (by omega) (by omega)]; exact doc_signed 210 4 u (by decide) rfl)) (by rw [← HSdc.out, Bt_size, List.length_cons, beL_len]; decide))
  obtain ⟨sdd, HSdd⟩ : ∃ y, Hid (Bt (211 :: beL 8 u) = y) := ⟨_, Lib.hid rfl⟩
  have Wdd : Hid (∀ W, Keep nob w W → Calls Tryz.prog 11 #[.int .u8 211, .int .i64 8, .int .u64 (u : Int)] W fun e w' => e = .returned (.string sdd) ∧ Keep nob w w') := Lib.hid (fun W hk => by rw [← HSdd.out]; exact (wide_ok 211 8 u (by decide) (by decide) W).mono fun e w' ⟨h1, h2⟩ => ⟨h1, hk.then_ h2⟩)
  have Tdd : Hid (readT sdd = .ok (intW z) sdd.size) := Lib.hid (readT_doc (by rw [← HSdd.out]; exact (by rw [← twos_int 7 u z (by decide) hu (by omega) (by omega)]; exact doc_signed 211 8 u (by decide) rfl)) (by rw [← HSdd.out, Bt_size, List.length_cons, beL_len]; decide))
  obtain ⟨see, HSee⟩ : ∃ y, Hid (Bt (203 :: beL 8 ez) = y) := ⟨_, Lib.hid rfl⟩
  have Wee : Hid (∀ W, Keep nob w W → Calls Tryz.prog 11 #[.int .u8 203, .int .i64 8, .int .u64 (ez : Int)] W fun e w' => e = .returned (.string see) ∧ Keep nob w w') := Lib.hid (fun W hk => by rw [← HSee.out]; exact (wide_ok 203 8 ez (by decide) (by decide) W).mono fun e w' ⟨h1, h2⟩ => ⟨h1, hk.then_ h2⟩)
  have Tee : Hid (readT see = .ok (intW z) see.size) := Lib.hid (readT_doc (by rw [← HSee.out]; exact (by rw [doc_double ez hez1, hez2])) (by rw [← HSee.out, Bt_size, List.length_cons, beL_len]; decide))
  obtain ⟨sca, HSca⟩ : ∃ y, Hid (Bt (202 :: beL 4 c) = y) := ⟨_, Lib.hid rfl⟩
  have Wca : Hid (∀ W, Keep nob w W → Calls Tryz.prog 11 #[.int .u8 202, .int .i64 4, .int .u64 (c : Int)] W fun e w' => e = .returned (.string sca) ∧ Keep nob w w') := Lib.hid (fun W hk => by rw [← HSca.out]; exact (wide_ok 202 4 c (by decide) (by decide) W).mono fun e w' ⟨h1, h2⟩ => ⟨h1, hk.then_ h2⟩)
  have Tca : Hid (readT sca = .ok (vc) sca.size) := Lib.hid (readT_doc (by rw [← HSca.out]; exact (by rw [doc_single c hc, HVC.out])) (by rw [← HSca.out, Bt_size, List.length_cons, beL_len]; decide))
  obtain ⟨seb, HSeb⟩ : ∃ y, Hid (Bt (203 :: beL 8 ec) = y) := ⟨_, Lib.hid rfl⟩
  have Web : Hid (∀ W, Keep nob w W → Calls Tryz.prog 11 #[.int .u8 203, .int .i64 8, .int .u64 (ec : Int)] W fun e w' => e = .returned (.string seb) ∧ Keep nob w w') := Lib.hid (fun W hk => by rw [← HSeb.out]; exact (wide_ok 203 8 ec (by decide) (by decide) W).mono fun e w' ⟨h1, h2⟩ => ⟨h1, hk.then_ h2⟩)
  have Teb : Hid (readT seb = .ok (vc) seb.size) := Lib.hid (readT_doc (by rw [← HSeb.out]; exact (by rw [doc_double ec hec1, hec2])) (by rw [← HSeb.out, Bt_size, List.length_cons, beL_len]; decide))
  have E1 : Hid (∀ W, Keep nob w W → Calls Tryz.prog 12 #[.string scc, .string scd] W fun e w' => e = .returned (.bool true) ∧ Keep nob w w') := Lib.hid (fun W hk => (same_law _ _ _ _ _ Tcc.out Tcd.out B sa W (HG.out.keep hk (fun _ h => h.elim))).mono fun e w' ⟨h1, h2⟩ => ⟨h1, hk.then_ h2⟩)
  have E2 : Hid (∀ W, Keep nob w W → Calls Tryz.prog 12 #[.string scd, .string sce] W fun e w' => e = .returned (.bool true) ∧ Keep nob w w') := Lib.hid (fun W hk => (same_law _ _ _ _ _ Tcd.out Tce.out B sa W (HG.out.keep hk (fun _ h => h.elim))).mono fun e w' ⟨h1, h2⟩ => ⟨h1, hk.then_ h2⟩)
  have E3 : Hid (∀ W, Keep nob w W → Calls Tryz.prog 12 #[.string sce, .string scf] W fun e w' => e = .returned (.bool true) ∧ Keep nob w w') := Lib.hid (fun W hk => (same_law _ _ _ _ _ Tce.out Tcf.out B sa W (HG.out.keep hk (fun _ h => h.elim))).mono fun e w' ⟨h1, h2⟩ => ⟨h1, hk.then_ h2⟩)
  have E4 : Hid (∀ W, Keep nob w W → Calls Tryz.prog 12 #[.string scf, .string sda] W fun e w' => e = .returned (.bool true) ∧ Keep nob w w') := Lib.hid (fun W hk => (same_law _ _ _ _ _ Tcf.out Tda.out B sa W (HG.out.keep hk (fun _ h => h.elim))).mono fun e w' ⟨h1, h2⟩ => ⟨h1, hk.then_ h2⟩)
  have E5 : Hid (∀ W, Keep nob w W → Calls Tryz.prog 12 #[.string sdb, .string sdc] W fun e w' => e = .returned (.bool true) ∧ Keep nob w w') := Lib.hid (fun W hk => (same_law _ _ _ _ _ Tdb.out Tdc.out B sa W (HG.out.keep hk (fun _ h => h.elim))).mono fun e w' ⟨h1, h2⟩ => ⟨h1, hk.then_ h2⟩)
  have E6 : Hid (∀ W, Keep nob w W → Calls Tryz.prog 12 #[.string sdc, .string sdd] W fun e w' => e = .returned (.bool true) ∧ Keep nob w w') := Lib.hid (fun W hk => (same_law _ _ _ _ _ Tdc.out Tdd.out B sa W (HG.out.keep hk (fun _ h => h.elim))).mono fun e w' ⟨h1, h2⟩ => ⟨h1, hk.then_ h2⟩)
  have E9 : Hid (∀ W, Keep nob w W → Calls Tryz.prog 12 #[.string sdb, .string see] W fun e w' => e = .returned (.bool true) ∧ Keep nob w w') := Lib.hid (fun W hk => (same_law _ _ _ _ _ Tdb.out Tee.out B sa W (HG.out.keep hk (fun _ h => h.elim))).mono fun e w' ⟨h1, h2⟩ => ⟨h1, hk.then_ h2⟩)
  have E10 : Hid (∀ W, Keep nob w W → Calls Tryz.prog 12 #[.string sca, .string seb] W fun e w' => e = .returned (.bool true) ∧ Keep nob w w') := Lib.hid (fun W hk => (same_law _ _ _ _ _ Tca.out Teb.out B sa W (HG.out.keep hk (fun _ h => h.elim))).mono fun e w' ⟨h1, h2⟩ => ⟨h1, hk.then_ h2⟩)
  have Lca : Hid (∀ W, Calls Tryz.prog 11 #[.int .u8 202, .int .i64 4, .int .u64 (c : Int)] W fun e w' => e = .returned (.string sca) ∧ Keep nob W w') := Lib.hid (fun W => by rw [← HSca.out]; exact wide_ok 202 4 c (by decide) (by decide) W)
  have Leb : Hid (∀ W, Calls Tryz.prog 11 #[.int .u8 203, .int .i64 8, .int .u64 (ec : Int)] W fun e w' => e = .returned (.string seb) ∧ Keep nob W w') := Lib.hid (fun W => by rw [← HSeb.out]; exact wide_ok 203 8 ec (by decide) (by decide) W)
  have EL10 : Hid (∀ W, Keep nob w W → Calls Tryz.prog 12 #[.string sca, .string seb] W fun e w' => e = .returned (.bool true) ∧ Keep nob W w') := Lib.hid (fun W hk => same_law _ _ _ _ _ Tca.out Teb.out B sa W (HG.out.keep hk (fun _ h => h.elim)))
  have HLL : Hid (∀ W, Keep nob w W → Calls Tryz.prog 10 #[] W fun e w' => e = .returned (.bool true) ∧ Keep nob W w') := Lib.hid (fun W hk => lives_ok B sa W (HG.out.keep hk (fun _ h => h.elim)))
  have da : decide ((a : Int) < 128) = false := by rw [decide_eq_false_iff_not]; omega
  have da' : decide (a < 128) = false := by rw [decide_eq_false_iff_not]; exact ha1
  have dz : decide (z ≥ -32) = false := by rw [decide_eq_false_iff_not]; omega
  have dz1 : decide (-32 ≤ z) = false := by rw [decide_eq_false_iff_not]; omega
  have HLV : Hid (∀ W, Keep nob w W → Calls Tryz.prog 10 #[] W fun e w' => e = .returned (.bool true) ∧ Keep nob w w') := Lib.hid (fun W hk => (lives_ok B sa W (HG.out.keep hk (fun _ h => h.elim))).mono fun e w' ⟨h1, h2⟩ => ⟨h1, hk.then_ h2⟩)
  have hr1 : readN Wd sdb = .ok (intW z) sdb.size := by
    have h := Tdb.out
    unfold readT at h
    split at h
    · cases h
    · exact h
  have R1 : Hid (∀ W, Keep nob w W → Calls Tryz.prog 7 #[.string sdb] W (fun e w2 => Keep nob w w2 ∧ ∃ r : Raw, e = .returned (.tuple #[.agg #[.int .i8 (r.kind : Int), .int .u64 (r.n : Int), .bool r.neg, .slice r.mA r.mL r.mC, .int .u64 (r.bits : Int), .int .i8 r.ext, .string r.text, .slice r.kA r.kL r.kC], .nilIface]) ∧ Tr w2 (fun k => k < w2.heap.size) r (intW z))) := by
    refine Lib.hid (fun W k => ?_)
    have h := read_all sdb B sa W (HG.out.keep k (fun _ h => h.elim))
    rw [Tdb.out] at h
    exact h.mono fun e w2 ⟨h1, r, h2, h3⟩ => ⟨k.then_ h1, r, h2, Tr.mono (fun b h1 _ => h1) _ _ h3⟩
  have V1 := read_own hr1
  have X1 := read_tx (by rw [← HSdb.out, Bt_size, List.length_cons, beL_len]; decide) hr1
  have Y1 := read_dep flatWd hr1
  have B1 : Hid (∀ (W : World) (r : Raw) (D : Nat → Prop), Keep nob w W → Tr W D r (intW z) → (∀ b, D b → b < W.heap.size) → Calls Tryz.prog 20 #[.agg #[.int .i8 (r.kind : Int), .int .u64 (r.n : Int), .bool r.neg, .slice r.mA r.mL r.mC, .int .u64 (r.bits : Int), .int .i8 r.ext, .string r.text, .slice r.kA r.kL r.kC]] W fun e w' => e = .returned (.tuple #[.int .u64 (ez : Int), .bool true]) ∧ Keep nob W w') := Lib.hid (fun W r D hk ht hD => bits_ok hez V1.1 X1.2 X1.1 Y1 r D B sa W (HG.out.keep hk (fun _ h => h.elim)) ht hD)
  have hr2 : readN Wd sca = .ok (vc) sca.size := by
    have h := Tca.out
    unfold readT at h
    split at h
    · cases h
    · exact h
  have R2 : Hid (∀ W, Keep nob w W → Calls Tryz.prog 7 #[.string sca] W (fun e w2 => Keep nob w w2 ∧ ∃ r : Raw, e = .returned (.tuple #[.agg #[.int .i8 (r.kind : Int), .int .u64 (r.n : Int), .bool r.neg, .slice r.mA r.mL r.mC, .int .u64 (r.bits : Int), .int .i8 r.ext, .string r.text, .slice r.kA r.kL r.kC], .nilIface]) ∧ Tr w2 (fun k => k < w2.heap.size) r (vc))) := by
    refine Lib.hid (fun W k => ?_)
    have h := read_all sca B sa W (HG.out.keep k (fun _ h => h.elim))
    rw [Tca.out] at h
    exact h.mono fun e w2 ⟨h1, r, h2, h3⟩ => ⟨k.then_ h1, r, h2, Tr.mono (fun b h1 _ => h1) _ _ h3⟩
  have V2 := read_own hr2
  have X2 := read_tx (by rw [← HSca.out, Bt_size, List.length_cons, beL_len]; decide) hr2
  have Y2 := read_dep flatWd hr2
  have B2 : Hid (∀ (W : World) (r : Raw) (D : Nat → Prop), Keep nob w W → Tr W D r (vc) → (∀ b, D b → b < W.heap.size) → Calls Tryz.prog 20 #[.agg #[.int .i8 (r.kind : Int), .int .u64 (r.n : Int), .bool r.neg, .slice r.mA r.mL r.mC, .int .u64 (r.bits : Int), .int .i8 r.ext, .string r.text, .slice r.kA r.kL r.kC]] W fun e w' => e = .returned (.tuple #[.int .u64 (ec : Int), .bool true]) ∧ Keep nob W w') := Lib.hid (fun W r D hk ht hD => bits_ok hec V2.1 X2.2 X2.1 Y2 r D B sa W (HG.out.keep hk (fun _ h => h.elim)) ht hD)
  have O1 : Hid (∀ W, Keep nob w W → Calls Tryz.prog 21 #[.int .u32 (c : Int)] W (fun e w2 => Keep nob W w2 ∧ ∃ r : Raw, e = .returned (.agg #[.int .i8 (r.kind : Int), .int .u64 (r.n : Int), .bool r.neg, .slice r.mA r.mL r.mC, .int .u64 (r.bits : Int), .int .i8 r.ext, .string r.text, .slice r.kA r.kL r.kC]) ∧ Tr w2 (fun k => W.heap.size ≤ k) r vc)) := by
    refine Lib.hid (fun W k => ?_)
    have h := of32v_ok c B hc sa W (HG.out.keep k (fun _ h => h.elim))
    rw [HVC.out] at h
    exact h
  have HSM := Lib.hid (fun (W : World) (r r' : Raw) (D D' : Nat → Prop) (h : Tr W D r vc) (h' : Tr W D' r' vc) => same_ok vc r r' D D' W h h')
  clear V1 X1 Y1 V2 X2 Y2 hr1 hr2 hez hez1 hez2 hec hec1 hec2 g hu ha1 hn1
  have hk0 : Keep nob w w := Keep.refl _ _
  go_enter Tryz.func6, Tryz.ntmps6
  go_upto_region 12 with (first | (first | (go_at_call 11; (with_reducible refine (Wcc.out _ (by first | assumption | exact Keep.alloc (by assumption) _)).mono ?_); rintro e w2 ⟨rfl, hk2⟩) | (go_at_call 11; (with_reducible refine (Wcd.out _ (by first | assumption | exact Keep.alloc (by assumption) _)).mono ?_); rintro e w2 ⟨rfl, hk2⟩) | (go_at_call 11; (with_reducible refine (Wce.out _ (by first | assumption | exact Keep.alloc (by assumption) _)).mono ?_); rintro e w2 ⟨rfl, hk2⟩) | (go_at_call 11; (with_reducible refine (Wcf.out _ (by first | assumption | exact Keep.alloc (by assumption) _)).mono ?_); rintro e w2 ⟨rfl, hk2⟩) | (go_at_call 11; (with_reducible refine (Wda.out _ (by first | assumption | exact Keep.alloc (by assumption) _)).mono ?_); rintro e w2 ⟨rfl, hk2⟩) | (go_at_call 11; (with_reducible refine (Wdb.out _ (by first | assumption | exact Keep.alloc (by assumption) _)).mono ?_); rintro e w2 ⟨rfl, hk2⟩) | (go_at_call 11; (with_reducible refine (Wdc.out _ (by first | assumption | exact Keep.alloc (by assumption) _)).mono ?_); rintro e w2 ⟨rfl, hk2⟩) | (go_at_call 11; (with_reducible refine (Wdd.out _ (by first | assumption | exact Keep.alloc (by assumption) _)).mono ?_); rintro e w2 ⟨rfl, hk2⟩) | (go_at_call 11; (with_reducible refine (Wee.out _ (by first | assumption | exact Keep.alloc (by assumption) _)).mono ?_); rintro e w2 ⟨rfl, hk2⟩) | (go_at_call 11; (with_reducible refine (Wca.out _ (by first | assumption | exact Keep.alloc (by assumption) _)).mono ?_); rintro e w2 ⟨rfl, hk2⟩) | (go_at_call 11; (with_reducible refine (Web.out _ (by first | assumption | exact Keep.alloc (by assumption) _)).mono ?_); rintro e w2 ⟨rfl, hk2⟩) | (go_at_call 12; (with_reducible refine (E1.out _ (by first | assumption | exact Keep.alloc (by assumption) _)).mono ?_); rintro e w2 ⟨rfl, hk2⟩) | (go_at_call 12; (with_reducible refine (E2.out _ (by first | assumption | exact Keep.alloc (by assumption) _)).mono ?_); rintro e w2 ⟨rfl, hk2⟩) | (go_at_call 12; (with_reducible refine (E3.out _ (by first | assumption | exact Keep.alloc (by assumption) _)).mono ?_); rintro e w2 ⟨rfl, hk2⟩) | (go_at_call 12; (with_reducible refine (E4.out _ (by first | assumption | exact Keep.alloc (by assumption) _)).mono ?_); rintro e w2 ⟨rfl, hk2⟩) | (go_at_call 12; (with_reducible refine (E5.out _ (by first | assumption | exact Keep.alloc (by assumption) _)).mono ?_); rintro e w2 ⟨rfl, hk2⟩) | (go_at_call 12; (with_reducible refine (E6.out _ (by first | assumption | exact Keep.alloc (by assumption) _)).mono ?_); rintro e w2 ⟨rfl, hk2⟩) | (go_at_call 12; (with_reducible refine (E9.out _ (by first | assumption | exact Keep.alloc (by assumption) _)).mono ?_); rintro e w2 ⟨rfl, hk2⟩) | (go_at_call 12; (with_reducible refine (E10.out _ (by first | assumption | exact Keep.alloc (by assumption) _)).mono ?_); rintro e w2 ⟨rfl, hk2⟩)) | (go_at_call 7; (with_reducible refine (R1.out _ (by first | assumption | exact Keep.alloc (by assumption) _)).mono ?_); rintro e w5 ⟨hk5, q1, rfl, ht1⟩))
  have HK5 := Lib.hid hk5
  have HT1 := Lib.hid ht1
  clear hk5 ht1
  obtain ⟨x1, HX1⟩ : ∃ x1, Hid (w5.alloc (.cells #[.int .i8 (q1.kind : Int), .int .u64 (q1.n : Int), .bool q1.neg, .slice q1.mA q1.mL q1.mC, .int .u64 (q1.bits : Int), .int .i8 q1.ext, .string q1.text, .slice q1.kA q1.kL q1.kC] 31) = x1) := ⟨_, Lib.hid rfl⟩
  obtain ⟨b1, HB1⟩ : ∃ b1, Hid (w5.heap.size = b1) := ⟨_, Lib.hid rfl⟩
  have HA1 : Hid (Keep nob w5 x1) := by unfold Hid; rw [← HX1.out]; exact (Keep.refl _ _).alloc _
  have HN1 := Lib.hid (range_new w5 q1 31)
  rw [show w5.alloc (.cells (ER.cells q1).toArray 31) = x1 from HX1.out, HB1.out] at HN1
  rw [HX1.out, HB1.out]
  have HW1 : Hid (Keep nob w x1) := Lib.hid (HK5.out.then_ HA1.out)
  have HTX1 : Hid (Tr x1 (fun k => k < x1.heap.size) q1 (intW z)) := Lib.hid (Tr.keep HA1.out (nobD _) _ _ (Tr.mono (fun b _ h => Nat.lt_of_lt_of_le h HA1.out.size) _ _ HT1.out))
  obtain ⟨c0, c1, c2, c3, c4, c5, c6, c7⟩ := cells_val HN1.out
  go_upto_region 13 with (go_at_call 20; go_must (refine (B1.out _ q1 _ HW1.out HTX1.out (fun _ h => h)).mono ?_); rintro e w6 ⟨rfl, hk6⟩)
  have hk6 : Keep nob w w6 := HW1.out.then_ hk6
  clear c0 c1 c2 c3 c4 c5 c6 c7
  go_upto_region 16 with (first | (first | (go_at_call 11; (with_reducible refine (Wcc.out _ (by first | assumption | exact Keep.alloc (by assumption) _)).mono ?_); rintro e w2 ⟨rfl, hk2⟩) | (go_at_call 11; (with_reducible refine (Wcd.out _ (by first | assumption | exact Keep.alloc (by assumption) _)).mono ?_); rintro e w2 ⟨rfl, hk2⟩) | (go_at_call 11; (with_reducible refine (Wce.out _ (by first | assumption | exact Keep.alloc (by assumption) _)).mono ?_); rintro e w2 ⟨rfl, hk2⟩) | (go_at_call 11; (with_reducible refine (Wcf.out _ (by first | assumption | exact Keep.alloc (by assumption) _)).mono ?_); rintro e w2 ⟨rfl, hk2⟩) | (go_at_call 11; (with_reducible refine (Wda.out _ (by first | assumption | exact Keep.alloc (by assumption) _)).mono ?_); rintro e w2 ⟨rfl, hk2⟩) | (go_at_call 11; (with_reducible refine (Wdb.out _ (by first | assumption | exact Keep.alloc (by assumption) _)).mono ?_); rintro e w2 ⟨rfl, hk2⟩) | (go_at_call 11; (with_reducible refine (Wdc.out _ (by first | assumption | exact Keep.alloc (by assumption) _)).mono ?_); rintro e w2 ⟨rfl, hk2⟩) | (go_at_call 11; (with_reducible refine (Wdd.out _ (by first | assumption | exact Keep.alloc (by assumption) _)).mono ?_); rintro e w2 ⟨rfl, hk2⟩) | (go_at_call 11; (with_reducible refine (Wee.out _ (by first | assumption | exact Keep.alloc (by assumption) _)).mono ?_); rintro e w2 ⟨rfl, hk2⟩) | (go_at_call 11; (with_reducible refine (Wca.out _ (by first | assumption | exact Keep.alloc (by assumption) _)).mono ?_); rintro e w2 ⟨rfl, hk2⟩) | (go_at_call 11; (with_reducible refine (Web.out _ (by first | assumption | exact Keep.alloc (by assumption) _)).mono ?_); rintro e w2 ⟨rfl, hk2⟩) | (go_at_call 12; (with_reducible refine (E1.out _ (by first | assumption | exact Keep.alloc (by assumption) _)).mono ?_); rintro e w2 ⟨rfl, hk2⟩) | (go_at_call 12; (with_reducible refine (E2.out _ (by first | assumption | exact Keep.alloc (by assumption) _)).mono ?_); rintro e w2 ⟨rfl, hk2⟩) | (go_at_call 12; (with_reducible refine (E3.out _ (by first | assumption | exact Keep.alloc (by assumption) _)).mono ?_); rintro e w2 ⟨rfl, hk2⟩) | (go_at_call 12; (with_reducible refine (E4.out _ (by first | assumption | exact Keep.alloc (by assumption) _)).mono ?_); rintro e w2 ⟨rfl, hk2⟩) | (go_at_call 12; (with_reducible refine (E5.out _ (by first | assumption | exact Keep.alloc (by assumption) _)).mono ?_); rintro e w2 ⟨rfl, hk2⟩) | (go_at_call 12; (with_reducible refine (E6.out _ (by first | assumption | exact Keep.alloc (by assumption) _)).mono ?_); rintro e w2 ⟨rfl, hk2⟩) | (go_at_call 12; (with_reducible refine (E9.out _ (by first | assumption | exact Keep.alloc (by assumption) _)).mono ?_); rintro e w2 ⟨rfl, hk2⟩) | (go_at_call 12; (with_reducible refine (E10.out _ (by first | assumption | exact Keep.alloc (by assumption) _)).mono ?_); rintro e w2 ⟨rfl, hk2⟩)) | (go_at_call 7; (with_reducible refine (R2.out _ (by first | assumption | exact Keep.alloc (by assumption) _)).mono ?_); rintro e w7 ⟨hk7, q2, rfl, ht2⟩))
  have HK7 := Lib.hid hk7
  have HT2 := Lib.hid ht2
  clear hk7 ht2
  obtain ⟨x2, HX2⟩ : ∃ x2, Hid (w7.alloc (.cells #[.int .i8 (q2.kind : Int), .int .u64 (q2.n : Int), .bool q2.neg, .slice q2.mA q2.mL q2.mC, .int .u64 (q2.bits : Int), .int .i8 q2.ext, .string q2.text, .slice q2.kA q2.kL q2.kC] 31) = x2) := ⟨_, Lib.hid rfl⟩
  obtain ⟨b2, HB2⟩ : ∃ b2, Hid (w7.heap.size = b2) := ⟨_, Lib.hid rfl⟩
  have HA2 : Hid (Keep nob w7 x2) := by unfold Hid; rw [← HX2.out]; exact (Keep.refl _ _).alloc _
  have HN2 := Lib.hid (range_new w7 q2 31)
  rw [show w7.alloc (.cells (ER.cells q2).toArray 31) = x2 from HX2.out, HB2.out] at HN2
  rw [HX2.out, HB2.out]
  have HW2 : Hid (Keep nob w x2) := Lib.hid (HK7.out.then_ HA2.out)
  have HTX2 : Hid (Tr x2 (fun k => k < x2.heap.size) q2 vc) := Lib.hid (Tr.keep HA2.out (nobD _) _ _ (Tr.mono (fun b _ h => Nat.lt_of_lt_of_le h HA2.out.size) _ _ HT2.out))
  obtain ⟨c0, c1, c2, c3, c4, c5, c6, c7⟩ := cells_val HN2.out
  go_upto_region 17 with (go_at_call 20; go_must (refine (B2.out _ q2 _ HW2.out HTX2.out (fun _ h => h)).mono ?_); rintro e w8 ⟨rfl, hk8⟩)
  have HK8 := Lib.hid hk8
  have HW8 : Hid (Keep nob w w8) := Lib.hid (HW2.out.then_ hk8)
  clear c0 c1 c2 c3 c4 c5 c6 c7 hk8
  refine wp_region_fx 23 [.p, .p, .p, .p, .p, .p, .kv, .p, .cf (fun x => .agg #[.int .i8 (x.r.kind : Int), .int .u64 (x.r.n : Int), .bool x.r.neg, .slice x.r.mA x.r.mL x.r.mC, .int .u64 (x.r.bits : Int), .int .i8 x.r.ext, .string x.r.text, .slice x.r.kA x.r.kL x.r.kC]) (fun x W => Tr W (fun _ => True) x.r vc), .cv (.bool true), .p, .p, .p, .p, .cv (.string sca), .p, .cv (.string seb), .cv (.bool true), .p, .p, .cv (.bool true), .p, .p] [] nob (fun _ => True) (fun _ _ _ _ => trivial) trivial (by kernel_rfl) (by kernel_rfl) (fun h => absurd rfl h) ?_
  simp only [List.take_succ_cons, List.take_zero, List.drop_succ_cons, List.drop_zero]
  refine fx_p ?_ (by rfl) (fun w' => ?_) (fun K hK => ?_); rotate_left; (go_simp; first | done | exact rfl); go_simp; refine hK _ ?_; clear hK K
  refine fx_p ?_ (by rfl) (fun w' => ?_) (fun K hK => ?_); rotate_left; (go_simp; first | done | exact rfl); go_simp; refine hK _ ?_; clear hK K
  refine fx_p ?_ (by rfl) (fun w' => ?_) (fun K hK => ?_); rotate_left; (go_simp; first | done | exact rfl); go_simp; refine hK _ ?_; clear hK K
  refine fx_p ?_ (by rfl) (fun w' => ?_) (fun K hK => ?_); rotate_left; (go_simp; first | done | exact rfl); go_simp; refine hK _ ?_; clear hK K
  refine fx_p ?_ (by rfl) (fun w' => ?_) (fun K hK => ?_); rotate_left; (go_simp; first | done | exact rfl); go_simp; refine hK _ ?_; clear hK K
  refine fx_p ?_ (by rfl) (fun w' => ?_) (fun K hK => ?_); rotate_left; (go_simp; first | done | exact rfl); go_simp; refine hK _ ?_; clear hK K
  refine fx_kv ?_ (by rfl) (fun w' hw' ha => ?_) (fun K hK => ?_); rotate_left; (obtain ⟨c0, c1, c2, c3, c4, c5, c6, c7⟩ := cells_val (range_keep (HK8.out.then_ hw'.keep) HN2.out); go_simp; first | done | exact rfl); go_simp; refine hK _ ?_; clear hK K
  refine fx_p ?_ (by rfl) (fun w' => ?_) (fun K hK => ?_); rotate_left; (go_simp; first | done | exact rfl); go_simp; refine hK _ ?_; clear hK K
  refine fx_cf (f := ?_) (args := ?_) (by rfl) (fun x W W' h k => Tr.keep k (fun _ _ hS => hS) _ _ h) (fun w' => ?_) (fun w' hw' ha => ?_) (fun K hK x => ?_); rotate_left 2; (go_simp; first | done | (refine And.intro ?_ ?_ <;> exact rfl) | exact rfl); (refine (O1.out _ (HW8.out.then_ hw'.keep)).mono ?_; rintro e w3 ⟨h2, r, rfl, h3⟩; exact ⟨⟨undef, 0, r⟩, rfl, h2, Tr.mono (fun _ _ _ => trivial) _ _ h3⟩); go_simp; refine hK _ _ ?_; clear hK K
  refine fx_cv (f := ?_) (args := ?_) (by rfl) (fun w' => ?_) (fun w' hw' ha => ?_) (fun K hK => ?_); rotate_left 2; (go_simp; first | done | (refine And.intro ?_ ?_ <;> exact rfl) | exact rfl); (have hx := ha _ List.mem_cons_self (by kernel_rfl); have hs := HSM.out w' q2 x.r _ _ (Tr.keep (HK8.out.then_ hw'.keep) (nobD _) _ _ HTX2.out) hx; simp only [ER] at hs; exact hs); go_simp; refine hK _ ?_; clear hK K
  refine fx_p ?_ (by rfl) (fun w' => ?_) (fun K hK => ?_); rotate_left; (go_simp; first | done | exact rfl); go_simp; refine hK _ ?_; clear hK K
  refine fx_p ?_ (by rfl) (fun w' => ?_) (fun K hK => ?_); rotate_left; (go_simp; first | done | exact rfl); go_simp; refine hK _ ?_; clear hK K
  refine fx_p ?_ (by rfl) (fun w' => ?_) (fun K hK => ?_); rotate_left; (go_simp; first | done | exact rfl); go_simp; refine hK _ ?_; clear hK K
  refine fx_p ?_ (by rfl) (fun w' => ?_) (fun K hK => ?_); rotate_left; (go_simp; first | done | exact rfl); go_simp; refine hK _ ?_; clear hK K
  refine fx_cv (f := ?_) (args := ?_) (by rfl) (fun w' => ?_) (fun w' hw' ha => ?_) (fun K hK => ?_); rotate_left 2; (go_simp; first | done | (refine And.intro ?_ ?_ <;> exact rfl) | exact rfl); (exact Lca.out _); go_simp; refine hK _ ?_; clear hK K
  refine fx_p ?_ (by rfl) (fun w' => ?_) (fun K hK => ?_); rotate_left; (go_simp; first | done | exact rfl); go_simp; refine hK _ ?_; clear hK K
  refine fx_cv (f := ?_) (args := ?_) (by rfl) (fun w' => ?_) (fun w' hw' ha => ?_) (fun K hK => ?_); rotate_left 2; (go_simp; first | done | (refine And.intro ?_ ?_ <;> exact rfl) | exact rfl); (exact Leb.out _); go_simp; refine hK _ ?_; clear hK K
  refine fx_cv (f := ?_) (args := ?_) (by rfl) (fun w' => ?_) (fun w' hw' ha => ?_) (fun K hK => ?_); rotate_left 2; (go_simp; first | done | (refine And.intro ?_ ?_ <;> exact rfl) | exact rfl); (exact EL10.out _ (HW8.out.then_ hw'.keep)); go_simp; refine hK _ ?_; clear hK K
  refine fx_p ?_ (by rfl) (fun w' => ?_) (fun K hK => ?_); rotate_left; (go_simp; first | done | exact rfl); go_simp; refine hK _ ?_; clear hK K
  refine fx_p ?_ (by rfl) (fun w' => ?_) (fun K hK => ?_); rotate_left; (go_simp; first | done | exact rfl); go_simp; refine hK _ ?_; clear hK K
  refine fx_cv (f := ?_) (args := ?_) (by rfl) (fun w' => ?_) (fun w' hw' ha => ?_) (fun K hK => ?_); rotate_left 2; (go_simp; first | done | (refine And.intro ?_ ?_ <;> exact rfl) | exact rfl); (exact HLL.out _ (HW8.out.then_ hw'.keep)); go_simp; refine hK _ ?_; clear hK K
  refine fx_p ?_ (by rfl) (fun w' => ?_) (fun K hK => ?_); rotate_left; (go_simp; first | done | exact rfl); go_simp; refine hK _ ?_; clear hK K
  refine fx_p ?_ (by rfl) (fun w' => ?_) (fun K hK => ?_); rotate_left; (go_simp; first | done | exact rfl); go_simp; refine hK _ ?_; clear hK K
  refine fx_nil ?_
  intro w9 hk9 hΓ
  have HK9 := Lib.hid hk9.keep
  have HFx := Lib.hid (hΓ _ List.mem_cons_self)
  clear hk9 hΓ
  go_wp2
  go_ret
  exact ⟨rfl, HW8.out.then_ HK9.out⟩
set_option maxRecDepth 100000 in
set_option maxHeartbeats 8000000 in
theorem lawN_bg (a : Nat) (ha : a < 256) (z : Int) (hz1 : -32768 ≤ z) (hz2 : z < 32768) (c : Nat) (hc : c < 4294967296) (ha1 : ¬ a < 128) (hn1 : 0 ≤ z) (B : Nat) (sa : Nat → Addr) (w : World) (g : GL B sa w) : Calls Tryz.prog 6 #[.int .u8 (a : Int), .int .i16 z, .int .u32 (c : Int)] w fun e w' => e = .returned (.bool true) ∧ Keep nob w w' := by
  obtain ⟨u, HU⟩ : ∃ u : Nat, Hid ((u : Int) = z % 18446744073709551616) := ⟨(z % 18446744073709551616).toNat, Lib.hid (by omega)⟩
  have hu : (u : Int) = z % 18446744073709551616 := HU.out
  have i1 : IntKind.u64.wrap (a : Int) = (a : Int) := by rw [IntKind.wrap_u64]; omega
  have i2 : IntKind.u64.wrap z = (u : Int) := by rw [IntKind.wrap_u64]; exact HU.out.symm
  have i3 : IntKind.u64.wrap (c : Int) = (c : Int) := by rw [IntKind.wrap_u64]; omega
  obtain ⟨ez, hez, hez1, hez2⟩ := small_bits z (by omega)
  obtain ⟨vc, HVC⟩ : ∃ vc, Hid (ofV 23 (-149) 8 c = vc) := ⟨_, Lib.hid rfl⟩
  obtain ⟨ec, hec, hec1, hec2⟩ := single_bits c
  rw [HVC.out] at hec hec2
  have HG := Lib.hid g
  obtain ⟨scc, HScc⟩ : ∃ y, Hid (Bt (204 :: beL 1 a) = y) := ⟨_, Lib.hid rfl⟩
  have Wcc : Hid (∀ W, Keep nob w W → Calls Tryz.prog 11 #[.int .u8 204, .int .i64 1, .int .u64 (a : Int)] W fun e w' => e = .returned (.string scc) ∧ Keep nob w w') := Lib.hid (fun W hk => by rw [← HScc.out]; exact (wide_ok 204 1 a (by decide) (by decide) W).mono fun e w' ⟨h1, h2⟩ => ⟨h1, hk.then_ h2⟩)
  have Tcc : Hid (readT scc = .ok (intW (a : Int)) scc.size) := Lib.hid (readT_doc (by rw [← HScc.out]; exact (by rw [← whole_int (by omega)]; exact doc_whole 204 1 a (by decide) rfl (by decide) (by omega))) (by rw [← HScc.out, Bt_size, List.length_cons, beL_len]; decide))
  obtain ⟨scd, HScd⟩ : ∃ y, Hid (Bt (205 :: beL 2 a) = y) := ⟨_, Lib.hid rfl⟩
  have Wcd : Hid (∀ W, Keep nob w W → Calls Tryz.prog 11 #[.int .u8 205, .int .i64 2, .int .u64 (a : Int)] W fun e w' => e = .returned (.string scd) ∧ Keep nob w w') := Lib.hid (fun W hk => by rw [← HScd.out]; exact (wide_ok 205 2 a (by decide) (by decide) W).mono fun e w' ⟨h1, h2⟩ => ⟨h1, hk.then_ h2⟩)
  have Tcd : Hid (readT scd = .ok (intW (a : Int)) scd.size) := Lib.hid (readT_doc (by rw [← HScd.out]; exact (by rw [← whole_int (by omega)]; exact doc_whole 205 2 a (by decide) rfl (by decide) (by omega))) (by rw [← HScd.out, Bt_size, List.length_cons, beL_len]; decide))
  obtain ⟨sce, HSce⟩ : ∃ y, Hid (Bt (206 :: beL 4 a) = y) := ⟨_, Lib.hid rfl⟩
  have Wce : Hid (∀ W, Keep nob w W → Calls Tryz.prog 11 #[.int .u8 206, .int .i64 4, .int .u64 (a : Int)] W fun e w' => e = .returned (.string sce) ∧ Keep nob w w') := Lib.hid (fun W hk => by rw [← HSce.out]; exact (wide_ok 206 4 a (by decide) (by decide) W).mono fun e w' ⟨h1, h2⟩ => ⟨h1, hk.then_ h2⟩)
  have Tce : Hid (readT sce = .ok (intW (a : Int)) sce.size) := Lib.hid (readT_doc (by rw [← HSce.out]; exact (by rw [← whole_int (by omega)]; exact doc_whole 206 4 a (by decide) rfl (by decide) (by omega))) (by rw [← HSce.out, Bt_size, List.length_cons, beL_len]; decide))
  obtain ⟨scf, HScf⟩ : ∃ y, Hid (Bt (207 :: beL 8 a) = y) := ⟨_, Lib.hid rfl⟩
  have Wcf : Hid (∀ W, Keep nob w W → Calls Tryz.prog 11 #[.int .u8 207, .int .i64 8, .int .u64 (a : Int)] W fun e w' => e = .returned (.string scf) ∧ Keep nob w w') := Lib.hid (fun W hk => by rw [← HScf.out]; exact (wide_ok 207 8 a (by decide) (by decide) W).mono fun e w' ⟨h1, h2⟩ => ⟨h1, hk.then_ h2⟩)
  have Tcf : Hid (readT scf = .ok (intW (a : Int)) scf.size) := Lib.hid (readT_doc (by rw [← HScf.out]; exact (by rw [← whole_int (by omega)]; exact doc_whole 207 8 a (by decide) rfl (by decide) (by omega))) (by rw [← HScf.out, Bt_size, List.length_cons, beL_len]; decide))
  obtain ⟨sda, HSda⟩ : ∃ y, Hid (Bt (209 :: beL 2 a) = y) := ⟨_, Lib.hid rfl⟩
  have Wda : Hid (∀ W, Keep nob w W → Calls Tryz.prog 11 #[.int .u8 209, .int .i64 2, .int .u64 (a : Int)] W fun e w' => e = .returned (.string sda) ∧ Keep nob w w') := Lib.hid (fun W hk => by rw [← HSda.out]; exact (wide_ok 209 2 a (by decide) (by decide) W).mono fun e w' ⟨h1, h2⟩ => ⟨h1, hk.then_ h2⟩)
  have Tda : Hid (readT sda = .ok (intW (a : Int)) sda.size) := Lib.hid (readT_doc (by rw [← HSda.out]; exact (by rw [← twos_int 1 a (a : Int) (by decide) (by omega) (by omega) (by omega)]; exact doc_signed 209 2 a (by decide) rfl)) (by rw [← HSda.out, Bt_size, List.length_cons, beL_len]; decide))
  obtain ⟨sdb, HSdb⟩ : ∃ y, Hid (Bt (209 :: beL 2 u) = y) := ⟨_, Lib.hid rfl⟩
  have Wdb : Hid (∀ W, Keep nob w W → Calls Tryz.prog 11 #[.int .u8 209, .int .i64 2, .int .u64 (u : Int)] W fun e w' => e = .returned (.string sdb) ∧ Keep nob w w') := Lib.hid (fun W hk => by rw [← HSdb.out]; exact (wide_ok 209 2 u (by decide) (by decide) W).mono fun e w' ⟨h1, h2⟩ => ⟨h1, hk.then_ h2⟩)
  have Tdb : Hid (readT sdb = .ok (intW z) sdb.size) := Lib.hid (readT_doc (by rw [← HSdb.out]; exact (by rw [← twos_int 1 u z (by decide) hu (by omega) (by omega)]; exact doc_signed 209 2 u (by decide) rfl)) (by rw [← HSdb.out, Bt_size, List.length_cons, beL_len]; decide))
  obtain ⟨sdc, HSdc⟩ : ∃ y, Hid (Bt (210 :: beL 4 u) = y) := ⟨_, Lib.hid rfl⟩
  have Wdc : Hid (∀ W, Keep nob w W → Calls Tryz.prog 11 #[.int .u8 210, .int .i64 4, .int .u64 (u : Int)] W fun e w' => e = .returned (.string sdc) ∧ Keep nob w w') := Lib.hid (fun W hk => by rw [← HSdc.out]; exact (wide_ok 210 4 u (by decide) (by decide) W).mono fun e w' ⟨h1, h2⟩ => ⟨h1, hk.then_ h2⟩)
  have Tdc : Hid (readT sdc = .ok (intW z) sdc.size) := Lib.hid (readT_doc (by rw [← HSdc.out]; exact (by rw [← twos_int 3 u z (by decide) hu (by omega) (by omega)]; exact doc_signed 210 4 u (by decide) rfl)) (by rw [← HSdc.out, Bt_size, List.length_cons, beL_len]; decide))
  obtain ⟨sdd, HSdd⟩ : ∃ y, Hid (Bt (211 :: beL 8 u) = y) := ⟨_, Lib.hid rfl⟩
  have Wdd : Hid (∀ W, Keep nob w W → Calls Tryz.prog 11 #[.int .u8 211, .int .i64 8, .int .u64 (u : Int)] W fun e w' => e = .returned (.string sdd) ∧ Keep nob w w') := Lib.hid (fun W hk => by rw [← HSdd.out]; exact (wide_ok 211 8 u (by decide) (by decide) W).mono fun e w' ⟨h1, h2⟩ => ⟨h1, hk.then_ h2⟩)
  have Tdd : Hid (readT sdd = .ok (intW z) sdd.size) := Lib.hid (readT_doc (by rw [← HSdd.out]; exact (by rw [← twos_int 7 u z (by decide) hu (by omega) (by omega)]; exact doc_signed 211 8 u (by decide) rfl)) (by rw [← HSdd.out, Bt_size, List.length_cons, beL_len]; decide))
  obtain ⟨see, HSee⟩ : ∃ y, Hid (Bt (203 :: beL 8 ez) = y) := ⟨_, Lib.hid rfl⟩
  have Wee : Hid (∀ W, Keep nob w W → Calls Tryz.prog 11 #[.int .u8 203, .int .i64 8, .int .u64 (ez : Int)] W fun e w' => e = .returned (.string see) ∧ Keep nob w w') := Lib.hid (fun W hk => by rw [← HSee.out]; exact (wide_ok 203 8 ez (by decide) (by decide) W).mono fun e w' ⟨h1, h2⟩ => ⟨h1, hk.then_ h2⟩)
  have Tee : Hid (readT see = .ok (intW z) see.size) := Lib.hid (readT_doc (by rw [← HSee.out]; exact (by rw [doc_double ez hez1, hez2])) (by rw [← HSee.out, Bt_size, List.length_cons, beL_len]; decide))
  obtain ⟨sca, HSca⟩ : ∃ y, Hid (Bt (202 :: beL 4 c) = y) := ⟨_, Lib.hid rfl⟩
  have Wca : Hid (∀ W, Keep nob w W → Calls Tryz.prog 11 #[.int .u8 202, .int .i64 4, .int .u64 (c : Int)] W fun e w' => e = .returned (.string sca) ∧ Keep nob w w') := Lib.hid (fun W hk => by rw [← HSca.out]; exact (wide_ok 202 4 c (by decide) (by decide) W).mono fun e w' ⟨h1, h2⟩ => ⟨h1, hk.then_ h2⟩)
  have Tca : Hid (readT sca = .ok (vc) sca.size) := Lib.hid (readT_doc (by rw [← HSca.out]; exact (by rw [doc_single c hc, HVC.out])) (by rw [← HSca.out, Bt_size, List.length_cons, beL_len]; decide))
  obtain ⟨seb, HSeb⟩ : ∃ y, Hid (Bt (203 :: beL 8 ec) = y) := ⟨_, Lib.hid rfl⟩
  have Web : Hid (∀ W, Keep nob w W → Calls Tryz.prog 11 #[.int .u8 203, .int .i64 8, .int .u64 (ec : Int)] W fun e w' => e = .returned (.string seb) ∧ Keep nob w w') := Lib.hid (fun W hk => by rw [← HSeb.out]; exact (wide_ok 203 8 ec (by decide) (by decide) W).mono fun e w' ⟨h1, h2⟩ => ⟨h1, hk.then_ h2⟩)
  have Teb : Hid (readT seb = .ok (vc) seb.size) := Lib.hid (readT_doc (by rw [← HSeb.out]; exact (by rw [doc_double ec hec1, hec2])) (by rw [← HSeb.out, Bt_size, List.length_cons, beL_len]; decide))
  have E1 : Hid (∀ W, Keep nob w W → Calls Tryz.prog 12 #[.string scc, .string scd] W fun e w' => e = .returned (.bool true) ∧ Keep nob w w') := Lib.hid (fun W hk => (same_law _ _ _ _ _ Tcc.out Tcd.out B sa W (HG.out.keep hk (fun _ h => h.elim))).mono fun e w' ⟨h1, h2⟩ => ⟨h1, hk.then_ h2⟩)
  have E2 : Hid (∀ W, Keep nob w W → Calls Tryz.prog 12 #[.string scd, .string sce] W fun e w' => e = .returned (.bool true) ∧ Keep nob w w') := Lib.hid (fun W hk => (same_law _ _ _ _ _ Tcd.out Tce.out B sa W (HG.out.keep hk (fun _ h => h.elim))).mono fun e w' ⟨h1, h2⟩ => ⟨h1, hk.then_ h2⟩)
  have E3 : Hid (∀ W, Keep nob w W → Calls Tryz.prog 12 #[.string sce, .string scf] W fun e w' => e = .returned (.bool true) ∧ Keep nob w w') := Lib.hid (fun W hk => (same_law _ _ _ _ _ Tce.out Tcf.out B sa W (HG.out.keep hk (fun _ h => h.elim))).mono fun e w' ⟨h1, h2⟩ => ⟨h1, hk.then_ h2⟩)
  have E4 : Hid (∀ W, Keep nob w W → Calls Tryz.prog 12 #[.string scf, .string sda] W fun e w' => e = .returned (.bool true) ∧ Keep nob w w') := Lib.hid (fun W hk => (same_law _ _ _ _ _ Tcf.out Tda.out B sa W (HG.out.keep hk (fun _ h => h.elim))).mono fun e w' ⟨h1, h2⟩ => ⟨h1, hk.then_ h2⟩)
  have E5 : Hid (∀ W, Keep nob w W → Calls Tryz.prog 12 #[.string sdb, .string sdc] W fun e w' => e = .returned (.bool true) ∧ Keep nob w w') := Lib.hid (fun W hk => (same_law _ _ _ _ _ Tdb.out Tdc.out B sa W (HG.out.keep hk (fun _ h => h.elim))).mono fun e w' ⟨h1, h2⟩ => ⟨h1, hk.then_ h2⟩)
  have E6 : Hid (∀ W, Keep nob w W → Calls Tryz.prog 12 #[.string sdc, .string sdd] W fun e w' => e = .returned (.bool true) ∧ Keep nob w w') := Lib.hid (fun W hk => (same_law _ _ _ _ _ Tdc.out Tdd.out B sa W (HG.out.keep hk (fun _ h => h.elim))).mono fun e w' ⟨h1, h2⟩ => ⟨h1, hk.then_ h2⟩)
  have E9 : Hid (∀ W, Keep nob w W → Calls Tryz.prog 12 #[.string sdb, .string see] W fun e w' => e = .returned (.bool true) ∧ Keep nob w w') := Lib.hid (fun W hk => (same_law _ _ _ _ _ Tdb.out Tee.out B sa W (HG.out.keep hk (fun _ h => h.elim))).mono fun e w' ⟨h1, h2⟩ => ⟨h1, hk.then_ h2⟩)
  have E10 : Hid (∀ W, Keep nob w W → Calls Tryz.prog 12 #[.string sca, .string seb] W fun e w' => e = .returned (.bool true) ∧ Keep nob w w') := Lib.hid (fun W hk => (same_law _ _ _ _ _ Tca.out Teb.out B sa W (HG.out.keep hk (fun _ h => h.elim))).mono fun e w' ⟨h1, h2⟩ => ⟨h1, hk.then_ h2⟩)
  have Lca : Hid (∀ W, Calls Tryz.prog 11 #[.int .u8 202, .int .i64 4, .int .u64 (c : Int)] W fun e w' => e = .returned (.string sca) ∧ Keep nob W w') := Lib.hid (fun W => by rw [← HSca.out]; exact wide_ok 202 4 c (by decide) (by decide) W)
  have Leb : Hid (∀ W, Calls Tryz.prog 11 #[.int .u8 203, .int .i64 8, .int .u64 (ec : Int)] W fun e w' => e = .returned (.string seb) ∧ Keep nob W w') := Lib.hid (fun W => by rw [← HSeb.out]; exact wide_ok 203 8 ec (by decide) (by decide) W)
  have EL10 : Hid (∀ W, Keep nob w W → Calls Tryz.prog 12 #[.string sca, .string seb] W fun e w' => e = .returned (.bool true) ∧ Keep nob W w') := Lib.hid (fun W hk => same_law _ _ _ _ _ Tca.out Teb.out B sa W (HG.out.keep hk (fun _ h => h.elim)))
  have HLL : Hid (∀ W, Keep nob w W → Calls Tryz.prog 10 #[] W fun e w' => e = .returned (.bool true) ∧ Keep nob W w') := Lib.hid (fun W hk => lives_ok B sa W (HG.out.keep hk (fun _ h => h.elim)))
  have da : decide ((a : Int) < 128) = false := by rw [decide_eq_false_iff_not]; omega
  have da' : decide (a < 128) = false := by rw [decide_eq_false_iff_not]; exact ha1
  have dz : decide (z ≥ -32) = true := by rw [decide_eq_true_iff]; omega
  have dz1 : decide (-32 ≤ z) = true := by rw [decide_eq_true_iff]; omega
  have dz2 : decide (z < 0) = false := by rw [decide_eq_false_iff_not]; omega
  have HLV : Hid (∀ W, Keep nob w W → Calls Tryz.prog 10 #[] W fun e w' => e = .returned (.bool true) ∧ Keep nob w w') := Lib.hid (fun W hk => (lives_ok B sa W (HG.out.keep hk (fun _ h => h.elim))).mono fun e w' ⟨h1, h2⟩ => ⟨h1, hk.then_ h2⟩)
  have hr1 : readN Wd sdb = .ok (intW z) sdb.size := by
    have h := Tdb.out
    unfold readT at h
    split at h
    · cases h
    · exact h
  have R1 : Hid (∀ W, Keep nob w W → Calls Tryz.prog 7 #[.string sdb] W (fun e w2 => Keep nob w w2 ∧ ∃ r : Raw, e = .returned (.tuple #[.agg #[.int .i8 (r.kind : Int), .int .u64 (r.n : Int), .bool r.neg, .slice r.mA r.mL r.mC, .int .u64 (r.bits : Int), .int .i8 r.ext, .string r.text, .slice r.kA r.kL r.kC], .nilIface]) ∧ Tr w2 (fun k => k < w2.heap.size) r (intW z))) := by
    refine Lib.hid (fun W k => ?_)
    have h := read_all sdb B sa W (HG.out.keep k (fun _ h => h.elim))
    rw [Tdb.out] at h
    exact h.mono fun e w2 ⟨h1, r, h2, h3⟩ => ⟨k.then_ h1, r, h2, Tr.mono (fun b h1 _ => h1) _ _ h3⟩
  have V1 := read_own hr1
  have X1 := read_tx (by rw [← HSdb.out, Bt_size, List.length_cons, beL_len]; decide) hr1
  have Y1 := read_dep flatWd hr1
  have B1 : Hid (∀ (W : World) (r : Raw) (D : Nat → Prop), Keep nob w W → Tr W D r (intW z) → (∀ b, D b → b < W.heap.size) → Calls Tryz.prog 20 #[.agg #[.int .i8 (r.kind : Int), .int .u64 (r.n : Int), .bool r.neg, .slice r.mA r.mL r.mC, .int .u64 (r.bits : Int), .int .i8 r.ext, .string r.text, .slice r.kA r.kL r.kC]] W fun e w' => e = .returned (.tuple #[.int .u64 (ez : Int), .bool true]) ∧ Keep nob W w') := Lib.hid (fun W r D hk ht hD => bits_ok hez V1.1 X1.2 X1.1 Y1 r D B sa W (HG.out.keep hk (fun _ h => h.elim)) ht hD)
  have hr2 : readN Wd sca = .ok (vc) sca.size := by
    have h := Tca.out
    unfold readT at h
    split at h
    · cases h
    · exact h
  have R2 : Hid (∀ W, Keep nob w W → Calls Tryz.prog 7 #[.string sca] W (fun e w2 => Keep nob w w2 ∧ ∃ r : Raw, e = .returned (.tuple #[.agg #[.int .i8 (r.kind : Int), .int .u64 (r.n : Int), .bool r.neg, .slice r.mA r.mL r.mC, .int .u64 (r.bits : Int), .int .i8 r.ext, .string r.text, .slice r.kA r.kL r.kC], .nilIface]) ∧ Tr w2 (fun k => k < w2.heap.size) r (vc))) := by
    refine Lib.hid (fun W k => ?_)
    have h := read_all sca B sa W (HG.out.keep k (fun _ h => h.elim))
    rw [Tca.out] at h
    exact h.mono fun e w2 ⟨h1, r, h2, h3⟩ => ⟨k.then_ h1, r, h2, Tr.mono (fun b h1 _ => h1) _ _ h3⟩
  have V2 := read_own hr2
  have X2 := read_tx (by rw [← HSca.out, Bt_size, List.length_cons, beL_len]; decide) hr2
  have Y2 := read_dep flatWd hr2
  have B2 : Hid (∀ (W : World) (r : Raw) (D : Nat → Prop), Keep nob w W → Tr W D r (vc) → (∀ b, D b → b < W.heap.size) → Calls Tryz.prog 20 #[.agg #[.int .i8 (r.kind : Int), .int .u64 (r.n : Int), .bool r.neg, .slice r.mA r.mL r.mC, .int .u64 (r.bits : Int), .int .i8 r.ext, .string r.text, .slice r.kA r.kL r.kC]] W fun e w' => e = .returned (.tuple #[.int .u64 (ec : Int), .bool true]) ∧ Keep nob W w') := Lib.hid (fun W r D hk ht hD => bits_ok hec V2.1 X2.2 X2.1 Y2 r D B sa W (HG.out.keep hk (fun _ h => h.elim)) ht hD)
  have O1 : Hid (∀ W, Keep nob w W → Calls Tryz.prog 21 #[.int .u32 (c : Int)] W (fun e w2 => Keep nob W w2 ∧ ∃ r : Raw, e = .returned (.agg #[.int .i8 (r.kind : Int), .int .u64 (r.n : Int), .bool r.neg, .slice r.mA r.mL r.mC, .int .u64 (r.bits : Int), .int .i8 r.ext, .string r.text, .slice r.kA r.kL r.kC]) ∧ Tr w2 (fun k => W.heap.size ≤ k) r vc)) := by
    refine Lib.hid (fun W k => ?_)
    have h := of32v_ok c B hc sa W (HG.out.keep k (fun _ h => h.elim))
    rw [HVC.out] at h
    exact h
  have HSM := Lib.hid (fun (W : World) (r r' : Raw) (D D' : Nat → Prop) (h : Tr W D r vc) (h' : Tr W D' r' vc) => same_ok vc r r' D D' W h h')
  clear V1 X1 Y1 V2 X2 Y2 hr1 hr2 hez hez1 hez2 hec hec1 hec2 g hu ha1 hn1
  have hk0 : Keep nob w w := Keep.refl _ _
  go_enter Tryz.func6, Tryz.ntmps6
  go_upto_region 12 with (first | (first | (go_at_call 11; (with_reducible refine (Wcc.out _ (by first | assumption | exact Keep.alloc (by assumption) _)).mono ?_); rintro e w2 ⟨rfl, hk2⟩) | (go_at_call 11; (with_reducible refine (Wcd.out _ (by first | assumption | exact Keep.alloc (by assumption) _)).mono ?_); rintro e w2 ⟨rfl, hk2⟩) | (go_at_call 11; (with_reducible refine (Wce.out _ (by first | assumption | exact Keep.alloc (by assumption) _)).mono ?_); rintro e w2 ⟨rfl, hk2⟩) | (go_at_call 11; (with_reducible refine (Wcf.out _ (by first | assumption | exact Keep.alloc (by assumption) _)).mono ?_); rintro e w2 ⟨rfl, hk2⟩) | (go_at_call 11; (with_reducible refine (Wda.out _ (by first | assumption | exact Keep.alloc (by assumption) _)).mono ?_); rintro e w2 ⟨rfl, hk2⟩) | (go_at_call 11; (with_reducible refine (Wdb.out _ (by first | assumption | exact Keep.alloc (by assumption) _)).mono ?_); rintro e w2 ⟨rfl, hk2⟩) | (go_at_call 11; (with_reducible refine (Wdc.out _ (by first | assumption | exact Keep.alloc (by assumption) _)).mono ?_); rintro e w2 ⟨rfl, hk2⟩) | (go_at_call 11; (with_reducible refine (Wdd.out _ (by first | assumption | exact Keep.alloc (by assumption) _)).mono ?_); rintro e w2 ⟨rfl, hk2⟩) | (go_at_call 11; (with_reducible refine (Wee.out _ (by first | assumption | exact Keep.alloc (by assumption) _)).mono ?_); rintro e w2 ⟨rfl, hk2⟩) | (go_at_call 11; (with_reducible refine (Wca.out _ (by first | assumption | exact Keep.alloc (by assumption) _)).mono ?_); rintro e w2 ⟨rfl, hk2⟩) | (go_at_call 11; (with_reducible refine (Web.out _ (by first | assumption | exact Keep.alloc (by assumption) _)).mono ?_); rintro e w2 ⟨rfl, hk2⟩) | (go_at_call 12; (with_reducible refine (E1.out _ (by first | assumption | exact Keep.alloc (by assumption) _)).mono ?_); rintro e w2 ⟨rfl, hk2⟩) | (go_at_call 12; (with_reducible refine (E2.out _ (by first | assumption | exact Keep.alloc (by assumption) _)).mono ?_); rintro e w2 ⟨rfl, hk2⟩) | (go_at_call 12; (with_reducible refine (E3.out _ (by first | assumption | exact Keep.alloc (by assumption) _)).mono ?_); rintro e w2 ⟨rfl, hk2⟩) | (go_at_call 12; (with_reducible refine (E4.out _ (by first | assumption | exact Keep.alloc (by assumption) _)).mono ?_); rintro e w2 ⟨rfl, hk2⟩) | (go_at_call 12; (with_reducible refine (E5.out _ (by first | assumption | exact Keep.alloc (by assumption) _)).mono ?_); rintro e w2 ⟨rfl, hk2⟩) | (go_at_call 12; (with_reducible refine (E6.out _ (by first | assumption | exact Keep.alloc (by assumption) _)).mono ?_); rintro e w2 ⟨rfl, hk2⟩) | (go_at_call 12; (with_reducible refine (E9.out _ (by first | assumption | exact Keep.alloc (by assumption) _)).mono ?_); rintro e w2 ⟨rfl, hk2⟩) | (go_at_call 12; (with_reducible refine (E10.out _ (by first | assumption | exact Keep.alloc (by assumption) _)).mono ?_); rintro e w2 ⟨rfl, hk2⟩)) | (go_at_call 7; (with_reducible refine (R1.out _ (by first | assumption | exact Keep.alloc (by assumption) _)).mono ?_); rintro e w5 ⟨hk5, q1, rfl, ht1⟩))
  have HK5 := Lib.hid hk5
  have HT1 := Lib.hid ht1
  clear hk5 ht1
  obtain ⟨x1, HX1⟩ : ∃ x1, Hid (w5.alloc (.cells #[.int .i8 (q1.kind : Int), .int .u64 (q1.n : Int), .bool q1.neg, .slice q1.mA q1.mL q1.mC, .int .u64 (q1.bits : Int), .int .i8 q1.ext, .string q1.text, .slice q1.kA q1.kL q1.kC] 31) = x1) := ⟨_, Lib.hid rfl⟩
  obtain ⟨b1, HB1⟩ : ∃ b1, Hid (w5.heap.size = b1) := ⟨_, Lib.hid rfl⟩
  have HA1 : Hid (Keep nob w5 x1) := by unfold Hid; rw [← HX1.out]; exact (Keep.refl _ _).alloc _
  have HN1 := Lib.hid (range_new w5 q1 31)
  rw [show w5.alloc (.cells (ER.cells q1).toArray 31) = x1 from HX1.out, HB1.out] at HN1
  rw [HX1.out, HB1.out]
  have HW1 : Hid (Keep nob w x1) := Lib.hid (HK5.out.then_ HA1.out)
  have HTX1 : Hid (Tr x1 (fun k => k < x1.heap.size) q1 (intW z)) := Lib.hid (Tr.keep HA1.out (nobD _) _ _ (Tr.mono (fun b _ h => Nat.lt_of_lt_of_le h HA1.out.size) _ _ HT1.out))
  obtain ⟨c0, c1, c2, c3, c4, c5, c6, c7⟩ := cells_val HN1.out
  go_upto_region 13 with (go_at_call 20; go_must (refine (B1.out _ q1 _ HW1.out HTX1.out (fun _ h => h)).mono ?_); rintro e w6 ⟨rfl, hk6⟩)
  have hk6 : Keep nob w w6 := HW1.out.then_ hk6
  clear c0 c1 c2 c3 c4 c5 c6 c7
  go_upto_region 16 with (first | (first | (go_at_call 11; (with_reducible refine (Wcc.out _ (by first | assumption | exact Keep.alloc (by assumption) _)).mono ?_); rintro e w2 ⟨rfl, hk2⟩) | (go_at_call 11; (with_reducible refine (Wcd.out _ (by first | assumption | exact Keep.alloc (by assumption) _)).mono ?_); rintro e w2 ⟨rfl, hk2⟩) | (go_at_call 11; (with_reducible refine (Wce.out _ (by first | assumption | exact Keep.alloc (by assumption) _)).mono ?_); rintro e w2 ⟨rfl, hk2⟩) | (go_at_call 11; (with_reducible refine (Wcf.out _ (by first | assumption | exact Keep.alloc (by assumption) _)).mono ?_); rintro e w2 ⟨rfl, hk2⟩) | (go_at_call 11; (with_reducible refine (Wda.out _ (by first | assumption | exact Keep.alloc (by assumption) _)).mono ?_); rintro e w2 ⟨rfl, hk2⟩) | (go_at_call 11; (with_reducible refine (Wdb.out _ (by first | assumption | exact Keep.alloc (by assumption) _)).mono ?_); rintro e w2 ⟨rfl, hk2⟩) | (go_at_call 11; (with_reducible refine (Wdc.out _ (by first | assumption | exact Keep.alloc (by assumption) _)).mono ?_); rintro e w2 ⟨rfl, hk2⟩) | (go_at_call 11; (with_reducible refine (Wdd.out _ (by first | assumption | exact Keep.alloc (by assumption) _)).mono ?_); rintro e w2 ⟨rfl, hk2⟩) | (go_at_call 11; (with_reducible refine (Wee.out _ (by first | assumption | exact Keep.alloc (by assumption) _)).mono ?_); rintro e w2 ⟨rfl, hk2⟩) | (go_at_call 11; (with_reducible refine (Wca.out _ (by first | assumption | exact Keep.alloc (by assumption) _)).mono ?_); rintro e w2 ⟨rfl, hk2⟩) | (go_at_call 11; (with_reducible refine (Web.out _ (by first | assumption | exact Keep.alloc (by assumption) _)).mono ?_); rintro e w2 ⟨rfl, hk2⟩) | (go_at_call 12; (with_reducible refine (E1.out _ (by first | assumption | exact Keep.alloc (by assumption) _)).mono ?_); rintro e w2 ⟨rfl, hk2⟩) | (go_at_call 12; (with_reducible refine (E2.out _ (by first | assumption | exact Keep.alloc (by assumption) _)).mono ?_); rintro e w2 ⟨rfl, hk2⟩) | (go_at_call 12; (with_reducible refine (E3.out _ (by first | assumption | exact Keep.alloc (by assumption) _)).mono ?_); rintro e w2 ⟨rfl, hk2⟩) | (go_at_call 12; (with_reducible refine (E4.out _ (by first | assumption | exact Keep.alloc (by assumption) _)).mono ?_); rintro e w2 ⟨rfl, hk2⟩) | (go_at_call 12; (with_reducible refine (E5.out _ (by first | assumption | exact Keep.alloc (by assumption) _)).mono ?_); rintro e w2 ⟨rfl, hk2⟩) | (go_at_call 12; (with_reducible refine (E6.out _ (by first | assumption | exact Keep.alloc (by assumption) _)).mono ?_); rintro e w2 ⟨rfl, hk2⟩) | (go_at_call 12; (with_reducible refine (E9.out _ (by first | assumption | exact Keep.alloc (by assumption) _)).mono ?_); rintro e w2 ⟨rfl, hk2⟩) | (go_at_call 12; (with_reducible refine (E10.out _ (by first | assumption | exact Keep.alloc (by assumption) _)).mono ?_); rintro e w2 ⟨rfl, hk2⟩)) | (go_at_call 7; (with_reducible refine (R2.out _ (by first | assumption | exact Keep.alloc (by assumption) _)).mono ?_); rintro e w7 ⟨hk7, q2, rfl, ht2⟩))
  have HK7 := Lib.hid hk7
  have HT2 := Lib.hid ht2
  clear hk7 ht2
  obtain ⟨x2, HX2⟩ : ∃ x2, Hid (w7.alloc (.cells #[.int .i8 (q2.kind : Int), .int .u64 (q2.n : Int), .bool q2.neg, .slice q2.mA q2.mL q2.mC, .int .u64 (q2.bits : Int), .int .i8 q2.ext, .string q2.text, .slice q2.kA q2.kL q2.kC] 31) = x2) := ⟨_, Lib.hid rfl⟩
  obtain ⟨b2, HB2⟩ : ∃ b2, Hid (w7.heap.size = b2) := ⟨_, Lib.hid rfl⟩
  have HA2 : Hid (Keep nob w7 x2) := by unfold Hid; rw [← HX2.out]; exact (Keep.refl _ _).alloc _
  have HN2 := Lib.hid (range_new w7 q2 31)
  rw [show w7.alloc (.cells (ER.cells q2).toArray 31) = x2 from HX2.out, HB2.out] at HN2
  rw [HX2.out, HB2.out]
  have HW2 : Hid (Keep nob w x2) := Lib.hid (HK7.out.then_ HA2.out)
  have HTX2 : Hid (Tr x2 (fun k => k < x2.heap.size) q2 vc) := Lib.hid (Tr.keep HA2.out (nobD _) _ _ (Tr.mono (fun b _ h => Nat.lt_of_lt_of_le h HA2.out.size) _ _ HT2.out))
  obtain ⟨c0, c1, c2, c3, c4, c5, c6, c7⟩ := cells_val HN2.out
  go_upto_region 17 with (go_at_call 20; go_must (refine (B2.out _ q2 _ HW2.out HTX2.out (fun _ h => h)).mono ?_); rintro e w8 ⟨rfl, hk8⟩)
  have HK8 := Lib.hid hk8
  have HW8 : Hid (Keep nob w w8) := Lib.hid (HW2.out.then_ hk8)
  clear c0 c1 c2 c3 c4 c5 c6 c7 hk8
  refine wp_region_fx 23 [.p, .p, .p, .p, .p, .p, .kv, .p, .cf (fun x => .agg #[.int .i8 (x.r.kind : Int), .int .u64 (x.r.n : Int), .bool x.r.neg, .slice x.r.mA x.r.mL x.r.mC, .int .u64 (x.r.bits : Int), .int .i8 x.r.ext, .string x.r.text, .slice x.r.kA x.r.kL x.r.kC]) (fun x W => Tr W (fun _ => True) x.r vc), .cv (.bool true), .p, .p, .p, .p, .cv (.string sca), .p, .cv (.string seb), .cv (.bool true), .p, .p, .cv (.bool true), .p, .p] [] nob (fun _ => True) (fun _ _ _ _ => trivial) trivial (by kernel_rfl) (by kernel_rfl) (fun h => absurd rfl h) ?_
  simp only [List.take_succ_cons, List.take_zero, List.drop_succ_cons, List.drop_zero]
  refine fx_p ?_ (by rfl) (fun w' => ?_) (fun K hK => ?_); rotate_left; (go_simp; first | done | exact rfl); go_simp; refine hK _ ?_; clear hK K
  refine fx_p ?_ (by rfl) (fun w' => ?_) (fun K hK => ?_); rotate_left; (go_simp; first | done | exact rfl); go_simp; refine hK _ ?_; clear hK K
  refine fx_p ?_ (by rfl) (fun w' => ?_) (fun K hK => ?_); rotate_left; (go_simp; first | done | exact rfl); go_simp; refine hK _ ?_; clear hK K
  refine fx_p ?_ (by rfl) (fun w' => ?_) (fun K hK => ?_); rotate_left; (go_simp; first | done | exact rfl); go_simp; refine hK _ ?_; clear hK K
  refine fx_p ?_ (by rfl) (fun w' => ?_) (fun K hK => ?_); rotate_left; (go_simp; first | done | exact rfl); go_simp; refine hK _ ?_; clear hK K
  refine fx_p ?_ (by rfl) (fun w' => ?_) (fun K hK => ?_); rotate_left; (go_simp; first | done | exact rfl); go_simp; refine hK _ ?_; clear hK K
  refine fx_kv ?_ (by rfl) (fun w' hw' ha => ?_) (fun K hK => ?_); rotate_left; (obtain ⟨c0, c1, c2, c3, c4, c5, c6, c7⟩ := cells_val (range_keep (HK8.out.then_ hw'.keep) HN2.out); go_simp; first | done | exact rfl); go_simp; refine hK _ ?_; clear hK K
  refine fx_p ?_ (by rfl) (fun w' => ?_) (fun K hK => ?_); rotate_left; (go_simp; first | done | exact rfl); go_simp; refine hK _ ?_; clear hK K
  refine fx_cf (f := ?_) (args := ?_) (by rfl) (fun x W W' h k => Tr.keep k (fun _ _ hS => hS) _ _ h) (fun w' => ?_) (fun w' hw' ha => ?_) (fun K hK x => ?_); rotate_left 2; (go_simp; first | done | (refine And.intro ?_ ?_ <;> exact rfl) | exact rfl); (refine (O1.out _ (HW8.out.then_ hw'.keep)).mono ?_; rintro e w3 ⟨h2, r, rfl, h3⟩; exact ⟨⟨undef, 0, r⟩, rfl, h2, Tr.mono (fun _ _ _ => trivial) _ _ h3⟩); go_simp; refine hK _ _ ?_; clear hK K
  refine fx_cv (f := ?_) (args := ?_) (by rfl) (fun w' => ?_) (fun w' hw' ha => ?_) (fun K hK => ?_); rotate_left 2; (go_simp; first | done | (refine And.intro ?_ ?_ <;> exact rfl) | exact rfl); (have hx := ha _ List.mem_cons_self (by kernel_rfl); have hs := HSM.out w' q2 x.r _ _ (Tr.keep (HK8.out.then_ hw'.keep) (nobD _) _ _ HTX2.out) hx; simp only [ER] at hs; exact hs); go_simp; refine hK _ ?_; clear hK K
  refine fx_p ?_ (by rfl) (fun w' => ?_) (fun K hK => ?_); rotate_left; (go_simp; first | done | exact rfl); go_simp; refine hK _ ?_; clear hK K
  refine fx_p ?_ (by rfl) (fun w' => ?_) (fun K hK => ?_); rotate_left; (go_simp; first | done | exact rfl); go_simp; refine hK _ ?_; clear hK K
  refine fx_p ?_ (by rfl) (fun w' => ?_) (fun K hK => ?_); rotate_left; (go_simp; first | done | exact rfl); go_simp; refine hK _ ?_; clear hK K
  refine fx_p ?_ (by rfl) (fun w' => ?_) (fun K hK => ?_); rotate_left; (go_simp; first | done | exact rfl); go_simp; refine hK _ ?_; clear hK K
  refine fx_cv (f := ?_) (args := ?_) (by rfl) (fun w' => ?_) (fun w' hw' ha => ?_) (fun K hK => ?_); rotate_left 2; (go_simp; first | done | (refine And.intro ?_ ?_ <;> exact rfl) | exact rfl); (exact Lca.out _); go_simp; refine hK _ ?_; clear hK K
  refine fx_p ?_ (by rfl) (fun w' => ?_) (fun K hK => ?_); rotate_left; (go_simp; first | done | exact rfl); go_simp; refine hK _ ?_; clear hK K
  refine fx_cv (f := ?_) (args := ?_) (by rfl) (fun w' => ?_) (fun w' hw' ha => ?_) (fun K hK => ?_); rotate_left 2; (go_simp; first | done | (refine And.intro ?_ ?_ <;> exact rfl) | exact rfl); (exact Leb.out _); go_simp; refine hK _ ?_; clear hK K
  refine fx_cv (f := ?_) (args := ?_) (by rfl) (fun w' => ?_) (fun w' hw' ha => ?_) (fun K hK => ?_); rotate_left 2; (go_simp; first | done | (refine And.intro ?_ ?_ <;> exact rfl) | exact rfl); (exact EL10.out _ (HW8.out.then_ hw'.keep)); go_simp; refine hK _ ?_; clear hK K
  refine fx_p ?_ (by rfl) (fun w' => ?_) (fun K hK => ?_); rotate_left; (go_simp; first | done | exact rfl); go_simp; refine hK _ ?_; clear hK K
  refine fx_p ?_ (by rfl) (fun w' => ?_) (fun K hK => ?_); rotate_left; (go_simp; first | done | exact rfl); go_simp; refine hK _ ?_; clear hK K
  refine fx_cv (f := ?_) (args := ?_) (by rfl) (fun w' => ?_) (fun w' hw' ha => ?_) (fun K hK => ?_); rotate_left 2; (go_simp; first | done | (refine And.intro ?_ ?_ <;> exact rfl) | exact rfl); (exact HLL.out _ (HW8.out.then_ hw'.keep)); go_simp; refine hK _ ?_; clear hK K
  refine fx_p ?_ (by rfl) (fun w' => ?_) (fun K hK => ?_); rotate_left; (go_simp; first | done | exact rfl); go_simp; refine hK _ ?_; clear hK K
  refine fx_p ?_ (by rfl) (fun w' => ?_) (fun K hK => ?_); rotate_left; (go_simp; first | done | exact rfl); go_simp; refine hK _ ?_; clear hK K
  refine fx_nil ?_
  intro w9 hk9 hΓ
  have HK9 := Lib.hid hk9.keep
  have HFx := Lib.hid (hΓ _ List.mem_cons_self)
  clear hk9 hΓ
  go_wp2
  go_ret
  exact ⟨rfl, HW8.out.then_ HK9.out⟩
theorem lawN_ok (a : Nat) (ha : a < 256) (z : Int) (hz1 : -32768 ≤ z) (hz2 : z < 32768) (c : Nat) (hc : c < 4294967296) (B : Nat) (sa : Nat → Addr) (w : World) (g : GL B sa w) : Calls Tryz.prog 6 #[.int .u8 (a : Int), .int .i16 z, .int .u32 (c : Int)] w fun e w' => e = .returned (.bool true) ∧ Keep nob w w' := by
  by_cases h1 : a < 128
  · by_cases h2 : z < -32
    · exact lawN_al a ha z hz1 hz2 c hc h1 h2 B sa w g
    · by_cases h3 : z < 0
      · exact lawN_ai a ha z hz1 hz2 c hc h1 (by omega) h3 B sa w g
      · exact lawN_ag a ha z hz1 hz2 c hc h1 (by omega) B sa w g
  · by_cases h2 : z < -32
    · exact lawN_bl a ha z hz1 hz2 c hc h1 h2 B sa w g
    · by_cases h3 : z < 0
      · exact lawN_bi a ha z hz1 hz2 c hc h1 (by omega) h3 B sa w g
      · exact lawN_bg a ha z hz1 hz2 c hc h1 (by omega) B sa w g
end Go.Proofs.YtfpkjmpkhokodaaGreatDoor

/- PackreadNumbers: its law at any arguments. -/
namespace Go.Proofs.YtfpkjmpkhokodaaGreatDoor

theorem lawN_int (x z y : Int) (hx : 0 ≤ x ∧ x ≤ 255) (hz : -32768 ≤ z ∧ z ≤ 32767) (hy : 0 ≤ y ∧ y ≤ 4294967295) (B : Nat) (sa : Nat → Addr) (w : World) (g : GL B sa w) : Calls Tryz.prog 6 #[.int .u8 x, .int .i16 z, .int .u32 y] w fun e w' => e = .returned (.bool true) ∧ Keep nob w w' := by
  obtain ⟨a, rfl⟩ := Int.eq_ofNat_of_zero_le hx.1
  obtain ⟨c, rfl⟩ := Int.eq_ofNat_of_zero_le hy.1
  exact lawN_ok a (by omega) z hz.1 (by omega) c (by omega) B sa w g
end Go.Proofs.YtfpkjmpkhokodaaGreatDoor
