/- TypedBack: the law. Printed by mkty. -/
import Derived.Test.YteekndchkgdccaaGreatDoorPa7
namespace Go.Proofs.YteekndchkgdccaaGreatDoor
open Go.RowKit

set_option maxRecDepth 100000 in
set_option maxHeartbeats 4000000 in
theorem law25_ok (l : List Int) (A : Option Addr) (m c u : Nat) (hl : ∀ z ∈ l, I64 z) (hm : l.length = m) (hmm : m ≤ 100000000) (B : Nat) (sa : Nat → Addr) (w : World) (g : GL B sa w) (h : Sl E64 w A c l) :
    Calls Tryz.prog 3 #[.slice A m c, .int .u8 (u : Int)] w fun E w' => E = .returned (.bool true) ∧ Keep nob w w' := by
  obtain ⟨k1, HK1⟩ : ∃ k1 : Nat, Hid (u % 8 = k1) := ⟨_, Lib.hid rfl⟩
  obtain ⟨k, HKK⟩ : ∃ k : Nat, Hid (1 + k1 = k) := ⟨_, Lib.hid rfl⟩
  have hk1 : 1 ≤ k := by rw [← HKK.out]; omega
  have hk8 : k ≤ 8 := by rw [← HKK.out, ← HK1.out]; omega
  have ik1 : (u : Int) % 8 = (k1 : Int) := by rw [← HK1.out]; rfl
  have ik2 : IntKind.i8.wrap (k1 : Int) = (k1 : Int) := by rw [wrap_i8', ← HK1.out]; omega
  have ik3 : IntKind.i8.wrap (1 + (k1 : Int)) = (k : Int) := by rw [wrap_i8', ← HKK.out, ← HK1.out]; omega
  have HL1 := Lib.hid (lives25_ok B sa w g)
  have HGW := Lib.hid g
  have HSL := Lib.hid h
  have HLN := Lib.hid hm
  have HI64 := Lib.hid hl
  have HIN := Lib.hid (fun (z : Int) (W : World) => inside25_ok k hk1 hk8 z W)
  have HKB := Lib.hid (And.intro hk1 hk8)
  have hle := h.le
  have hcap := h.cap
  rw [hm] at hle
  clear g h hm hl hk1 hk8
  go_enter Tryz.func3, Tryz.ntmps3
  go_wp2_with (go_at_call 4; go_must (refine HL1.out.mono ?_); rintro E w1 ⟨rfl, hk1⟩; have HKW1 := Lib.hid hk1; clear hk1)
  have HSL1 := Lib.hid (HSL.out.keep HKW1.out (fun ⟨_, _, h⟩ => h))
  have HG1 := Lib.hid (HGW.out.keep HKW1.out (fun _ h => h.elim))
  clear ik1 ik2 ik3
  go_loopw [6, 7] (fun u6 u7 wr => ∃ (i : Nat) (b : Bool), i ≤ m ∧ u7 = .int .i64 (i : Int) ∧ u6 = .bool b ∧ Hid ((l.take i).all (hasK k) = b) ∧ Hid (wr = w1)) (fun _ u7 _ => m - (intOf u7).toNat)
  case atStart => exact ⟨0, true, Nat.zero_le _, rfl, rfl, Lib.hid rfl, Lib.hid rfl⟩
  case round =>
    obtain ⟨i, b, hi, rfl, rfl, HB, HW⟩ := hrel
    have HW2 := HW.out
    subst HW2
    rcases Nat.lt_or_ge i m with hlt | hge
    · have d1 : decide ((i : Int) < (m : Int)) = true := by rw [decide_eq_true_iff]; omega
      have q0 : (0 : Int) ≤ (i : Int) := by omega
      have q1 : (i : Int) < (m : Int) := by omega
      have j5 : IntKind.i64.wrap ((i : Int) + 1) = (i : Int) + 1 := by rw [IntWalk.i64_left, IntWalk.wrap64_in _ ⟨by omega, by omega⟩]
      obtain ⟨z, HZ⟩ : ∃ z, Hid (l.getD i 0 = z) := ⟨_, Lib.hid rfl⟩
      have hil : i < l.length := by rw [HLN.out]; exact hlt
      have hln : l ≠ [] := fun e => by rw [e] at hil; simp at hil
      obtain ⟨ba, oa, rfl, -⟩ := HSL1.out.at_ hln
      have hcx := sl64_cell HSL1.out hil HZ.out
      have hz : l[i] = z := by rw [← HZ.out, List.getD_eq_getElem?_getD, List.getElem?_eq_getElem hil]; rfl
      have HTK : Hid ((l.take (i + 1)).all (hasK k) = (b && hasK k z)) := by
        refine Lib.hid ?_
        rw [List.take_succ_eq_append_getElem hil, List.all_append, HB.out, hz]
        simp
      have HC := Lib.hid (HIN.out z wr)
      obtain ⟨hz', HZK⟩ : ∃ hz', Hid (hasK k z = hz') := ⟨_, Lib.hid rfl⟩
      rw [HZK.out] at HTK HC
      clear hln hz
      cases b with
      | true =>
        go_wp2_with (go_at_call 5; go_must (refine HC.out.mono ?_); rintro E w2 ⟨rfl, rfl⟩)
        exact ⟨⟨i + 1, hz', hlt, rfl, rfl, HTK, Lib.hid trivial⟩, by simp [intOf]; omega⟩
      | false =>
        go_wp2_with (fail)
        exact ⟨⟨i + 1, false, hlt, rfl, rfl, HTK, Lib.hid trivial⟩, by simp [intOf]; omega⟩
    · obtain rfl : i = m := by omega
      have d1 : decide ((i : Int) < (i : Int)) = false := by rw [decide_eq_false_iff_not]; omega
      have htk : l.take i = l := List.take_of_length_le (by rw [HLN.out]; exact Nat.le_refl _)
      rw [htk] at HB
      clear htk
      cases b with
      | false =>
        have HI := Lib.hid (fun (small : Bool) (W : World) (hk : Keep nob wr W) => ints_bad (k := k) (small := small) HKB.out.1 HKB.out.2 (HG1.out.keep hk (fun _ h => h.elim)) HLN.out (HSL1.out.keep hk (fun ⟨_, _, h⟩ => h)) (by omega) HB.out)
        have HI0 := Lib.hid (HI.out false wr (Keep.refl _ _))
        simp only [ER, Raw.zero] at HI0 HI
        go_upto_region 10 with (go_at_call 6; go_must (refine HI0.out.mono ?_); rintro E w2 ⟨hk2, ev, path, rfl, he⟩; have HK2 := Lib.hid hk2; clear hk2; obtain ⟨pb, rfl, he1⟩ := he; have HE2 := Lib.hid he1; clear he1)
        obtain ⟨x2, HX2⟩ : ∃ x2, Hid (w2.alloc (.cells #[.int .i8 0, .int .u64 0, .bool false, .slice none 0 0, .int .u64 0, .int .i8 0, .string ⟨#[]⟩, .slice none 0 0] 35) = x2) := ⟨_, Lib.hid rfl⟩
        have HKX2 : Hid (Keep nob w2 x2) := by unfold Hid; rw [← HX2.out]; exact (Keep.refl _ _).alloc _
        rw [HX2.out]
        have HI2 := Lib.hid (HI.out true x2 (HK2.out.then_ HKX2.out))
        go_upto_region 11 with (go_at_call 6; go_must (refine HI2.out.mono ?_); rintro E w3 ⟨hk3, ev, path3, rfl, he⟩; have HK3 := Lib.hid hk3; clear hk3; obtain ⟨pc, rfl, he1⟩ := he; have HE3 := Lib.hid he1; clear he1)
        obtain ⟨x3, HX3⟩ : ∃ x3, Hid (w3.alloc (.cells #[.int .i8 0, .int .u64 0, .bool false, .slice none 0 0, .int .u64 0, .int .i8 0, .string ⟨#[]⟩, .slice none 0 0] 35) = x3) := ⟨_, Lib.hid rfl⟩
        have HKX3 : Hid (Keep nob w3 x3) := by unfold Hid; rw [← HX3.out]; exact (Keep.refl _ _).alloc _
        rw [HX3.out]
        have HKA := Lib.hid (((HK2.out.then_ HKX2.out).then_ HK3.out).then_ HKX3.out)
        have HCA := Lib.hid (fun (W : World) (hk : Keep nob x3 W) => code_path (D := fun _ => True) (HG1.out.keep (HKA.out.then_ hk) (fun _ h => h.elim)) (by decide) (by decide) (PErr.keep (S := nob) (D := fun _ => True) ⟨pb, rfl, trivial, HE2.out.2.1, HE2.out.2.2.1, HE2.out.2.2.2⟩ (((HKX2.out.then_ HK3.out).then_ HKX3.out).then_ hk) (fun _ _ h => h)))
        have HCB := Lib.hid (fun (W : World) (hk : Keep nob x3 W) => code_path (D := fun _ => True) (HG1.out.keep (HKA.out.then_ hk) (fun _ h => h.elim)) (by decide) (by decide) (PErr.keep (S := nob) (D := fun _ => True) ⟨pc, rfl, trivial, HE3.out.2.1, HE3.out.2.2.1, HE3.out.2.2.2⟩ (HKX3.out.then_ hk) (fun _ _ h => h)))
        have HCA0 := Lib.hid (HCA.out x3 (Keep.refl _ _))
        simp only [Int.cast_ofNat_Int] at HCA0 HCB
        go_wp2_with (first
          | ((with_reducible refine HCA0.out.mono ?_); rintro E w4 ⟨rfl, hk4⟩; have HK4 := Lib.hid hk4; clear hk4)
          | ((with_reducible refine (HCB.out _ HK4.out).mono ?_); rintro E w5 ⟨rfl, hk5⟩; have HK5 := Lib.hid hk5; clear hk5))
        go_ret
        exact ⟨rfl, ((HKW1.out.then_ HKA.out).then_ HK4.out).then_ HK5.out⟩
      | true =>
        have hmm9 : i ≤ 1000000000 := by omega
        have HI := Lib.hid (fun (small : Bool) (W : World) (hk : Keep nob wr W) => ints_good (k := k) (small := small) HKB.out.1 HKB.out.2 (HG1.out.keep hk (fun _ h => h.elim)) HLN.out (HSL1.out.keep hk (fun ⟨_, _, h⟩ => h)) hmm9 HB.out)
        have HTB := Lib.hid (fun (small : Bool) (r : Raw) (D : Nat → Prop) (W : World) (hk : Keep nob wr W) (ht : Tr W D r (arrV (64 + iK small k) (encL (litK small k) (nK k) (l.map bits64)))) => arr_back (k := k) (small := small) HKB.out.1 HKB.out.2 HI64.out (by rw [HLN.out]; exact hmm9) HB.out (HG1.out.keep hk (fun _ h => h.elim)) (Tr.mono (D' := fun j => j < W.heap.size) (fun j hj _ => hj) _ _ ht) (fun j hj => hj))
        have HTP := Lib.hid (fun (small : Bool) (r : Raw) (D : Nat → Prop) (W : World) (hk : Keep nob wr W) (ht : Tr W D r (arrV (64 + iK small k) (encL (litK small k) (nK k) (l.map bits64)))) => arr_plain (k := k) (small := small) HKB.out.1 HKB.out.2 HI64.out (by rw [HLN.out]; exact hmm9) HB.out (HG1.out.keep hk (fun _ h => h.elim)) (Tr.mono (D' := fun j => j < W.heap.size) (fun j hj _ => hj) _ _ ht) (fun j hj => hj))
        have HCH := Lib.hid (fun (small : Bool) (r : Raw) (D : Nat → Prop) (W : World) (hk : Keep nob wr W) (ht : Tr W D r (arrV (64 + iK small k) (encL (litK small k) (nK k) (l.map bits64)))) => arr_check (64 + iK small k) _ (by omega) (by have := enc_len9 k small l (by rw [HLN.out]; exact hmm9); omega) (HG1.out.keep hk (fun _ h => h.elim)) (Tr.mono (D' := fun j => j < W.heap.size) (fun j hj _ => hj) _ _ ht) (fun j hj => hj))
        have HCL := Lib.hid (fun (r : Raw) (D : Nat → Prop) (W : World) (hk : Keep nob wr W) (ht : Tr W D r (intsV l)) => ints_check l HI64.out (by rw [HLN.out]; exact hmm9) (HG1.out.keep hk (fun _ h => h.elim)) (Tr.mono (D' := fun j => j < W.heap.size) (fun j hj _ => hj) _ _ ht) (fun j hj => hj))
        have HLB := Lib.hid (fun (r : Raw) (D : Nat → Prop) (W : World) (hk : Keep nob wr W) (ht : Tr W D r (intsV l)) => list_back l HI64.out (by rw [HLN.out]; exact hmm9) (HG1.out.keep hk (fun _ h => h.elim)) (Tr.mono (D' := fun j => j < W.heap.size) (fun j hj _ => hj) _ _ ht) (fun j hj => hj))
        have HI0 := Lib.hid (HI.out false wr (Keep.refl _ _))
        go_upto_region 10 with (go_at_call 6; go_must (refine HI0.out.mono ?_); rintro E w2 ⟨hk2, r, rfl, ht2⟩; have HK2 := Lib.hid hk2; have HT2 := Lib.hid ht2; clear hk2 ht2; unfold ER)
        obtain ⟨x2, b2, HX2, HB2, HR2, HKX2, HLX2⟩ := boxed w2 r
        rw [show w2.alloc (.cells #[.int .i8 (r.kind : Int), .int .u64 (r.n : Int), .bool r.neg, .slice r.mA r.mL r.mC, .int .u64 (r.bits : Int), .int .i8 r.ext, .string r.text, .slice r.kA r.kL r.kC] 35) = x2 from HX2.out, HB2.out]
        have HKY2 := Lib.hid (HK2.out.then_ HKX2.out)
        have HI2 := Lib.hid (HI.out true x2 HKY2.out)
        go_upto_region 11 with (go_at_call 6; go_must (refine HI2.out.mono ?_); rintro E w3 ⟨hk3, s, rfl, ht3⟩; have HK3 := Lib.hid hk3; have HT3 := Lib.hid ht3; clear hk3 ht3; unfold ER)
        obtain ⟨x3, b3, HX3, HB3, HR3, HKX3, HLX3⟩ := boxed w3 s
        rw [show w3.alloc (.cells #[.int .i8 (s.kind : Int), .int .u64 (s.n : Int), .bool s.neg, .slice s.mA s.mL s.mC, .int .u64 (s.bits : Int), .int .i8 s.ext, .string s.text, .slice s.kA s.kL s.kC] 35) = x3 from HX3.out, HB3.out]
        have HK23 := Lib.hid (HK3.out.then_ HKX3.out)
        have HKY3 := Lib.hid (HKY2.out.then_ HK23.out)
        have HA3 := Lib.hid (Tr.keep (HKX2.out.then_ HK23.out) (nobD _) _ _ HT2.out)
        have HB3' := Lib.hid (Tr.keep HKX3.out (nobD _) _ _ HT3.out)
        have HRA := Lib.hid (range_keep0 HK23.out HR2.out)
        obtain ⟨a0, a1, a2, a3, a4, a5, a6, a7⟩ := cells_val HRA.out
        have HC3 := Lib.hid (HTB.out false r _ x3 HKY3.out HA3.out)
        simp only [ER] at HC3
        go_upto_region 16 with (go_at_call 8; go_must (refine HC3.out.mono ?_); rintro E w4 ⟨hk4, A4, c4, rfl, hs4, -⟩; rw [HLN.out]; have HK4 := Lib.hid hk4; have HS4 := Lib.hid hs4; clear hk4 hs4)
        have HRS4 := Lib.hid (range_keep0 HK4.out HR3.out)
        clear a0 a1 a2 a3 a4 a5 a6 a7
        obtain ⟨a0, a1, a2, a3, a4, a5, a6, a7⟩ := cells_val HRS4.out
        have HKY4 := Lib.hid (HKY3.out.then_ HK4.out)
        have HC4 := Lib.hid (HTB.out true s _ w4 HKY4.out (Tr.keep HK4.out (nobD _) _ _ HB3'.out))
        simp only [ER] at HC4
        go_upto_region 17 with (go_at_call 8; go_must (refine HC4.out.mono ?_); rintro E w5 ⟨hk5, A5, c5, rfl, hs5, -⟩; rw [HLN.out]; have HK5 := Lib.hid hk5; have HS5 := Lib.hid hs5; clear hk5 hs5)
        have HK45 := Lib.hid (HK4.out.then_ HK5.out)
        have HKY5 := Lib.hid (HKY3.out.then_ HK45.out)
        have HRA5 := Lib.hid (range_keep0 HK45.out HRA.out)
        clear a0 a1 a2 a3 a4 a5 a6 a7
        obtain ⟨a0, a1, a2, a3, a4, a5, a6, a7⟩ := cells_val HRA5.out
        have HC5 := Lib.hid (HTP.out false r _ w5 HKY5.out (Tr.keep HK45.out (nobD _) _ _ HA3.out))
        simp only [ER] at HC5
        go_upto_region 18 with (go_at_call 9; go_must (refine HC5.out.mono ?_); rintro E w6 ⟨hk6, p, rfl, ht6⟩; have HK6 := Lib.hid hk6; have HT6 := Lib.hid ht6; clear hk6 ht6; unfold ER)
        obtain ⟨x6, b6, HX6, HB6, HR6, HKX6, HLX6⟩ := boxed w6 p
        rw [show w6.alloc (.cells #[.int .i8 (p.kind : Int), .int .u64 (p.n : Int), .bool p.neg, .slice p.mA p.mL p.mC, .int .u64 (p.bits : Int), .int .i8 p.ext, .string p.text, .slice p.kA p.kL p.kC] 35) = x6 from HX6.out, HB6.out]
        have HK56 := Lib.hid ((HK45.out.then_ HK6.out).then_ HKX6.out)
        have HKY6 := Lib.hid (HKY3.out.then_ HK56.out)
        have HRS6 := Lib.hid (range_keep0 HK56.out HR3.out)
        clear a0 a1 a2 a3 a4 a5 a6 a7
        obtain ⟨a0, a1, a2, a3, a4, a5, a6, a7⟩ := cells_val HRS6.out
        have HC6 := Lib.hid (HTP.out true s _ x6 HKY6.out (Tr.keep HK56.out (nobD _) _ _ HB3'.out))
        simp only [ER] at HC6
        go_upto_region 19 with (go_at_call 9; go_must (refine HC6.out.mono ?_); rintro E w7 ⟨hk7, t, rfl, ht7⟩; have HK7 := Lib.hid hk7; have HT7 := Lib.hid ht7; clear hk7 ht7; unfold ER)
        obtain ⟨x7, b7, HX7, HB7, HR7, HKX7, HLX7⟩ := boxed w7 t
        rw [show w7.alloc (.cells #[.int .i8 (t.kind : Int), .int .u64 (t.n : Int), .bool t.neg, .slice t.mA t.mL t.mC, .int .u64 (t.bits : Int), .int .i8 t.ext, .string t.text, .slice t.kA t.kL t.kC] 35) = x7 from HX7.out, HB7.out]
        have HK67 := Lib.hid (HK7.out.then_ HKX7.out)
        have HK37 := Lib.hid (HK56.out.then_ HK67.out)
        have HKY7 := Lib.hid (HKY3.out.then_ HK37.out)
        have HTA := Lib.hid (Tr.keep HK37.out (nobD _) _ _ HA3.out)
        have HTS := Lib.hid (Tr.keep HK37.out (nobD _) _ _ HB3'.out)
        have HTP6 := Lib.hid (Tr.keep (HKX6.out.then_ HK67.out) (nobD _) _ _ HT6.out)
        have HTQ := Lib.hid (Tr.keep HKX7.out (nobD _) _ _ HT7.out)
        have HRA7 := Lib.hid (range_keep0 HK37.out HRA.out)
        have HRS7 := Lib.hid (range_keep0 HK37.out HR3.out)
        have HRP7 := Lib.hid (range_keep0 HK67.out HR6.out)
        have HL7 := Lib.hid (HSL1.out.keep HKY7.out (fun ⟨_, _, h⟩ => h))
        have HLA := Lib.hid (HS4.out.keep (HK5.out.then_ ((HK6.out.then_ HKX6.out).then_ HK67.out)) (fun ⟨_, _, h⟩ => h))
        have HLS := Lib.hid (HS5.out.keep ((HK6.out.then_ HKX6.out).then_ HK67.out) (fun ⟨_, _, h⟩ => h))
        have HSA := Lib.hid (same64_ok A4 A c4 c i l x7 HLN.out HLA.out HL7.out)
        have HSB := Lib.hid (fun (W : World) (hk : Keep nob x7 W) => same64_ok A5 A c5 c i l W HLN.out (HLS.out.keep hk (fun ⟨_, _, h⟩ => h)) (HL7.out.keep hk (fun ⟨_, _, h⟩ => h)))
        have HSV := Lib.hid (fun (W : World) (hk : Keep nob x7 W) => same_ok (intsV l) p t _ _ W (Tr.keep hk (nobD _) _ _ HTP6.out) (Tr.keep hk (nobD _) _ _ HTQ.out))
        have HVA := Lib.hid (fun (W : World) (hk : Keep nob x7 W) => HCH.out false r _ W (HKY7.out.then_ hk) (Tr.keep hk (nobD _) _ _ HTA.out))
        have HVP := Lib.hid (fun (W : World) (hk : Keep nob x7 W) => HCL.out p _ W (HKY7.out.then_ hk) (Tr.keep hk (nobD _) _ _ HTP6.out))
        simp only [ER] at HSV HVA HVP
        clear a0 a1 a2 a3 a4 a5 a6 a7
        go_upto_if 140 with (first
          | ((with_reducible refine HSA.out.mono ?_); rintro E y1 ⟨rfl, hk⟩; have HJ1 := Lib.hid hk; clear hk)
          | ((with_reducible refine (HSB.out _ HJ1.out).mono ?_); rintro E y2 ⟨rfl, hk⟩; have HJ2 := Lib.hid (HJ1.out.then_ hk); clear hk; obtain ⟨a0, a1, a2, a3, a4, a5, a6, a7⟩ := cells_val (range_keep0 HJ2.out HRP7.out); obtain ⟨e0, e1, e2, e3, e4, e5, e6, e7⟩ := cells_val (range_keep0 HJ2.out HR7.out))
          | ((with_reducible refine (HSV.out _ HJ2.out).mono ?_); rintro E y3 ⟨rfl, hk⟩; have HJ3 := Lib.hid (HJ2.out.then_ hk); clear hk a0 a1 a2 a3 a4 a5 a6 a7 e0 e1 e2 e3 e4 e5 e6 e7; obtain ⟨a0, a1, a2, a3, a4, a5, a6, a7⟩ := cells_val (range_keep0 HJ3.out HRA7.out))
          | ((with_reducible refine (HVA.out _ HJ3.out).mono ?_); rintro E y4 ⟨rfl, hk⟩; have HJ4 := Lib.hid (HJ3.out.then_ hk); clear hk a0 a1 a2 a3 a4 a5 a6 a7; obtain ⟨a0, a1, a2, a3, a4, a5, a6, a7⟩ := cells_val (range_keep0 HJ4.out HRP7.out))
          | ((with_reducible refine (HVP.out _ HJ4.out).mono ?_); rintro E y5 ⟨rfl, hk⟩; have HJ5 := Lib.hid (HJ4.out.then_ hk); clear hk a0 a1 a2 a3 a4 a5 a6 a7))
        obtain ⟨a0, a1, a2, a3, a4, a5, a6, a7⟩ := cells_val (range_keep0 HJ5.out HRP7.out)
        have HC8 := Lib.hid (HLB.out p _ y5 (HKY7.out.then_ HJ5.out) (Tr.keep HJ5.out (nobD _) _ _ HTP6.out))
        simp only [ER] at HC8
        have HSC := Lib.hid (fun (W : World) (A8 : Option Addr) (c8 : Nat) (hk : Keep nob x7 W) (hs : Sl E64 W A8 c8 l) => same64_ok A8 A c8 c i l W HLN.out hs (HL7.out.keep hk (fun ⟨_, _, h⟩ => h)))
        go_upto_region 24 with (first
          | (go_at_call 8; go_must (refine HC8.out.mono ?_); rintro E y6 ⟨hk, A8, c8, rfl, hs8, -⟩; rw [HLN.out]; have HJ6 := Lib.hid (HJ5.out.then_ hk); have HS8 := Lib.hid hs8; clear hk hs8)
          | ((with_reducible refine (HSC.out _ _ _ HJ6.out HS8.out).mono ?_); rintro E y7 ⟨rfl, hk⟩; have HJ7 := Lib.hid (HJ6.out.then_ hk); clear hk))
        obtain ⟨bk, ok, -, -, hkl, hka, -, htx⟩ := arr_open (Tr.keep HJ7.out (nobD _) _ _ HTA.out)
        obtain ⟨bs, os, -, -, hsl, hsa, -, hsx⟩ := arr_open (Tr.keep HJ7.out (nobD _) _ _ HTS.out)
        clear a0 a1 a2 a3 a4 a5 a6 a7
        obtain ⟨a0, a1, a2, a3, a4, a5, a6, a7⟩ := cells_val (range_keep0 HJ7.out HRA7.out)
        obtain ⟨e0, e1, e2, e3, e4, e5, e6, e7⟩ := cells_val (range_keep0 HJ7.out HRS7.out)
        rw [hkl, hka] at a7
        rw [hsl, hsa] at e7
        obtain ⟨n, HN⟩ : ∃ n, Hid (nK k = n) := ⟨_, Lib.hid rfl⟩
        have hn0 : 0 < n := by rw [← HN.out]; exact (nK_pos k).1
        have hn8 : n ≤ 8 := by rw [← HN.out]; exact (nK_pos k).2
        obtain ⟨S, HS⟩ : ∃ S, Hid (n * i = S) := ⟨_, Lib.hid rfl⟩
        have HS9 : Hid (S ≤ 800000000) := Lib.hid (by rw [← HS.out]; exact Nat.le_trans (Nat.mul_le_mul hn8 hmm) (by decide))
        obtain ⟨c1, HC1⟩ : ∃ c1, Hid (encL (litK false k) (nK k) (l.map bits64) = c1) := ⟨_, Lib.hid rfl⟩
        obtain ⟨c2, HC2⟩ : ∃ c2, Hid (encL (litK true k) (nK k) (l.map bits64) = c2) := ⟨_, Lib.hid rfl⟩
        have HB1 : Hid (bl (Bt c1) = c1 ∧ c1.length = S) := Lib.hid ⟨bl_Bt (by rw [← HC1.out]; exact encL_8 _ _ _), by rw [← HC1.out, encL_len, List.length_map, HLN.out, HN.out, HS.out]⟩
        have HB2 : Hid (bl (Bt c2) = c2 ∧ c2.length = S) := Lib.hid ⟨bl_Bt (by rw [← HC2.out]; exact encL_8 _ _ _), by rw [← HC2.out, encL_len, List.length_map, HLN.out, HN.out, HS.out]⟩
        have HTU : Hid (∀ j, j < S → c1.getD j 0 = c2.getD (j / n * n + n - 1 - j % n) 0) := by
          refine Lib.hid (fun j hj => ?_)
          have h1 := turn_ok k (l.map bits64) j (by rw [List.length_map, HLN.out, HN.out, HS.out]; exact hj)
          rw [HC2.out, HN.out] at h1
          have h2 : encL false (nK k) (l.map bits64) = c1 := HC1.out
          rw [HN.out] at h2
          rw [h2] at h1
          exact h1
        rw [HC1.out] at htx
        rw [HC2.out] at hsx
        obtain ⟨T1, HT1⟩ : ∃ T1, Hid (Bt c1 = T1) := ⟨_, Lib.hid rfl⟩
        obtain ⟨T2, HT2'⟩ : ∃ T2, Hid (Bt c2 = T2) := ⟨_, Lib.hid rfl⟩
        rw [HT1.out] at htx HB1
        rw [HT2'.out] at hsx HB2
        have hs1 : T1.size = S := by rw [← HT1.out, Bt_size, HB1.out.2]
        have hs2 : T2.size = S := by rw [← HT2'.out, Bt_size, HB2.out.2]
        have HZS : Hid (i = 0 → S = 0) := Lib.hid (fun h => by rw [← HS.out, h, Nat.mul_zero])
        have hrem : (S : Int) % (i : Int) = 0 := by rw [← HS.out, Int.natCast_mul, Int.mul_comm]; exact Int.mul_emod_right _ _
        have hrem' : (S : Int).tmod (i : Int) = 0 := by rw [Int.tmod_eq_emod_of_nonneg (by omega)]; exact hrem
        clear hkl hka hsl hsa a0 a1 a2 a3 a4 a5 a6 e0 e1 e2 e3 e4 e5 e6
        rcases Nat.eq_zero_or_pos i with hi0 | hi0
        · have hS0 := HZS.out hi0
          have g1 : ((i : Int) == 0) = true := by rw [hi0]; rfl
          have g2 : decide ((i : Int) > 0) = false := by rw [hi0]; rfl
          have g3 : decide (0 < i) = false := by rw [hi0]; rfl
          have g5 : ((S : Int) != 0) = false := by rw [hS0]; rfl
          have HI0 := Lib.hid hi0
          clear hi0 hS0
          go_wp2_with (fail)
          clear g1 g2 g3 g5 HI0
          go_loopw [24] (fun u24 wl => ∃ j : Nat, j ≤ S ∧ u24 = .int .i64 (j : Int) ∧ Hid (Keep nob x7 wl)) (fun u24 _ => S - (intOf u24).toNat)
          case atStart => exact ⟨0, Nat.zero_le _, rfl, HJ7⟩
          case round =>
            obtain ⟨j, hj, rfl, HJ⟩ := hrel
            have hS9 := HS9.out
            rcases Nat.lt_or_ge j S with hjl | hjg
            · have d2 : decide ((j : Int) < (S : Int)) = true := by rw [decide_eq_true_iff]; omega
              have hi1 : 0 < i := by
                rcases Nat.eq_zero_or_pos i with h | h
                · have := HZS.out h; omega
                · exact h
              obtain ⟨qd, HQD⟩ : ∃ qd, Hid (j / n = qd) := ⟨_, Lib.hid rfl⟩
              obtain ⟨rm, HRM⟩ : ∃ rm, Hid (j % n = rm) := ⟨_, Lib.hid rfl⟩
              obtain ⟨pp, HPP⟩ : ∃ pp, Hid (qd * n = pp) := ⟨_, Lib.hid rfl⟩
              have hrm : rm < n := by rw [← HRM.out]; exact Nat.mod_lt _ hn0
              have hdm : pp + rm = j := by rw [← HPP.out, ← HQD.out, ← HRM.out, Nat.mul_comm]; exact Nat.div_add_mod j n
              have hqi : qd < i := by rw [← HQD.out]; exact Nat.div_lt_of_lt_mul (by rw [HS.out]; exact hjl)
              have hpn : pp + n ≤ S := by
                have h1 : (qd + 1) * n ≤ i * n := Nat.mul_le_mul_right n hqi
                rw [Nat.add_mul, HPP.out, Nat.one_mul, Nat.mul_comm i n, HS.out] at h1
                exact h1
              obtain ⟨p1, HP1⟩ : ∃ p1, Hid (pp + n = p1) := ⟨_, Lib.hid rfl⟩
              obtain ⟨p2, HP2⟩ : ∃ p2, Hid (p1 - 1 = p2) := ⟨_, Lib.hid rfl⟩
              obtain ⟨v, HV⟩ : ∃ v, Hid (p2 - rm = v) := ⟨_, Lib.hid rfl⟩
              have hv : v < S := by rw [← HV.out, ← HP2.out, ← HP1.out]; omega
              have f0 : (S : Int) / (i : Int) = (n : Int) := by rw [← HS.out, Int.natCast_mul]; exact Int.mul_ediv_cancel _ (by omega)
              have f0' : (S : Int).tdiv (i : Int) = (n : Int) := by rw [Int.tdiv_eq_ediv_of_nonneg (by omega)]; exact f0
              have f1 : (j : Int) / (n : Int) = (qd : Int) := by rw [← HQD.out]; rfl
              have f1' : (j : Int).tdiv (n : Int) = (qd : Int) := by rw [Int.tdiv_eq_ediv_of_nonneg (by omega)]; exact f1
              have f1w : IntKind.i64.wrap (qd : Int) = (qd : Int) := by rw [IntWalk.i64_left, IntWalk.wrap64_in _ ⟨by omega, by omega⟩]
              have f2 : IntKind.i64.wrap ((qd : Int) * (n : Int)) = (pp : Int) := by rw [← Int.natCast_mul, HPP.out, IntWalk.i64_left, IntWalk.wrap64_in _ ⟨by omega, by omega⟩]
              have f3 : IntKind.i64.wrap ((pp : Int) + (n : Int)) = (p1 : Int) := by rw [← HP1.out, IntWalk.i64_left, IntWalk.wrap64_in _ ⟨by omega, by omega⟩]; omega
              have f4 : IntKind.i64.wrap ((p1 : Int) - 1) = (p2 : Int) := by rw [← HP2.out, ← HP1.out, IntWalk.i64_left, IntWalk.wrap64_in _ ⟨by omega, by omega⟩]; omega
              have f5 : (j : Int) % (n : Int) = (rm : Int) := by rw [← HRM.out]; rfl
              have f5' : (j : Int).tmod (n : Int) = (rm : Int) := by rw [Int.tmod_eq_emod_of_nonneg (by omega)]; exact f5
              have f6 : IntKind.i64.wrap ((p2 : Int) - (rm : Int)) = (v : Int) := by rw [← HV.out, ← HP2.out, ← HP1.out, IntWalk.i64_left, IntWalk.wrap64_in _ ⟨by omega, by omega⟩]; omega
              have j5 : IntKind.i64.wrap ((j : Int) + 1) = (j : Int) + 1 := by rw [IntWalk.i64_left, IntWalk.wrap64_in _ ⟨by omega, by omega⟩]
              have hl1 : j < T1.size := by rw [hs1]; exact hjl
              have hl2 : v < T2.size := by rw [hs2]; exact hv
              obtain ⟨y, HY⟩ : ∃ y, Hid ((T1[j]'hl1).toNat = y) := ⟨_, Lib.hid rfl⟩
              have hy1 : (T1[j]'hl1).toNat = y := HY.out
              have hy2 : (T2[v]'hl2).toNat = y := by
                have h1 := HTU.out j hjl
                have h2 := bl_gets T1 j hl1
                have h3 := bl_gets T2 v hl2
                rw [HB1.out.1] at h2
                rw [HB2.out.1] at h3
                have hvv : j / n * n + n - 1 - j % n = v := by rw [HQD.out, HRM.out, HPP.out, HP1.out, HP2.out, HV.out]
                rw [hvv, List.getD_eq_getElem?_getD, List.getD_eq_getElem?_getD, h2, h3, Option.getD_some, Option.getD_some, hy1] at h1
                exact h1.symm
              have g6 : ¬ (i : Int) = 0 := by omega
              have g7 : ¬ i = 0 := by omega
              have g8 : ¬ (n : Int) = 0 := by omega
              have g9 : ¬ n = 0 := by omega
              have q0 : (0 : Int) ≤ (j : Int) := by omega
              have q1 : (j : Int) < (S : Int) := by omega
              have q2 : (0 : Int) ≤ (v : Int) := by omega
              have q3 : (v : Int) < (S : Int) := by omega
              clear hdm hqi hpn hrm
              go_upto_region 32 with (fail)
              refine wp_region_kept (by kernel_rfl) (by kernel_rfl) (QV.out ?_)
              repeat (first
                | (refine kq_skip (by rfl) (fun K hK => ?_); go_simp; refine hK _ ?_; clear hK K)
                | (refine kq_want (by rfl) (fun K hK => ?_); first
                    | (refine BigFrame.quiet_move _ rfl ?_; go_simp; refine hK _ ?_; clear hK K)
                    | (refine kq_still ?_ (fun w' hw' => ?_) ?_; rotate_left; (skip; go_simp; first | done | exact rfl); go_simp; refine hK _ ?_; clear hK K)
                    | (go_simp; apply Exists.intro; refine ⟨fun w' hw' => ?_, hK _ ?_⟩; (first | (fail)); rintro e w'' ⟨rfl, hk''⟩; exact ⟨rfl, hw'.then_ hk''⟩; clear hK K)))
              refine ⟨wpQuiet_nil ?_⟩
              intro w9 hk9
              have HJ9 := Lib.hid (HJ.out.then_ hk9)
              clear hk9
              go_wp2_with (fail)
              exact ⟨⟨j + 1, hjl, rfl, HJ9⟩, by simp [intOf]; omega⟩
            · obtain rfl : j = S := by omega
              have d2 : decide ((j : Int) < (j : Int)) = false := by rw [decide_eq_false_iff_not]; omega
              go_wp2_with (fail)
              go_ret
              exact ⟨rfl, (HKW1.out.then_ HKY7.out).then_ HJ.out⟩
        · have g1 : ((i : Int) == 0) = false := by rw [beq_eq_false_iff_ne]; omega
          have g2 : decide ((i : Int) > 0) = true := by rw [decide_eq_true_iff]; omega
          have g3 : decide (0 < i) = true := by rw [decide_eq_true_iff]; exact hi0
          have g4 : ¬ i = 0 := by omega
          go_wp2_with (fail)
          clear g1 g2 g3 g4
          go_loopw [24] (fun u24 wl => ∃ j : Nat, j ≤ S ∧ u24 = .int .i64 (j : Int) ∧ Hid (Keep nob x7 wl)) (fun u24 _ => S - (intOf u24).toNat)
          case atStart => exact ⟨0, Nat.zero_le _, rfl, HJ7⟩
          case round =>
            obtain ⟨j, hj, rfl, HJ⟩ := hrel
            have hS9 := HS9.out
            rcases Nat.lt_or_ge j S with hjl | hjg
            · have d2 : decide ((j : Int) < (S : Int)) = true := by rw [decide_eq_true_iff]; omega
              have hi1 : 0 < i := by
                rcases Nat.eq_zero_or_pos i with h | h
                · have := HZS.out h; omega
                · exact h
              obtain ⟨qd, HQD⟩ : ∃ qd, Hid (j / n = qd) := ⟨_, Lib.hid rfl⟩
              obtain ⟨rm, HRM⟩ : ∃ rm, Hid (j % n = rm) := ⟨_, Lib.hid rfl⟩
              obtain ⟨pp, HPP⟩ : ∃ pp, Hid (qd * n = pp) := ⟨_, Lib.hid rfl⟩
              have hrm : rm < n := by rw [← HRM.out]; exact Nat.mod_lt _ hn0
              have hdm : pp + rm = j := by rw [← HPP.out, ← HQD.out, ← HRM.out, Nat.mul_comm]; exact Nat.div_add_mod j n
              have hqi : qd < i := by rw [← HQD.out]; exact Nat.div_lt_of_lt_mul (by rw [HS.out]; exact hjl)
              have hpn : pp + n ≤ S := by
                have h1 : (qd + 1) * n ≤ i * n := Nat.mul_le_mul_right n hqi
                rw [Nat.add_mul, HPP.out, Nat.one_mul, Nat.mul_comm i n, HS.out] at h1
                exact h1
              obtain ⟨p1, HP1⟩ : ∃ p1, Hid (pp + n = p1) := ⟨_, Lib.hid rfl⟩
              obtain ⟨p2, HP2⟩ : ∃ p2, Hid (p1 - 1 = p2) := ⟨_, Lib.hid rfl⟩
              obtain ⟨v, HV⟩ : ∃ v, Hid (p2 - rm = v) := ⟨_, Lib.hid rfl⟩
              have hv : v < S := by rw [← HV.out, ← HP2.out, ← HP1.out]; omega
              have f0 : (S : Int) / (i : Int) = (n : Int) := by rw [← HS.out, Int.natCast_mul]; exact Int.mul_ediv_cancel _ (by omega)
              have f0' : (S : Int).tdiv (i : Int) = (n : Int) := by rw [Int.tdiv_eq_ediv_of_nonneg (by omega)]; exact f0
              have f1 : (j : Int) / (n : Int) = (qd : Int) := by rw [← HQD.out]; rfl
              have f1' : (j : Int).tdiv (n : Int) = (qd : Int) := by rw [Int.tdiv_eq_ediv_of_nonneg (by omega)]; exact f1
              have f1w : IntKind.i64.wrap (qd : Int) = (qd : Int) := by rw [IntWalk.i64_left, IntWalk.wrap64_in _ ⟨by omega, by omega⟩]
              have f2 : IntKind.i64.wrap ((qd : Int) * (n : Int)) = (pp : Int) := by rw [← Int.natCast_mul, HPP.out, IntWalk.i64_left, IntWalk.wrap64_in _ ⟨by omega, by omega⟩]
              have f3 : IntKind.i64.wrap ((pp : Int) + (n : Int)) = (p1 : Int) := by rw [← HP1.out, IntWalk.i64_left, IntWalk.wrap64_in _ ⟨by omega, by omega⟩]; omega
              have f4 : IntKind.i64.wrap ((p1 : Int) - 1) = (p2 : Int) := by rw [← HP2.out, ← HP1.out, IntWalk.i64_left, IntWalk.wrap64_in _ ⟨by omega, by omega⟩]; omega
              have f5 : (j : Int) % (n : Int) = (rm : Int) := by rw [← HRM.out]; rfl
              have f5' : (j : Int).tmod (n : Int) = (rm : Int) := by rw [Int.tmod_eq_emod_of_nonneg (by omega)]; exact f5
              have f6 : IntKind.i64.wrap ((p2 : Int) - (rm : Int)) = (v : Int) := by rw [← HV.out, ← HP2.out, ← HP1.out, IntWalk.i64_left, IntWalk.wrap64_in _ ⟨by omega, by omega⟩]; omega
              have j5 : IntKind.i64.wrap ((j : Int) + 1) = (j : Int) + 1 := by rw [IntWalk.i64_left, IntWalk.wrap64_in _ ⟨by omega, by omega⟩]
              have hl1 : j < T1.size := by rw [hs1]; exact hjl
              have hl2 : v < T2.size := by rw [hs2]; exact hv
              obtain ⟨y, HY⟩ : ∃ y, Hid ((T1[j]'hl1).toNat = y) := ⟨_, Lib.hid rfl⟩
              have hy1 : (T1[j]'hl1).toNat = y := HY.out
              have hy2 : (T2[v]'hl2).toNat = y := by
                have h1 := HTU.out j hjl
                have h2 := bl_gets T1 j hl1
                have h3 := bl_gets T2 v hl2
                rw [HB1.out.1] at h2
                rw [HB2.out.1] at h3
                have hvv : j / n * n + n - 1 - j % n = v := by rw [HQD.out, HRM.out, HPP.out, HP1.out, HP2.out, HV.out]
                rw [hvv, List.getD_eq_getElem?_getD, List.getD_eq_getElem?_getD, h2, h3, Option.getD_some, Option.getD_some, hy1] at h1
                exact h1.symm
              have g6 : ¬ (i : Int) = 0 := by omega
              have g7 : ¬ i = 0 := by omega
              have g8 : ¬ (n : Int) = 0 := by omega
              have g9 : ¬ n = 0 := by omega
              have q0 : (0 : Int) ≤ (j : Int) := by omega
              have q1 : (j : Int) < (S : Int) := by omega
              have q2 : (0 : Int) ≤ (v : Int) := by omega
              have q3 : (v : Int) < (S : Int) := by omega
              clear hdm hqi hpn hrm
              go_upto_region 32 with (fail)
              refine wp_region_kept (by kernel_rfl) (by kernel_rfl) (QV.out ?_)
              repeat (first
                | (refine kq_skip (by rfl) (fun K hK => ?_); go_simp; refine hK _ ?_; clear hK K)
                | (refine kq_want (by rfl) (fun K hK => ?_); first
                    | (refine BigFrame.quiet_move _ rfl ?_; go_simp; refine hK _ ?_; clear hK K)
                    | (refine kq_still ?_ (fun w' hw' => ?_) ?_; rotate_left; (skip; go_simp; first | done | exact rfl); go_simp; refine hK _ ?_; clear hK K)
                    | (go_simp; apply Exists.intro; refine ⟨fun w' hw' => ?_, hK _ ?_⟩; (first | (fail)); rintro e w'' ⟨rfl, hk''⟩; exact ⟨rfl, hw'.then_ hk''⟩; clear hK K)))
              refine ⟨wpQuiet_nil ?_⟩
              intro w9 hk9
              have HJ9 := Lib.hid (HJ.out.then_ hk9)
              clear hk9
              go_wp2_with (fail)
              exact ⟨⟨j + 1, hjl, rfl, HJ9⟩, by simp [intOf]; omega⟩
            · obtain rfl : j = S := by omega
              have d2 : decide ((j : Int) < (j : Int)) = false := by rw [decide_eq_false_iff_not]; omega
              go_wp2_with (fail)
              go_ret
              exact ⟨rfl, (HKW1.out.then_ HKY7.out).then_ HJ.out⟩
end Go.Proofs.YteekndchkgdccaaGreatDoor
