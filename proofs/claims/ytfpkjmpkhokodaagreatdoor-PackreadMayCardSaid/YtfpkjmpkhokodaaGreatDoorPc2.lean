/- PackreadMay: the walk of the law. Printed by mkll. -/
import Derived.Test.YtfpkjmpkhokodaaGreatDoorPc1
namespace Go.Proofs.YtfpkjmpkhokodaaGreatDoor
open Go.RowKit

theorem may_kids {W : World} {D : Nat → Prop} {r : Raw} {k : Nat} {u v : V} (h : Tr W D r (.mk k 0 false [] 0 0 ⟨#[]⟩ [u, v])) : r.kL = 2 ∧ ∃ kb ko q0 q1, r.kA = some ⟨kb, ko, none⟩ ∧ W.rangeAt kb ko (ER.cells q0) ∧ W.rangeAt kb (ko + 8) (ER.cells q1) ∧ Tr W D q0 u ∧ Tr W D q1 v := by
  unfold Tr at h
  obtain ⟨hk, -, -, -, -, -, -, rs, h1, h2, -, h4⟩ := h
  have hl := h4.len
  match rs, hl, h1, h2, h4 with
  | [ra, rb], _, h1, h2, h4 =>
    obtain ⟨kb, ko, e, hr⟩ := h2.at_ (by simp)
    unfold TrL at h4
    obtain ⟨k1, h4⟩ := h4
    unfold TrL at h4
    obtain ⟨k2, -⟩ := h4
    simp only [El.flat_cons, El.flat_nil, List.append_nil, range_app] at hr
    exact ⟨h1, kb, ko, ra, rb, e, hr.1, hr.2, k1, k2⟩
theorem bt146 : (⟨#[146, 0]⟩ : ByteArray) = Bt [146, 0] := by rfl
theorem bt223 : (⟨#[223, 0, 0, 0, 1, 161, 107]⟩ : ByteArray) = Bt [223, 0, 0, 0, 1, 161, 107] := by rfl
theorem bt107 : (⟨#[107]⟩ : ByteArray) = Bt [107] := by rfl
set_option maxRecDepth 100000 in
set_option maxHeartbeats 8000000 in
theorem lawM_bf (a b : ByteArray) (hs : a.size + b.size ≤ 524288) (v : V) (qa : Nat) (hX : readN Wd a = .ok v qa) (v2 : V) (qb : Nat) (hY : readN Wd b = .ok v2 qb) (hE : depV v ≤ 127) (B : Nat) (sa : Nat → Addr) (w : World) (g : GL B sa w) : Calls Tryz.prog 5 #[.string a, .string b] w fun e w' => e = .returned (.bool true) ∧ Keep nob w w' := by
  have hd1 : decide ((a.size : Int) + (b.size : Int) > 524288) = false := by rw [decide_eq_false_iff_not]; omega
  have hd2 : decide (524288 < (a.size : Int) + (b.size : Int)) = false := by rw [decide_eq_false_iff_not]; omega
  have i1 : IntKind.i64.wrap ((a.size : Int) + (b.size : Int)) = (a.size : Int) + (b.size : Int) := by rw [IntWalk.i64_left, IntWalk.wrap64_in _ ⟨by omega, by omega⟩]
  have qab : (9223372036854775807 < a.size + b.size) = False := eq_false (by omega)
  have q2a : (9223372036854775807 < 2 + a.size) = False := eq_false (by omega)
  have q7a : (9223372036854775807 < 7 + a.size) = False := eq_false (by omega)
  have HG := Lib.hid g
  have HV := read_own hX
  have HT := read_tx (by omega) hX
  have HD := read_dep flatWd hX
  have HSM := Lib.hid (fun (W : World) (r r' : Raw) (D D' : Nat → Prop) (h : Tr W D r v) (h' : Tr W D' r' v) => same_ok v r r' D D' W h h')
  have HCK := Lib.hid (fun (W : World) (r : Raw) (D : Nat → Prop) (g : GL B sa W) (h : Tr W D r v) (hb : ∀ b, D b → b < W.heap.size) => check_ok v HV.1 HT.2 HT.1 HD r D B sa W g h hb)
  have HOT := Lib.hid (fun (W : World) (r : Raw) (D : Nat → Prop) (h : Tr W D r v) => other_ok v HV.2 r D W h)
  have HDP := Lib.hid (fun (W : World) (r : Raw) (D : Nat → Prop) (h : Tr W D r v) => depth_ok v r D W h (by omega))
  have HLV : Hid (∀ W, Keep nob w W → Calls Tryz.prog 10 #[] W fun e w' => e = .returned (.bool true) ∧ Keep nob W w') := Lib.hid (fun W hk => lives_ok B sa W (HG.out.keep hk (fun _ h => h.elim)))
  have R1 : Hid (Calls Tryz.prog 7 #[.string a] w (fun e w2 => Keep nob w w2 ∧ ∃ r : Raw, e = .returned (.tuple #[.agg #[.int .i8 (r.kind : Int), .int .u64 (r.n : Int), .bool r.neg, .slice r.mA r.mL r.mC, .int .u64 (r.bits : Int), .int .i8 r.ext, .string r.text, .slice r.kA r.kL r.kC], .nilIface]) ∧ Tr w2 (fun k => w.heap.size ≤ k) r v)) := by
    have h := read_ok a (by omega) B sa w g
    rw [hX] at h
    exact Lib.hid h
  have N1 : Hid (∀ W, Keep nob w W → Calls Tryz.prog 17 #[.string (a ++ b), .int .i64 0] W (fun e w2 => Keep nob W w2 ∧ ∃ r : Raw, e = .returned (.tuple #[.agg #[.int .i8 (r.kind : Int), .int .u64 (r.n : Int), .bool r.neg, .slice r.mA r.mL r.mC, .int .u64 (r.bits : Int), .int .i8 r.ext, .string r.text, .slice r.kA r.kL r.kC], .int .i64 (a.size : Int), .nilIface]) ∧ Tr w2 (fun k => W.heap.size ≤ k) r v)) := by
    refine Lib.hid (fun W k => ?_)
    have h := next_ok (a ++ b) 0 (Nat.zero_le _) (by rw [ByteArray.size_append]; omega) B sa W (g.keep k (fun _ h => h.elim))
    rw [may_first hX] at h
    exact h
  have R2 : Hid (∀ W, Keep nob w W → Calls Tryz.prog 7 #[.string b] W (fun e w2 => Keep nob W w2 ∧ ∃ r : Raw, e = .returned (.tuple #[.agg #[.int .i8 (r.kind : Int), .int .u64 (r.n : Int), .bool r.neg, .slice r.mA r.mL r.mC, .int .u64 (r.bits : Int), .int .i8 r.ext, .string r.text, .slice r.kA r.kL r.kC], .nilIface]) ∧ Tr w2 (fun k => W.heap.size ≤ k) r v2)) := by
    refine Lib.hid (fun W k => ?_)
    have h := read_ok b (by omega) B sa W (g.keep k (fun _ h => h.elim))
    rw [hY] at h
    exact h
  have N2 : Hid (∀ W, Keep nob w W → Calls Tryz.prog 17 #[.string (a ++ b), .int .i64 (a.size : Int)] W (fun e w2 => Keep nob W w2 ∧ ∃ r : Raw, e = .returned (.tuple #[.agg #[.int .i8 (r.kind : Int), .int .u64 (r.n : Int), .bool r.neg, .slice r.mA r.mL r.mC, .int .u64 (r.bits : Int), .int .i8 r.ext, .string r.text, .slice r.kA r.kL r.kC], .int .i64 ((a.size : Int) + (b.size : Int)), .nilIface]) ∧ Tr w2 (fun k => W.heap.size ≤ k) r v2)) := by
    refine Lib.hid (fun W k => ?_)
    have h := next_ok (a ++ b) a.size (by rw [ByteArray.size_append]; omega) (by rw [ByteArray.size_append]; omega) B sa W (g.keep k (fun _ h => h.elim))
    rw [may_last hY] at h
    exact h
  have HSM2 := Lib.hid (fun (W : World) (r r' : Raw) (D D' : Nat → Prop) (h : Tr W D r v2) (h' : Tr W D' r' v2) => same_ok v2 r r' D D' W h h')
  have R3 : Hid (∀ W, Keep nob w W → Calls Tryz.prog 7 #[.string (⟨#[146, 0]⟩ ++ a)] W (fun e w2 => Keep nob W w2 ∧ ∃ (r : Raw) (kb ko : Nat) (q1 : Raw), e = .returned (.tuple #[.agg #[.int .i8 (r.kind : Int), .int .u64 (r.n : Int), .bool r.neg, .slice r.mA r.mL r.mC, .int .u64 (r.bits : Int), .int .i8 r.ext, .string r.text, .slice (some ⟨kb, ko, none⟩) 2 r.kC], .nilIface]) ∧ w2.rangeAt kb (ko + 8) (ER.cells q1) ∧ Tr w2 (fun k => W.heap.size ≤ k) q1 v)) := by
    refine Lib.hid (fun W k => ?_)
    have h := read_ok (Bt [146, 0] ++ a) (by rw [ByteArray.size_append, Bt_size]; simp only [List.length_cons, List.length_nil]; omega) B sa W (g.keep k (fun _ h => h.elim))
    rw [(may_list hX).1 hE] at h
    rw [bt146]
    refine h.mono fun e w2 hp => ?_
    obtain ⟨h1, r, rfl, h3⟩ := hp
    obtain ⟨hl, kb, ko, q0, q1, e1, -, h5, -, h7⟩ := may_kids h3
    exact ⟨h1, r, kb, ko, q1, by simp only [ER, hl, e1], h5, h7⟩
  have R4 : Hid (∀ W, Keep nob w W → Calls Tryz.prog 7 #[.string (⟨#[223, 0, 0, 0, 1, 161, 107]⟩ ++ a)] W (fun e w2 => Keep nob W w2 ∧ ∃ (r : Raw) (kb ko : Nat) (q1 : Raw), e = .returned (.tuple #[.agg #[.int .i8 (r.kind : Int), .int .u64 (r.n : Int), .bool r.neg, .slice r.mA r.mL r.mC, .int .u64 (r.bits : Int), .int .i8 r.ext, .string r.text, .slice (some ⟨kb, ko, none⟩) 2 r.kC], .nilIface]) ∧ w2.rangeAt kb (ko + 8) (ER.cells q1) ∧ Tr w2 (fun k => W.heap.size ≤ k) q1 v ∧ w2.cell? ⟨kb, ko + 6, none⟩ = some (.string ⟨#[107]⟩))) := by
    refine Lib.hid (fun W k => ?_)
    have h := read_ok (Bt [223, 0, 0, 0, 1, 161, 107] ++ a) (by rw [ByteArray.size_append, Bt_size]; simp only [List.length_cons, List.length_nil]; omega) B sa W (g.keep k (fun _ h => h.elim))
    rw [(may_map hX).1 hE] at h
    rw [bt223]
    refine h.mono fun e w2 hp => ?_
    obtain ⟨h1, r, rfl, h3⟩ := hp
    obtain ⟨hl, kb, ko, q0, q1, e1, h4, h5, h6, h7⟩ := may_kids h3
    obtain ⟨-, -, -, -, -, -, c6, -⟩ := cells_val' h4
    unfold V.tex Tr at h6
    rw [h6.2.2.2.2.2.1, ← bt107] at c6
    exact ⟨h1, r, kb, ko, q1, by simp only [ER, hl, e1], h5, h7, c6⟩
  obtain ⟨dv, HDV⟩ : ∃ dv : Nat, Hid (depV v = dv) := ⟨_, Lib.hid rfl⟩
  rw [HDV.out] at HDP hE
  have hdv : ((dv : Int) == 128) = false := by rw [beq_eq_false_iff_ne]; omega
  clear g hX HV HT HD hs hY hE
  go_enter Tryz.func5, Tryz.ntmps5
  go_upto_region 4 with (go_at_call 7; go_must (refine R1.out.mono ?_); rintro e w1 ⟨hk1, q1, rfl, ht1⟩; have HK1 := Lib.hid hk1; have HT1 := Lib.hid ht1; clear hk1 ht1)
  obtain ⟨x1, HX1⟩ : ∃ x1, Hid (w1.alloc (.cells #[.int .i8 (q1.kind : Int), .int .u64 (q1.n : Int), .bool q1.neg, .slice q1.mA q1.mL q1.mC, .int .u64 (q1.bits : Int), .int .i8 q1.ext, .string q1.text, .slice q1.kA q1.kL q1.kC] 31) = x1) := ⟨_, Lib.hid rfl⟩
  obtain ⟨b1, HB1⟩ : ∃ b1, Hid (w1.heap.size = b1) := ⟨_, Lib.hid rfl⟩
  have HA1 : Hid (Keep nob w1 x1) := by unfold Hid; rw [← HX1.out]; exact (Keep.refl _ _).alloc _
  have HN1 := Lib.hid (range_new w1 q1 31)
  rw [show w1.alloc (.cells (ER.cells q1).toArray 31) = x1 from HX1.out, HB1.out] at HN1
  rw [HX1.out, HB1.out]
  have HW1 : Hid (Keep nob w x1) := Lib.hid (HK1.out.then_ HA1.out)
  have HTX1 : Hid (∀ W, Keep nob x1 W → Tr W (fun k => w.heap.size ≤ k ∧ k < w1.heap.size) q1 v) := Lib.hid (fun W k => Tr.keep (HA1.out.then_ k) (nobD _) _ _ (Tr.mono (fun b h1 h2 => ⟨h2, h1⟩) _ _ HT1.out))
  obtain ⟨a0, a1, a2, a3, a4, a5, a6, a7⟩ := cells_val HN1.out
  go_upto_region 8 with (first | (go_at_call 15; go_must (refine (HCK.out _ q1 _ (HG.out.keep HW1.out (fun _ h => h.elim)) (HTX1.out _ (Keep.refl _ _)) (fun b hb => by have := HA1.out.size; omega)).mono ?_); rintro e w2 ⟨rfl, hk2⟩; have HK2 := Lib.hid hk2; obtain ⟨a0, a1, a2, a3, a4, a5, a6, a7⟩ := cells_val (range_keep hk2 HN1.out); clear hk2) | (go_at_call 16; go_must (refine (HOT.out _ q1 _ (HTX1.out _ HK2.out)).mono ?_); rintro e w3 ⟨rfl, hk3⟩; have HK3 := Lib.hid (HK2.out.then_ hk3); clear hk3))
  go_upto_region 9 with (go_at_call 17; go_must (refine (N1.out _ (HW1.out.then_ HK3.out)).mono ?_); rintro e w4 ⟨hk4, q2, rfl, ht2⟩; have HK4 := Lib.hid (HK3.out.then_ hk4); have HT2 := Lib.hid ht2; clear hk4 ht2)
  obtain ⟨x2, HX2⟩ : ∃ x2, Hid (w4.alloc (.cells #[.int .i8 (q2.kind : Int), .int .u64 (q2.n : Int), .bool q2.neg, .slice q2.mA q2.mL q2.mC, .int .u64 (q2.bits : Int), .int .i8 q2.ext, .string q2.text, .slice q2.kA q2.kL q2.kC] 31) = x2) := ⟨_, Lib.hid rfl⟩
  obtain ⟨b2, HB2⟩ : ∃ b2, Hid (w4.heap.size = b2) := ⟨_, Lib.hid rfl⟩
  have HA2 : Hid (Keep nob w4 x2) := by unfold Hid; rw [← HX2.out]; exact (Keep.refl _ _).alloc _
  have HN2 := Lib.hid (range_new w4 q2 31)
  rw [show w4.alloc (.cells (ER.cells q2).toArray 31) = x2 from HX2.out, HB2.out] at HN2
  rw [HX2.out, HB2.out]
  have HX2 : Hid (Keep nob x1 x2) := Lib.hid (HK4.out.then_ HA2.out)
  clear a0 a1 a2 a3 a4 a5 a6 a7
  obtain ⟨a0, a1, a2, a3, a4, a5, a6, a7⟩ := cells_val (range_keep HX2.out HN1.out)
  obtain ⟨c0, c1, c2, c3, c4, c5, c6, c7⟩ := cells_val HN2.out
  have HS2 := HSM.out x2 q2 q1 _ _ (Tr.keep HA2.out (nobD _) _ _ HT2.out) (HTX1.out _ HX2.out)
  simp only [ER] at HS2
  have HS2 := Lib.hid HS2
  go_upto_region 11 with (go_at_call 14; go_must (refine HS2.out.mono ?_); rintro e w5 ⟨rfl, hk5⟩; have HK5 := Lib.hid (HX2.out.then_ hk5); clear hk5)
  clear c0 c1 c2 c3 c4 c5 c6 c7
  go_upto_region 12 with (go_at_call 7; go_must (refine (R2.out _ (HW1.out.then_ HK5.out)).mono ?_); rintro e w6 ⟨hk6, q3, rfl, ht3⟩; have HK6 := Lib.hid (HK5.out.then_ hk6); have HT3 := Lib.hid ht3; clear hk6 ht3)
  obtain ⟨x3, HX3⟩ : ∃ x3, Hid (w6.alloc (.cells #[.int .i8 (q3.kind : Int), .int .u64 (q3.n : Int), .bool q3.neg, .slice q3.mA q3.mL q3.mC, .int .u64 (q3.bits : Int), .int .i8 q3.ext, .string q3.text, .slice q3.kA q3.kL q3.kC] 31) = x3) := ⟨_, Lib.hid rfl⟩
  obtain ⟨b3, HB3⟩ : ∃ b3, Hid (w6.heap.size = b3) := ⟨_, Lib.hid rfl⟩
  have HA3 : Hid (Keep nob w6 x3) := by unfold Hid; rw [← HX3.out]; exact (Keep.refl _ _).alloc _
  have HN3 := Lib.hid (range_new w6 q3 31)
  rw [show w6.alloc (.cells (ER.cells q3).toArray 31) = x3 from HX3.out, HB3.out] at HN3
  rw [HX3.out, HB3.out]
  have HX3 : Hid (Keep nob x1 x3) := Lib.hid (HK6.out.then_ HA3.out)
  go_upto_region 13 with (go_at_call 17; go_must (refine (N2.out _ (HW1.out.then_ HX3.out)).mono ?_); rintro e w7 ⟨hk7, q4, rfl, ht4⟩; have HK7 := Lib.hid hk7; have HT4 := Lib.hid ht4; clear hk7 ht4)
  obtain ⟨x4, HX4⟩ : ∃ x4, Hid (w7.alloc (.cells #[.int .i8 (q4.kind : Int), .int .u64 (q4.n : Int), .bool q4.neg, .slice q4.mA q4.mL q4.mC, .int .u64 (q4.bits : Int), .int .i8 q4.ext, .string q4.text, .slice q4.kA q4.kL q4.kC] 31) = x4) := ⟨_, Lib.hid rfl⟩
  obtain ⟨b4, HB4⟩ : ∃ b4, Hid (w7.heap.size = b4) := ⟨_, Lib.hid rfl⟩
  have HA4 : Hid (Keep nob w7 x4) := by unfold Hid; rw [← HX4.out]; exact (Keep.refl _ _).alloc _
  have HN4 := Lib.hid (range_new w7 q4 31)
  rw [show w7.alloc (.cells (ER.cells q4).toArray 31) = x4 from HX4.out, HB4.out] at HN4
  rw [HX4.out, HB4.out]
  have HX4 : Hid (Keep nob x1 x4) := Lib.hid (HX3.out.then_ (HK7.out.then_ HA4.out))
  obtain ⟨c0, c1, c2, c3, c4, c5, c6, c7⟩ := cells_val HN4.out
  obtain ⟨e0, e1, e2, e3, e4, e5, e6, e7⟩ := cells_val (range_keep (HK7.out.then_ HA4.out) HN3.out)
  have HS4 := HSM2.out x4 q4 q3 _ _ (Tr.keep HA4.out (nobD _) _ _ HT4.out) (Tr.keep (HA3.out.then_ (HK7.out.then_ HA4.out)) (nobD _) _ _ HT3.out)
  simp only [ER] at HS4
  have HS4 := Lib.hid HS4
  go_upto_region 15 with (go_at_call 14; go_must (refine HS4.out.mono ?_); rintro e w8 ⟨rfl, hk8⟩; have HK8 := Lib.hid (HX4.out.then_ hk8); clear hk8)
  clear c0 c1 c2 c3 c4 c5 c6 c7 e0 e1 e2 e3 e4 e5 e6 e7
  go_upto_region 16 with (go_at_call 7; go_must (refine (R3.out _ (HW1.out.then_ HK8.out)).mono ?_); rintro e w9 ⟨hk9, q5, k5, o5, r5, rfl, hr5, ht5⟩; have HK9 := Lib.hid (HK8.out.then_ hk9); have HR5 := Lib.hid hr5; have HT5 := Lib.hid ht5; clear hk9 hr5 ht5)
  obtain ⟨x5, HX5⟩ : ∃ x5, Hid (w9.alloc (.cells #[.int .i8 (q5.kind : Int), .int .u64 (q5.n : Int), .bool q5.neg, .slice q5.mA q5.mL q5.mC, .int .u64 (q5.bits : Int), .int .i8 q5.ext, .string q5.text, .slice (some ⟨k5, o5, none⟩) 2 q5.kC] 31) = x5) := ⟨_, Lib.hid rfl⟩
  obtain ⟨b5, HB5⟩ : ∃ b5, Hid (w9.heap.size = b5) := ⟨_, Lib.hid rfl⟩
  have HA5 : Hid (Keep nob w9 x5) := by unfold Hid; rw [← HX5.out]; exact (Keep.refl _ _).alloc _
  have HN5 := Lib.hid (range_new w9 (⟨q5.kind, q5.n, q5.neg, q5.mA, q5.mL, q5.mC, q5.bits, q5.ext, q5.text, some ⟨k5, o5, none⟩, 2, q5.kC⟩ : Raw) 31)
  rw [show w9.alloc (.cells (ER.cells (⟨q5.kind, q5.n, q5.neg, q5.mA, q5.mL, q5.mC, q5.bits, q5.ext, q5.text, some ⟨k5, o5, none⟩, 2, q5.kC⟩ : Raw)).toArray 31) = x5 from HX5.out, HB5.out] at HN5
  rw [HX5.out, HB5.out]
  have HX5 : Hid (Keep nob x1 x5) := Lib.hid (HK9.out.then_ HA5.out)
  go_upto_region 17 with (go_at_call 7; go_must (refine (R4.out _ (HW1.out.then_ HX5.out)).mono ?_); rintro e w10 ⟨hk10, q6, k6, o6, r6, rfl, hr6, ht6, hc6⟩; have HK10 := Lib.hid hk10; have HR6 := Lib.hid hr6; have HT6 := Lib.hid ht6; have HC6 := Lib.hid hc6; clear hk10 hr6 ht6 hc6)
  obtain ⟨x6, HX6⟩ : ∃ x6, Hid (w10.alloc (.cells #[.int .i8 (q6.kind : Int), .int .u64 (q6.n : Int), .bool q6.neg, .slice q6.mA q6.mL q6.mC, .int .u64 (q6.bits : Int), .int .i8 q6.ext, .string q6.text, .slice (some ⟨k6, o6, none⟩) 2 q6.kC] 31) = x6) := ⟨_, Lib.hid rfl⟩
  obtain ⟨b6, HB6⟩ : ∃ b6, Hid (w10.heap.size = b6) := ⟨_, Lib.hid rfl⟩
  have HA6 : Hid (Keep nob w10 x6) := by unfold Hid; rw [← HX6.out]; exact (Keep.refl _ _).alloc _
  have HN6 := Lib.hid (range_new w10 (⟨q6.kind, q6.n, q6.neg, q6.mA, q6.mL, q6.mC, q6.bits, q6.ext, q6.text, some ⟨k6, o6, none⟩, 2, q6.kC⟩ : Raw) 31)
  rw [show w10.alloc (.cells (ER.cells (⟨q6.kind, q6.n, q6.neg, q6.mA, q6.mL, q6.mC, q6.bits, q6.ext, q6.text, some ⟨k6, o6, none⟩, 2, q6.kC⟩ : Raw)).toArray 31) = x6 from HX6.out, HB6.out] at HN6
  rw [HX6.out, HB6.out]
  have HX56 : Hid (Keep nob x5 x6) := Lib.hid (HK10.out.then_ HA6.out)
  have HX6 : Hid (Keep nob x1 x6) := Lib.hid (HX5.out.then_ HX56.out)
  clear a0 a1 a2 a3 a4 a5 a6 a7
  obtain ⟨a0, a1, a2, a3, a4, a5, a6, a7⟩ := cells_val (range_keep HX6.out HN1.out)
  have HD6 := HDP.out x6 q1 _ (HTX1.out _ HX6.out)
  simp only [ER] at HD6
  have HD6 := Lib.hid HD6
  clear a0 a1 a2 a3 a4 a5 a6 a7
  obtain ⟨a0, a1, a2, a3, a4, a5, a6, a7⟩ := cells_val (range_keep HX6.out HN1.out)
  go_upto_region 19 with (go_at_call 18; go_must (refine HD6.out.mono ?_); rintro e w11 ⟨rfl, hk11⟩; have HK11 := Lib.hid hk11; clear hk11)
  have HM1 := Lib.hid (range_keep (HX6.out.then_ HK11.out) HN1.out)
  have HM5 := Lib.hid (range_keep (HX56.out.then_ HK11.out) HN5.out)
  have HM6 := Lib.hid (range_keep HK11.out HN6.out)
  have HM5k := Lib.hid (range_keep (HA5.out.then_ (HX56.out.then_ HK11.out)) HR5.out)
  have HM6k := Lib.hid (range_keep (HA6.out.then_ HK11.out) HR6.out)
  have HM6c := Lib.hid ((HA6.out.then_ HK11.out).cell HC6.out (fun h => h))
  obtain ⟨-, -, -, -, -, -, -, m57⟩ := cells_val HM5.out
  obtain ⟨-, -, -, -, -, -, -, m67⟩ := cells_val HM6.out
  dsimp only at m57 m67
  clear a0 a1 a2 a3 a4 a5 a6 a7
  go_upto_region 21 with (fail)
  have S5 := fun (W : World) (k : Keep nob w11 W) => HSM.out W r5 q1 _ _ (Tr.keep (HA5.out.then_ (HX56.out.then_ (HK11.out.then_ k))) (nobD _) _ _ HT5.out) (HTX1.out _ (HX6.out.then_ (HK11.out.then_ k)))
  have S6 := fun (W : World) (k : Keep nob w11 W) => HSM.out W r6 q1 _ _ (Tr.keep (HA6.out.then_ (HK11.out.then_ k)) (nobD _) _ _ HT6.out) (HTX1.out _ (HX6.out.then_ (HK11.out.then_ k)))
  simp only [ER] at S5 S6
  have S5 := Lib.hid S5
  have S6 := Lib.hid S6
  have L9 := Lib.hid (fun (W : World) (k : Keep nob w11 W) => HLV.out W (HW1.out.then_ (HX6.out.then_ (HK11.out.then_ k))))
  clear m57 m67
  refine wp_region_kept (by kernel_rfl) (by kernel_rfl) (QV.out ?_)
  repeat (first
    | (refine kq_skip (by rfl) (fun K hK => ?_); go_simp; refine hK _ ?_; clear hK K)
    | (refine kq_want (by rfl) (fun K hK => ?_); first
        | (refine BigFrame.quiet_move _ rfl ?_; go_simp; refine hK _ ?_; clear hK K)
        | (refine kq_still ?_ (fun w' hw' => ?_) ?_; rotate_left; (obtain ⟨a0, a1, a2, a3, a4, a5, a6, a7⟩ := cells_val (range_keep hw' HM1.out); obtain ⟨-, -, -, -, -, -, -, m57⟩ := cells_val (range_keep hw' HM5.out); obtain ⟨-, -, -, -, -, -, -, m67⟩ := cells_val (range_keep hw' HM6.out); dsimp only at m57 m67; obtain ⟨e0, e1, e2, e3, e4, e5, e6, e7⟩ := cells_val' (range_keep hw' HM5k.out); obtain ⟨g0, g1, g2, g3, g4, g5, g6, g7⟩ := cells_val' (range_keep hw' HM6k.out); have m6c := hw'.cell HM6c.out (fun h => h); go_simp; first | done | exact rfl); go_simp; refine hK _ ?_; clear hK K)
        | (go_simp; apply Exists.intro; refine ⟨fun w' hw' => ?_, hK _ ?_⟩; (first | (go_at_call 14; have hx : Keep nob w11 w' := hw'; (with_reducible refine (S5.out w' hx).mono ?_)) | (go_at_call 14; have hx : Keep nob w11 w' := hw'; (with_reducible refine (S6.out w' hx).mono ?_)) | (go_at_call 10; refine (L9.out w' hw').mono ?_)); rintro e w'' ⟨rfl, hk''⟩; exact ⟨rfl, hw'.then_ hk''⟩; clear hK K)))
  refine ⟨wpQuiet_nil ?_⟩
  intro w12 hk12
  go_wp2
  go_ret
  exact ⟨rfl, HW1.out.then_ (HX6.out.then_ (HK11.out.then_ hk12))⟩
set_option maxRecDepth 100000 in
set_option maxHeartbeats 8000000 in
theorem lawM_bd (a b : ByteArray) (hs : a.size + b.size ≤ 524288) (v : V) (qa : Nat) (hX : readN Wd a = .ok v qa) (v2 : V) (qb : Nat) (hY : readN Wd b = .ok v2 qb) (hE : depV v = 128) (B : Nat) (sa : Nat → Addr) (w : World) (g : GL B sa w) : Calls Tryz.prog 5 #[.string a, .string b] w fun e w' => e = .returned (.bool true) ∧ Keep nob w w' := by
  have hd1 : decide ((a.size : Int) + (b.size : Int) > 524288) = false := by rw [decide_eq_false_iff_not]; omega
  have hd2 : decide (524288 < (a.size : Int) + (b.size : Int)) = false := by rw [decide_eq_false_iff_not]; omega
  have i1 : IntKind.i64.wrap ((a.size : Int) + (b.size : Int)) = (a.size : Int) + (b.size : Int) := by rw [IntWalk.i64_left, IntWalk.wrap64_in _ ⟨by omega, by omega⟩]
  have qab : (9223372036854775807 < a.size + b.size) = False := eq_false (by omega)
  have q2a : (9223372036854775807 < 2 + a.size) = False := eq_false (by omega)
  have q7a : (9223372036854775807 < 7 + a.size) = False := eq_false (by omega)
  have HG := Lib.hid g
  have HV := read_own hX
  have HT := read_tx (by omega) hX
  have HD := read_dep flatWd hX
  have HSM := Lib.hid (fun (W : World) (r r' : Raw) (D D' : Nat → Prop) (h : Tr W D r v) (h' : Tr W D' r' v) => same_ok v r r' D D' W h h')
  have HCK := Lib.hid (fun (W : World) (r : Raw) (D : Nat → Prop) (g : GL B sa W) (h : Tr W D r v) (hb : ∀ b, D b → b < W.heap.size) => check_ok v HV.1 HT.2 HT.1 HD r D B sa W g h hb)
  have HOT := Lib.hid (fun (W : World) (r : Raw) (D : Nat → Prop) (h : Tr W D r v) => other_ok v HV.2 r D W h)
  have HDP := Lib.hid (fun (W : World) (r : Raw) (D : Nat → Prop) (h : Tr W D r v) => depth_ok v r D W h (by omega))
  have HLV : Hid (∀ W, Keep nob w W → Calls Tryz.prog 10 #[] W fun e w' => e = .returned (.bool true) ∧ Keep nob W w') := Lib.hid (fun W hk => lives_ok B sa W (HG.out.keep hk (fun _ h => h.elim)))
  have R1 : Hid (Calls Tryz.prog 7 #[.string a] w (fun e w2 => Keep nob w w2 ∧ ∃ r : Raw, e = .returned (.tuple #[.agg #[.int .i8 (r.kind : Int), .int .u64 (r.n : Int), .bool r.neg, .slice r.mA r.mL r.mC, .int .u64 (r.bits : Int), .int .i8 r.ext, .string r.text, .slice r.kA r.kL r.kC], .nilIface]) ∧ Tr w2 (fun k => w.heap.size ≤ k) r v)) := by
    have h := read_ok a (by omega) B sa w g
    rw [hX] at h
    exact Lib.hid h
  have N1 : Hid (∀ W, Keep nob w W → Calls Tryz.prog 17 #[.string (a ++ b), .int .i64 0] W (fun e w2 => Keep nob W w2 ∧ ∃ r : Raw, e = .returned (.tuple #[.agg #[.int .i8 (r.kind : Int), .int .u64 (r.n : Int), .bool r.neg, .slice r.mA r.mL r.mC, .int .u64 (r.bits : Int), .int .i8 r.ext, .string r.text, .slice r.kA r.kL r.kC], .int .i64 (a.size : Int), .nilIface]) ∧ Tr w2 (fun k => W.heap.size ≤ k) r v)) := by
    refine Lib.hid (fun W k => ?_)
    have h := next_ok (a ++ b) 0 (Nat.zero_le _) (by rw [ByteArray.size_append]; omega) B sa W (g.keep k (fun _ h => h.elim))
    rw [may_first hX] at h
    exact h
  have R2 : Hid (∀ W, Keep nob w W → Calls Tryz.prog 7 #[.string b] W (fun e w2 => Keep nob W w2 ∧ ∃ r : Raw, e = .returned (.tuple #[.agg #[.int .i8 (r.kind : Int), .int .u64 (r.n : Int), .bool r.neg, .slice r.mA r.mL r.mC, .int .u64 (r.bits : Int), .int .i8 r.ext, .string r.text, .slice r.kA r.kL r.kC], .nilIface]) ∧ Tr w2 (fun k => W.heap.size ≤ k) r v2)) := by
    refine Lib.hid (fun W k => ?_)
    have h := read_ok b (by omega) B sa W (g.keep k (fun _ h => h.elim))
    rw [hY] at h
    exact h
  have N2 : Hid (∀ W, Keep nob w W → Calls Tryz.prog 17 #[.string (a ++ b), .int .i64 (a.size : Int)] W (fun e w2 => Keep nob W w2 ∧ ∃ r : Raw, e = .returned (.tuple #[.agg #[.int .i8 (r.kind : Int), .int .u64 (r.n : Int), .bool r.neg, .slice r.mA r.mL r.mC, .int .u64 (r.bits : Int), .int .i8 r.ext, .string r.text, .slice r.kA r.kL r.kC], .int .i64 ((a.size : Int) + (b.size : Int)), .nilIface]) ∧ Tr w2 (fun k => W.heap.size ≤ k) r v2)) := by
    refine Lib.hid (fun W k => ?_)
    have h := next_ok (a ++ b) a.size (by rw [ByteArray.size_append]; omega) (by rw [ByteArray.size_append]; omega) B sa W (g.keep k (fun _ h => h.elim))
    rw [may_last hY] at h
    exact h
  have HSM2 := Lib.hid (fun (W : World) (r r' : Raw) (D D' : Nat → Prop) (h : Tr W D r v2) (h' : Tr W D' r' v2) => same_ok v2 r r' D D' W h h')
  have R3 : Hid (∀ W, Keep nob w W → Calls Tryz.prog 7 #[.string (⟨#[146, 0]⟩ ++ a)] W (fun e w2 => ∃ ev p, e = .returned (.tuple #[.agg #[.int .i8 0, .int .u64 0, .bool false, .slice none 0 0, .int .u64 0, .int .i8 0, .string ⟨#[]⟩, .slice none 0 0], ev]) ∧ Keep nob W w2 ∧ FErr sa w2 (fun k => W.heap.size ≤ k) ev 5 p)) := by
    refine Lib.hid (fun W k => ?_)
    obtain ⟨p, hp⟩ := (may_list hX).2 hE
    have h := read_ok (Bt [146, 0] ++ a) (by rw [ByteArray.size_append, Bt_size]; simp only [List.length_cons, List.length_nil]; omega) B sa W (g.keep k (fun _ h => h.elim))
    rw [hp] at h
    rw [bt146]
    refine h.mono fun e w2 ⟨ev, h1, h2, h3⟩ => ⟨ev, p, h1, h2, h3⟩
  have R4 : Hid (∀ W, Keep nob w W → Calls Tryz.prog 7 #[.string (⟨#[223, 0, 0, 0, 1, 161, 107]⟩ ++ a)] W (fun e w2 => ∃ ev p, e = .returned (.tuple #[.agg #[.int .i8 0, .int .u64 0, .bool false, .slice none 0 0, .int .u64 0, .int .i8 0, .string ⟨#[]⟩, .slice none 0 0], ev]) ∧ Keep nob W w2 ∧ FErr sa w2 (fun k => W.heap.size ≤ k) ev 5 p)) := by
    refine Lib.hid (fun W k => ?_)
    obtain ⟨p, hp⟩ := (may_map hX).2 hE
    have h := read_ok (Bt [223, 0, 0, 0, 1, 161, 107] ++ a) (by rw [ByteArray.size_append, Bt_size]; simp only [List.length_cons, List.length_nil]; omega) B sa W (g.keep k (fun _ h => h.elim))
    rw [hp] at h
    rw [bt223]
    refine h.mono fun e w2 ⟨ev, h1, h2, h3⟩ => ⟨ev, p, h1, h2, h3⟩
  rw [hE] at HDP
  clear g hX HV HT HD hs hY hE
  go_enter Tryz.func5, Tryz.ntmps5
  go_upto_region 4 with (go_at_call 7; go_must (refine R1.out.mono ?_); rintro e w1 ⟨hk1, q1, rfl, ht1⟩; have HK1 := Lib.hid hk1; have HT1 := Lib.hid ht1; clear hk1 ht1)
  obtain ⟨x1, HX1⟩ : ∃ x1, Hid (w1.alloc (.cells #[.int .i8 (q1.kind : Int), .int .u64 (q1.n : Int), .bool q1.neg, .slice q1.mA q1.mL q1.mC, .int .u64 (q1.bits : Int), .int .i8 q1.ext, .string q1.text, .slice q1.kA q1.kL q1.kC] 31) = x1) := ⟨_, Lib.hid rfl⟩
  obtain ⟨b1, HB1⟩ : ∃ b1, Hid (w1.heap.size = b1) := ⟨_, Lib.hid rfl⟩
  have HA1 : Hid (Keep nob w1 x1) := by unfold Hid; rw [← HX1.out]; exact (Keep.refl _ _).alloc _
  have HN1 := Lib.hid (range_new w1 q1 31)
  rw [show w1.alloc (.cells (ER.cells q1).toArray 31) = x1 from HX1.out, HB1.out] at HN1
  rw [HX1.out, HB1.out]
  have HW1 : Hid (Keep nob w x1) := Lib.hid (HK1.out.then_ HA1.out)
  have HTX1 : Hid (∀ W, Keep nob x1 W → Tr W (fun k => w.heap.size ≤ k ∧ k < w1.heap.size) q1 v) := Lib.hid (fun W k => Tr.keep (HA1.out.then_ k) (nobD _) _ _ (Tr.mono (fun b h1 h2 => ⟨h2, h1⟩) _ _ HT1.out))
  obtain ⟨a0, a1, a2, a3, a4, a5, a6, a7⟩ := cells_val HN1.out
  go_upto_region 8 with (first | (go_at_call 15; go_must (refine (HCK.out _ q1 _ (HG.out.keep HW1.out (fun _ h => h.elim)) (HTX1.out _ (Keep.refl _ _)) (fun b hb => by have := HA1.out.size; omega)).mono ?_); rintro e w2 ⟨rfl, hk2⟩; have HK2 := Lib.hid hk2; obtain ⟨a0, a1, a2, a3, a4, a5, a6, a7⟩ := cells_val (range_keep hk2 HN1.out); clear hk2) | (go_at_call 16; go_must (refine (HOT.out _ q1 _ (HTX1.out _ HK2.out)).mono ?_); rintro e w3 ⟨rfl, hk3⟩; have HK3 := Lib.hid (HK2.out.then_ hk3); clear hk3))
  go_upto_region 9 with (go_at_call 17; go_must (refine (N1.out _ (HW1.out.then_ HK3.out)).mono ?_); rintro e w4 ⟨hk4, q2, rfl, ht2⟩; have HK4 := Lib.hid (HK3.out.then_ hk4); have HT2 := Lib.hid ht2; clear hk4 ht2)
  obtain ⟨x2, HX2⟩ : ∃ x2, Hid (w4.alloc (.cells #[.int .i8 (q2.kind : Int), .int .u64 (q2.n : Int), .bool q2.neg, .slice q2.mA q2.mL q2.mC, .int .u64 (q2.bits : Int), .int .i8 q2.ext, .string q2.text, .slice q2.kA q2.kL q2.kC] 31) = x2) := ⟨_, Lib.hid rfl⟩
  obtain ⟨b2, HB2⟩ : ∃ b2, Hid (w4.heap.size = b2) := ⟨_, Lib.hid rfl⟩
  have HA2 : Hid (Keep nob w4 x2) := by unfold Hid; rw [← HX2.out]; exact (Keep.refl _ _).alloc _
  have HN2 := Lib.hid (range_new w4 q2 31)
  rw [show w4.alloc (.cells (ER.cells q2).toArray 31) = x2 from HX2.out, HB2.out] at HN2
  rw [HX2.out, HB2.out]
  have HX2 : Hid (Keep nob x1 x2) := Lib.hid (HK4.out.then_ HA2.out)
  clear a0 a1 a2 a3 a4 a5 a6 a7
  obtain ⟨a0, a1, a2, a3, a4, a5, a6, a7⟩ := cells_val (range_keep HX2.out HN1.out)
  obtain ⟨c0, c1, c2, c3, c4, c5, c6, c7⟩ := cells_val HN2.out
  have HS2 := HSM.out x2 q2 q1 _ _ (Tr.keep HA2.out (nobD _) _ _ HT2.out) (HTX1.out _ HX2.out)
  simp only [ER] at HS2
  have HS2 := Lib.hid HS2
  go_upto_region 11 with (go_at_call 14; go_must (refine HS2.out.mono ?_); rintro e w5 ⟨rfl, hk5⟩; have HK5 := Lib.hid (HX2.out.then_ hk5); clear hk5)
  clear c0 c1 c2 c3 c4 c5 c6 c7
  go_upto_region 12 with (go_at_call 7; go_must (refine (R2.out _ (HW1.out.then_ HK5.out)).mono ?_); rintro e w6 ⟨hk6, q3, rfl, ht3⟩; have HK6 := Lib.hid (HK5.out.then_ hk6); have HT3 := Lib.hid ht3; clear hk6 ht3)
  obtain ⟨x3, HX3⟩ : ∃ x3, Hid (w6.alloc (.cells #[.int .i8 (q3.kind : Int), .int .u64 (q3.n : Int), .bool q3.neg, .slice q3.mA q3.mL q3.mC, .int .u64 (q3.bits : Int), .int .i8 q3.ext, .string q3.text, .slice q3.kA q3.kL q3.kC] 31) = x3) := ⟨_, Lib.hid rfl⟩
  obtain ⟨b3, HB3⟩ : ∃ b3, Hid (w6.heap.size = b3) := ⟨_, Lib.hid rfl⟩
  have HA3 : Hid (Keep nob w6 x3) := by unfold Hid; rw [← HX3.out]; exact (Keep.refl _ _).alloc _
  have HN3 := Lib.hid (range_new w6 q3 31)
  rw [show w6.alloc (.cells (ER.cells q3).toArray 31) = x3 from HX3.out, HB3.out] at HN3
  rw [HX3.out, HB3.out]
  have HX3 : Hid (Keep nob x1 x3) := Lib.hid (HK6.out.then_ HA3.out)
  go_upto_region 13 with (go_at_call 17; go_must (refine (N2.out _ (HW1.out.then_ HX3.out)).mono ?_); rintro e w7 ⟨hk7, q4, rfl, ht4⟩; have HK7 := Lib.hid hk7; have HT4 := Lib.hid ht4; clear hk7 ht4)
  obtain ⟨x4, HX4⟩ : ∃ x4, Hid (w7.alloc (.cells #[.int .i8 (q4.kind : Int), .int .u64 (q4.n : Int), .bool q4.neg, .slice q4.mA q4.mL q4.mC, .int .u64 (q4.bits : Int), .int .i8 q4.ext, .string q4.text, .slice q4.kA q4.kL q4.kC] 31) = x4) := ⟨_, Lib.hid rfl⟩
  obtain ⟨b4, HB4⟩ : ∃ b4, Hid (w7.heap.size = b4) := ⟨_, Lib.hid rfl⟩
  have HA4 : Hid (Keep nob w7 x4) := by unfold Hid; rw [← HX4.out]; exact (Keep.refl _ _).alloc _
  have HN4 := Lib.hid (range_new w7 q4 31)
  rw [show w7.alloc (.cells (ER.cells q4).toArray 31) = x4 from HX4.out, HB4.out] at HN4
  rw [HX4.out, HB4.out]
  have HX4 : Hid (Keep nob x1 x4) := Lib.hid (HX3.out.then_ (HK7.out.then_ HA4.out))
  obtain ⟨c0, c1, c2, c3, c4, c5, c6, c7⟩ := cells_val HN4.out
  obtain ⟨e0, e1, e2, e3, e4, e5, e6, e7⟩ := cells_val (range_keep (HK7.out.then_ HA4.out) HN3.out)
  have HS4 := HSM2.out x4 q4 q3 _ _ (Tr.keep HA4.out (nobD _) _ _ HT4.out) (Tr.keep (HA3.out.then_ (HK7.out.then_ HA4.out)) (nobD _) _ _ HT3.out)
  simp only [ER] at HS4
  have HS4 := Lib.hid HS4
  go_upto_region 15 with (go_at_call 14; go_must (refine HS4.out.mono ?_); rintro e w8 ⟨rfl, hk8⟩; have HK8 := Lib.hid (HX4.out.then_ hk8); clear hk8)
  clear c0 c1 c2 c3 c4 c5 c6 c7 e0 e1 e2 e3 e4 e5 e6 e7
  go_upto_region 16 with (go_at_call 7; go_must (refine (R3.out _ (HW1.out.then_ HK8.out)).mono ?_); rintro e w9 ⟨ev5, p5, rfl, hk9, he9⟩; have HK9 := Lib.hid (HK8.out.then_ hk9); have HE9 := Lib.hid he9; clear hk9 he9)
  obtain ⟨x5, HX5⟩ : ∃ x5, Hid (w9.alloc (.cells #[.int .i8 0, .int .u64 0, .bool false, .slice none 0 0, .int .u64 0, .int .i8 0, .string ⟨#[]⟩, .slice none 0 0] 31) = x5) := ⟨_, Lib.hid rfl⟩
  obtain ⟨b5, HB5⟩ : ∃ b5, Hid (w9.heap.size = b5) := ⟨_, Lib.hid rfl⟩
  have HA5 : Hid (Keep nob w9 x5) := by unfold Hid; rw [← HX5.out]; exact (Keep.refl _ _).alloc _
  have HN5 := Lib.hid (range_new w9 (Raw.zero) 31)
  rw [show w9.alloc (.cells (ER.cells (Raw.zero)).toArray 31) = x5 from HX5.out, HB5.out] at HN5
  rw [HX5.out, HB5.out]
  have HX5 : Hid (Keep nob x1 x5) := Lib.hid (HK9.out.then_ HA5.out)
  go_upto_region 17 with (go_at_call 7; go_must (refine (R4.out _ (HW1.out.then_ HX5.out)).mono ?_); rintro e w10 ⟨ev6, p6, rfl, hk10, he10⟩; have HK10 := Lib.hid hk10; have HE10 := Lib.hid he10; clear hk10 he10)
  obtain ⟨x6, HX6⟩ : ∃ x6, Hid (w10.alloc (.cells #[.int .i8 0, .int .u64 0, .bool false, .slice none 0 0, .int .u64 0, .int .i8 0, .string ⟨#[]⟩, .slice none 0 0] 31) = x6) := ⟨_, Lib.hid rfl⟩
  obtain ⟨b6, HB6⟩ : ∃ b6, Hid (w10.heap.size = b6) := ⟨_, Lib.hid rfl⟩
  have HA6 : Hid (Keep nob w10 x6) := by unfold Hid; rw [← HX6.out]; exact (Keep.refl _ _).alloc _
  have HN6 := Lib.hid (range_new w10 (Raw.zero) 31)
  rw [show w10.alloc (.cells (ER.cells (Raw.zero)).toArray 31) = x6 from HX6.out, HB6.out] at HN6
  rw [HX6.out, HB6.out]
  have HX6 : Hid (Keep nob x1 x6) := Lib.hid (HX5.out.then_ (HK10.out.then_ HA6.out))
  clear a0 a1 a2 a3 a4 a5 a6 a7
  obtain ⟨a0, a1, a2, a3, a4, a5, a6, a7⟩ := cells_val (range_keep HX6.out HN1.out)
  have HD6 := HDP.out x6 q1 _ (HTX1.out _ HX6.out)
  simp only [ER] at HD6
  rw [show ((128 : Nat) : Int) = 128 from rfl] at HD6
  have HD6 := Lib.hid HD6
  have HE5 : Hid (∀ W, Keep nob x6 W → FErr sa W (fun k => w8.heap.size ≤ k) ev5 5 p5) := Lib.hid (fun W k => HE9.out.keep (HA5.out.then_ (HK10.out.then_ (HA6.out.then_ k))) (fun _ _ h => h))
  have HE6 : Hid (∀ W, Keep nob x6 W → FErr sa W (fun k => x5.heap.size ≤ k) ev6 5 p6) := Lib.hid (fun W k => HE10.out.keep (HA6.out.then_ k) (fun _ _ h => h))
  have HC5 : Hid (∀ W, Keep nob x6 W → Calls Tryz.prog 19 #[ev5] W fun e w' => e = .returned (.int .i64 5) ∧ Keep nob W w') := Lib.hid (fun W k => code_fault ((HG.out.keep (HW1.out.then_ HX6.out) (fun _ h => h.elim)).keep k (fun _ h => h.elim)) (by decide) (by decide) (HE5.out W k))
  have HC6 : Hid (∀ W, Keep nob x6 W → Calls Tryz.prog 19 #[ev6] W fun e w' => e = .returned (.int .i64 5) ∧ Keep nob W w') := Lib.hid (fun W k => code_fault ((HG.out.keep (HW1.out.then_ HX6.out) (fun _ h => h.elim)).keep k (fun _ h => h.elim)) (by decide) (by decide) (HE6.out W k))
  have k60 : Keep nob x6 x6 := Keep.refl _ _
  go_wp2_with (first | (go_at_call 18; go_must (refine HD6.out.mono ?_); rintro e w11 ⟨rfl, k61⟩) | (go_at_call 19; (with_reducible refine (HC5.out _ (by assumption)).mono ?_); rintro e w12 ⟨rfl, hk12⟩; have k62 := k61.then_ hk12) | (go_at_call 19; (with_reducible refine (HC6.out _ (by assumption)).mono ?_); rintro e w13 ⟨rfl, hk13⟩; have k63 := k62.then_ hk13) | (go_at_call 10; go_must (refine (HLV.out _ (HW1.out.then_ (HX6.out.then_ k63))).mono ?_); rintro e w14 ⟨rfl, hk14⟩; have k64 := k63.then_ hk14))
  go_ret
  exact ⟨rfl, HW1.out.then_ (HX6.out.then_ k64)⟩
set_option maxRecDepth 100000 in
set_option maxHeartbeats 8000000 in
theorem lawM_nf (a b : ByteArray) (hs : a.size + b.size ≤ 524288) (v : V) (qa : Nat) (hX : readN Wd a = .ok v qa) (c2 p2 : Nat) (hY : readN Wd b = .bad c2 p2) (hE : depV v ≤ 127) (B : Nat) (sa : Nat → Addr) (w : World) (g : GL B sa w) : Calls Tryz.prog 5 #[.string a, .string b] w fun e w' => e = .returned (.bool true) ∧ Keep nob w w' := by
  have hd1 : decide ((a.size : Int) + (b.size : Int) > 524288) = false := by rw [decide_eq_false_iff_not]; omega
  have hd2 : decide (524288 < (a.size : Int) + (b.size : Int)) = false := by rw [decide_eq_false_iff_not]; omega
  have i1 : IntKind.i64.wrap ((a.size : Int) + (b.size : Int)) = (a.size : Int) + (b.size : Int) := by rw [IntWalk.i64_left, IntWalk.wrap64_in _ ⟨by omega, by omega⟩]
  have qab : (9223372036854775807 < a.size + b.size) = False := eq_false (by omega)
  have q2a : (9223372036854775807 < 2 + a.size) = False := eq_false (by omega)
  have q7a : (9223372036854775807 < 7 + a.size) = False := eq_false (by omega)
  have HG := Lib.hid g
  have HV := read_own hX
  have HT := read_tx (by omega) hX
  have HD := read_dep flatWd hX
  have HSM := Lib.hid (fun (W : World) (r r' : Raw) (D D' : Nat → Prop) (h : Tr W D r v) (h' : Tr W D' r' v) => same_ok v r r' D D' W h h')
  have HCK := Lib.hid (fun (W : World) (r : Raw) (D : Nat → Prop) (g : GL B sa W) (h : Tr W D r v) (hb : ∀ b, D b → b < W.heap.size) => check_ok v HV.1 HT.2 HT.1 HD r D B sa W g h hb)
  have HOT := Lib.hid (fun (W : World) (r : Raw) (D : Nat → Prop) (h : Tr W D r v) => other_ok v HV.2 r D W h)
  have HDP := Lib.hid (fun (W : World) (r : Raw) (D : Nat → Prop) (h : Tr W D r v) => depth_ok v r D W h (by omega))
  have HLV : Hid (∀ W, Keep nob w W → Calls Tryz.prog 10 #[] W fun e w' => e = .returned (.bool true) ∧ Keep nob W w') := Lib.hid (fun W hk => lives_ok B sa W (HG.out.keep hk (fun _ h => h.elim)))
  have R1 : Hid (Calls Tryz.prog 7 #[.string a] w (fun e w2 => Keep nob w w2 ∧ ∃ r : Raw, e = .returned (.tuple #[.agg #[.int .i8 (r.kind : Int), .int .u64 (r.n : Int), .bool r.neg, .slice r.mA r.mL r.mC, .int .u64 (r.bits : Int), .int .i8 r.ext, .string r.text, .slice r.kA r.kL r.kC], .nilIface]) ∧ Tr w2 (fun k => w.heap.size ≤ k) r v)) := by
    have h := read_ok a (by omega) B sa w g
    rw [hX] at h
    exact Lib.hid h
  have N1 : Hid (∀ W, Keep nob w W → Calls Tryz.prog 17 #[.string (a ++ b), .int .i64 0] W (fun e w2 => Keep nob W w2 ∧ ∃ r : Raw, e = .returned (.tuple #[.agg #[.int .i8 (r.kind : Int), .int .u64 (r.n : Int), .bool r.neg, .slice r.mA r.mL r.mC, .int .u64 (r.bits : Int), .int .i8 r.ext, .string r.text, .slice r.kA r.kL r.kC], .int .i64 (a.size : Int), .nilIface]) ∧ Tr w2 (fun k => W.heap.size ≤ k) r v)) := by
    refine Lib.hid (fun W k => ?_)
    have h := next_ok (a ++ b) 0 (Nat.zero_le _) (by rw [ByteArray.size_append]; omega) B sa W (g.keep k (fun _ h => h.elim))
    rw [may_first hX] at h
    exact h
  have R2 : Hid (∀ W, Keep nob w W → Calls Tryz.prog 7 #[.string b] W (fun e w2 => ∃ ev, e = .returned (.tuple #[.agg #[.int .i8 0, .int .u64 0, .bool false, .slice none 0 0, .int .u64 0, .int .i8 0, .string ⟨#[]⟩, .slice none 0 0], ev]) ∧ Keep nob W w2 ∧ FErr sa w2 (fun k => W.heap.size ≤ k) ev c2 p2)) := by
    refine Lib.hid (fun W k => ?_)
    have h := read_ok b (by omega) B sa W (g.keep k (fun _ h => h.elim))
    rw [hY] at h
    exact h
  have N2 : Hid (∀ W, Keep nob w W → Calls Tryz.prog 17 #[.string (a ++ b), .int .i64 (a.size : Int)] W (fun e w2 => Keep nob W w2 ∧ ∃ (r : Raw) (n : Int) (ev : Value), e = .returned (.tuple #[.agg #[.int .i8 (r.kind : Int), .int .u64 (r.n : Int), .bool r.neg, .slice r.mA r.mL r.mC, .int .u64 (r.bits : Int), .int .i8 r.ext, .string r.text, .slice r.kA r.kL r.kC], .int .i64 n, ev]))) := by
    refine Lib.hid (fun W k => ?_)
    have h := next_ok (a ++ b) a.size (by rw [ByteArray.size_append]; omega) (by rw [ByteArray.size_append]; omega) B sa W (g.keep k (fun _ h => h.elim))
    refine h.mono fun e w2 hp => ?_
    cases hR : itemN Wd (a ++ b) 128 a.size with
    | ok x q => rw [hR] at hp; obtain ⟨h1, r, h2, -⟩ := hp; exact ⟨h1, r, _, _, h2⟩
    | bad c p => rw [hR] at hp; obtain ⟨ev, h1, h2, -⟩ := hp; exact ⟨h2, Raw.zero, _, _, h1⟩
  have R3 : Hid (∀ W, Keep nob w W → Calls Tryz.prog 7 #[.string (⟨#[146, 0]⟩ ++ a)] W (fun e w2 => Keep nob W w2 ∧ ∃ (r : Raw) (kb ko : Nat) (q1 : Raw), e = .returned (.tuple #[.agg #[.int .i8 (r.kind : Int), .int .u64 (r.n : Int), .bool r.neg, .slice r.mA r.mL r.mC, .int .u64 (r.bits : Int), .int .i8 r.ext, .string r.text, .slice (some ⟨kb, ko, none⟩) 2 r.kC], .nilIface]) ∧ w2.rangeAt kb (ko + 8) (ER.cells q1) ∧ Tr w2 (fun k => W.heap.size ≤ k) q1 v)) := by
    refine Lib.hid (fun W k => ?_)
    have h := read_ok (Bt [146, 0] ++ a) (by rw [ByteArray.size_append, Bt_size]; simp only [List.length_cons, List.length_nil]; omega) B sa W (g.keep k (fun _ h => h.elim))
    rw [(may_list hX).1 hE] at h
    rw [bt146]
    refine h.mono fun e w2 hp => ?_
    obtain ⟨h1, r, rfl, h3⟩ := hp
    obtain ⟨hl, kb, ko, q0, q1, e1, -, h5, -, h7⟩ := may_kids h3
    exact ⟨h1, r, kb, ko, q1, by simp only [ER, hl, e1], h5, h7⟩
  have R4 : Hid (∀ W, Keep nob w W → Calls Tryz.prog 7 #[.string (⟨#[223, 0, 0, 0, 1, 161, 107]⟩ ++ a)] W (fun e w2 => Keep nob W w2 ∧ ∃ (r : Raw) (kb ko : Nat) (q1 : Raw), e = .returned (.tuple #[.agg #[.int .i8 (r.kind : Int), .int .u64 (r.n : Int), .bool r.neg, .slice r.mA r.mL r.mC, .int .u64 (r.bits : Int), .int .i8 r.ext, .string r.text, .slice (some ⟨kb, ko, none⟩) 2 r.kC], .nilIface]) ∧ w2.rangeAt kb (ko + 8) (ER.cells q1) ∧ Tr w2 (fun k => W.heap.size ≤ k) q1 v ∧ w2.cell? ⟨kb, ko + 6, none⟩ = some (.string ⟨#[107]⟩))) := by
    refine Lib.hid (fun W k => ?_)
    have h := read_ok (Bt [223, 0, 0, 0, 1, 161, 107] ++ a) (by rw [ByteArray.size_append, Bt_size]; simp only [List.length_cons, List.length_nil]; omega) B sa W (g.keep k (fun _ h => h.elim))
    rw [(may_map hX).1 hE] at h
    rw [bt223]
    refine h.mono fun e w2 hp => ?_
    obtain ⟨h1, r, rfl, h3⟩ := hp
    obtain ⟨hl, kb, ko, q0, q1, e1, h4, h5, h6, h7⟩ := may_kids h3
    obtain ⟨-, -, -, -, -, -, c6, -⟩ := cells_val' h4
    unfold V.tex Tr at h6
    rw [h6.2.2.2.2.2.1, ← bt107] at c6
    exact ⟨h1, r, kb, ko, q1, by simp only [ER, hl, e1], h5, h7, c6⟩
  obtain ⟨dv, HDV⟩ : ∃ dv : Nat, Hid (depV v = dv) := ⟨_, Lib.hid rfl⟩
  rw [HDV.out] at HDP hE
  have hdv : ((dv : Int) == 128) = false := by rw [beq_eq_false_iff_ne]; omega
  clear g hX HV HT HD hs hY hE
  go_enter Tryz.func5, Tryz.ntmps5
  go_upto_region 4 with (go_at_call 7; go_must (refine R1.out.mono ?_); rintro e w1 ⟨hk1, q1, rfl, ht1⟩; have HK1 := Lib.hid hk1; have HT1 := Lib.hid ht1; clear hk1 ht1)
  obtain ⟨x1, HX1⟩ : ∃ x1, Hid (w1.alloc (.cells #[.int .i8 (q1.kind : Int), .int .u64 (q1.n : Int), .bool q1.neg, .slice q1.mA q1.mL q1.mC, .int .u64 (q1.bits : Int), .int .i8 q1.ext, .string q1.text, .slice q1.kA q1.kL q1.kC] 31) = x1) := ⟨_, Lib.hid rfl⟩
  obtain ⟨b1, HB1⟩ : ∃ b1, Hid (w1.heap.size = b1) := ⟨_, Lib.hid rfl⟩
  have HA1 : Hid (Keep nob w1 x1) := by unfold Hid; rw [← HX1.out]; exact (Keep.refl _ _).alloc _
  have HN1 := Lib.hid (range_new w1 q1 31)
  rw [show w1.alloc (.cells (ER.cells q1).toArray 31) = x1 from HX1.out, HB1.out] at HN1
  rw [HX1.out, HB1.out]
  have HW1 : Hid (Keep nob w x1) := Lib.hid (HK1.out.then_ HA1.out)
  have HTX1 : Hid (∀ W, Keep nob x1 W → Tr W (fun k => w.heap.size ≤ k ∧ k < w1.heap.size) q1 v) := Lib.hid (fun W k => Tr.keep (HA1.out.then_ k) (nobD _) _ _ (Tr.mono (fun b h1 h2 => ⟨h2, h1⟩) _ _ HT1.out))
  obtain ⟨a0, a1, a2, a3, a4, a5, a6, a7⟩ := cells_val HN1.out
  go_upto_region 8 with (first | (go_at_call 15; go_must (refine (HCK.out _ q1 _ (HG.out.keep HW1.out (fun _ h => h.elim)) (HTX1.out _ (Keep.refl _ _)) (fun b hb => by have := HA1.out.size; omega)).mono ?_); rintro e w2 ⟨rfl, hk2⟩; have HK2 := Lib.hid hk2; obtain ⟨a0, a1, a2, a3, a4, a5, a6, a7⟩ := cells_val (range_keep hk2 HN1.out); clear hk2) | (go_at_call 16; go_must (refine (HOT.out _ q1 _ (HTX1.out _ HK2.out)).mono ?_); rintro e w3 ⟨rfl, hk3⟩; have HK3 := Lib.hid (HK2.out.then_ hk3); clear hk3))
  go_upto_region 9 with (go_at_call 17; go_must (refine (N1.out _ (HW1.out.then_ HK3.out)).mono ?_); rintro e w4 ⟨hk4, q2, rfl, ht2⟩; have HK4 := Lib.hid (HK3.out.then_ hk4); have HT2 := Lib.hid ht2; clear hk4 ht2)
  obtain ⟨x2, HX2⟩ : ∃ x2, Hid (w4.alloc (.cells #[.int .i8 (q2.kind : Int), .int .u64 (q2.n : Int), .bool q2.neg, .slice q2.mA q2.mL q2.mC, .int .u64 (q2.bits : Int), .int .i8 q2.ext, .string q2.text, .slice q2.kA q2.kL q2.kC] 31) = x2) := ⟨_, Lib.hid rfl⟩
  obtain ⟨b2, HB2⟩ : ∃ b2, Hid (w4.heap.size = b2) := ⟨_, Lib.hid rfl⟩
  have HA2 : Hid (Keep nob w4 x2) := by unfold Hid; rw [← HX2.out]; exact (Keep.refl _ _).alloc _
  have HN2 := Lib.hid (range_new w4 q2 31)
  rw [show w4.alloc (.cells (ER.cells q2).toArray 31) = x2 from HX2.out, HB2.out] at HN2
  rw [HX2.out, HB2.out]
  have HX2 : Hid (Keep nob x1 x2) := Lib.hid (HK4.out.then_ HA2.out)
  clear a0 a1 a2 a3 a4 a5 a6 a7
  obtain ⟨a0, a1, a2, a3, a4, a5, a6, a7⟩ := cells_val (range_keep HX2.out HN1.out)
  obtain ⟨c0, c1, c2, c3, c4, c5, c6, c7⟩ := cells_val HN2.out
  have HS2 := HSM.out x2 q2 q1 _ _ (Tr.keep HA2.out (nobD _) _ _ HT2.out) (HTX1.out _ HX2.out)
  simp only [ER] at HS2
  have HS2 := Lib.hid HS2
  go_upto_region 11 with (go_at_call 14; go_must (refine HS2.out.mono ?_); rintro e w5 ⟨rfl, hk5⟩; have HK5 := Lib.hid (HX2.out.then_ hk5); clear hk5)
  clear c0 c1 c2 c3 c4 c5 c6 c7
  go_upto_region 12 with (go_at_call 7; go_must (refine (R2.out _ (HW1.out.then_ HK5.out)).mono ?_); rintro e w6 ⟨ev, rfl, hk6, he6⟩; have HK6 := Lib.hid (HK5.out.then_ hk6); obtain ⟨bb, rfl, -⟩ := he6; clear hk6)
  obtain ⟨x3, HX3⟩ : ∃ x3, Hid (w6.alloc (.cells #[.int .i8 0, .int .u64 0, .bool false, .slice none 0 0, .int .u64 0, .int .i8 0, .string ⟨#[]⟩, .slice none 0 0] 31) = x3) := ⟨_, Lib.hid rfl⟩
  obtain ⟨b3, HB3⟩ : ∃ b3, Hid (w6.heap.size = b3) := ⟨_, Lib.hid rfl⟩
  have HA3 : Hid (Keep nob w6 x3) := by unfold Hid; rw [← HX3.out]; exact (Keep.refl _ _).alloc _
  have HN3 := Lib.hid (range_new w6 (Raw.zero) 31)
  rw [show w6.alloc (.cells (ER.cells (Raw.zero)).toArray 31) = x3 from HX3.out, HB3.out] at HN3
  rw [HX3.out, HB3.out]
  have HX3 : Hid (Keep nob x1 x3) := Lib.hid (HK6.out.then_ HA3.out)
  go_upto_region 13 with (go_at_call 17; go_must (refine (N2.out _ (HW1.out.then_ HX3.out)).mono ?_); rintro e w7 ⟨hk7, q4, n4, ev4, rfl⟩; have HK7 := Lib.hid hk7; clear hk7)
  obtain ⟨x4, HX4⟩ : ∃ x4, Hid (w7.alloc (.cells #[.int .i8 (q4.kind : Int), .int .u64 (q4.n : Int), .bool q4.neg, .slice q4.mA q4.mL q4.mC, .int .u64 (q4.bits : Int), .int .i8 q4.ext, .string q4.text, .slice q4.kA q4.kL q4.kC] 31) = x4) := ⟨_, Lib.hid rfl⟩
  obtain ⟨b4, HB4⟩ : ∃ b4, Hid (w7.heap.size = b4) := ⟨_, Lib.hid rfl⟩
  have HA4 : Hid (Keep nob w7 x4) := by unfold Hid; rw [← HX4.out]; exact (Keep.refl _ _).alloc _
  have HN4 := Lib.hid (range_new w7 q4 31)
  rw [show w7.alloc (.cells (ER.cells q4).toArray 31) = x4 from HX4.out, HB4.out] at HN4
  rw [HX4.out, HB4.out]
  have HX4 : Hid (Keep nob x1 x4) := Lib.hid (HX3.out.then_ (HK7.out.then_ HA4.out))
  go_upto_region 15 with (fail)
  have HK8 := Lib.hid HX4.out
  go_upto_region 16 with (go_at_call 7; go_must (refine (R3.out _ (HW1.out.then_ HK8.out)).mono ?_); rintro e w9 ⟨hk9, q5, k5, o5, r5, rfl, hr5, ht5⟩; have HK9 := Lib.hid (HK8.out.then_ hk9); have HR5 := Lib.hid hr5; have HT5 := Lib.hid ht5; clear hk9 hr5 ht5)
  obtain ⟨x5, HX5⟩ : ∃ x5, Hid (w9.alloc (.cells #[.int .i8 (q5.kind : Int), .int .u64 (q5.n : Int), .bool q5.neg, .slice q5.mA q5.mL q5.mC, .int .u64 (q5.bits : Int), .int .i8 q5.ext, .string q5.text, .slice (some ⟨k5, o5, none⟩) 2 q5.kC] 31) = x5) := ⟨_, Lib.hid rfl⟩
  obtain ⟨b5, HB5⟩ : ∃ b5, Hid (w9.heap.size = b5) := ⟨_, Lib.hid rfl⟩
  have HA5 : Hid (Keep nob w9 x5) := by unfold Hid; rw [← HX5.out]; exact (Keep.refl _ _).alloc _
  have HN5 := Lib.hid (range_new w9 (⟨q5.kind, q5.n, q5.neg, q5.mA, q5.mL, q5.mC, q5.bits, q5.ext, q5.text, some ⟨k5, o5, none⟩, 2, q5.kC⟩ : Raw) 31)
  rw [show w9.alloc (.cells (ER.cells (⟨q5.kind, q5.n, q5.neg, q5.mA, q5.mL, q5.mC, q5.bits, q5.ext, q5.text, some ⟨k5, o5, none⟩, 2, q5.kC⟩ : Raw)).toArray 31) = x5 from HX5.out, HB5.out] at HN5
  rw [HX5.out, HB5.out]
  have HX5 : Hid (Keep nob x1 x5) := Lib.hid (HK9.out.then_ HA5.out)
  go_upto_region 17 with (go_at_call 7; go_must (refine (R4.out _ (HW1.out.then_ HX5.out)).mono ?_); rintro e w10 ⟨hk10, q6, k6, o6, r6, rfl, hr6, ht6, hc6⟩; have HK10 := Lib.hid hk10; have HR6 := Lib.hid hr6; have HT6 := Lib.hid ht6; have HC6 := Lib.hid hc6; clear hk10 hr6 ht6 hc6)
  obtain ⟨x6, HX6⟩ : ∃ x6, Hid (w10.alloc (.cells #[.int .i8 (q6.kind : Int), .int .u64 (q6.n : Int), .bool q6.neg, .slice q6.mA q6.mL q6.mC, .int .u64 (q6.bits : Int), .int .i8 q6.ext, .string q6.text, .slice (some ⟨k6, o6, none⟩) 2 q6.kC] 31) = x6) := ⟨_, Lib.hid rfl⟩
  obtain ⟨b6, HB6⟩ : ∃ b6, Hid (w10.heap.size = b6) := ⟨_, Lib.hid rfl⟩
  have HA6 : Hid (Keep nob w10 x6) := by unfold Hid; rw [← HX6.out]; exact (Keep.refl _ _).alloc _
  have HN6 := Lib.hid (range_new w10 (⟨q6.kind, q6.n, q6.neg, q6.mA, q6.mL, q6.mC, q6.bits, q6.ext, q6.text, some ⟨k6, o6, none⟩, 2, q6.kC⟩ : Raw) 31)
  rw [show w10.alloc (.cells (ER.cells (⟨q6.kind, q6.n, q6.neg, q6.mA, q6.mL, q6.mC, q6.bits, q6.ext, q6.text, some ⟨k6, o6, none⟩, 2, q6.kC⟩ : Raw)).toArray 31) = x6 from HX6.out, HB6.out] at HN6
  rw [HX6.out, HB6.out]
  have HX56 : Hid (Keep nob x5 x6) := Lib.hid (HK10.out.then_ HA6.out)
  have HX6 : Hid (Keep nob x1 x6) := Lib.hid (HX5.out.then_ HX56.out)
  clear a0 a1 a2 a3 a4 a5 a6 a7
  obtain ⟨a0, a1, a2, a3, a4, a5, a6, a7⟩ := cells_val (range_keep HX6.out HN1.out)
  have HD6 := HDP.out x6 q1 _ (HTX1.out _ HX6.out)
  simp only [ER] at HD6
  have HD6 := Lib.hid HD6
  clear a0 a1 a2 a3 a4 a5 a6 a7
  obtain ⟨a0, a1, a2, a3, a4, a5, a6, a7⟩ := cells_val (range_keep HX6.out HN1.out)
  go_upto_region 19 with (go_at_call 18; go_must (refine HD6.out.mono ?_); rintro e w11 ⟨rfl, hk11⟩; have HK11 := Lib.hid hk11; clear hk11)
  have HM1 := Lib.hid (range_keep (HX6.out.then_ HK11.out) HN1.out)
  have HM5 := Lib.hid (range_keep (HX56.out.then_ HK11.out) HN5.out)
  have HM6 := Lib.hid (range_keep HK11.out HN6.out)
  have HM5k := Lib.hid (range_keep (HA5.out.then_ (HX56.out.then_ HK11.out)) HR5.out)
  have HM6k := Lib.hid (range_keep (HA6.out.then_ HK11.out) HR6.out)
  have HM6c := Lib.hid ((HA6.out.then_ HK11.out).cell HC6.out (fun h => h))
  obtain ⟨-, -, -, -, -, -, -, m57⟩ := cells_val HM5.out
  obtain ⟨-, -, -, -, -, -, -, m67⟩ := cells_val HM6.out
  dsimp only at m57 m67
  clear a0 a1 a2 a3 a4 a5 a6 a7
  go_upto_region 21 with (fail)
  have S5 := fun (W : World) (k : Keep nob w11 W) => HSM.out W r5 q1 _ _ (Tr.keep (HA5.out.then_ (HX56.out.then_ (HK11.out.then_ k))) (nobD _) _ _ HT5.out) (HTX1.out _ (HX6.out.then_ (HK11.out.then_ k)))
  have S6 := fun (W : World) (k : Keep nob w11 W) => HSM.out W r6 q1 _ _ (Tr.keep (HA6.out.then_ (HK11.out.then_ k)) (nobD _) _ _ HT6.out) (HTX1.out _ (HX6.out.then_ (HK11.out.then_ k)))
  simp only [ER] at S5 S6
  have S5 := Lib.hid S5
  have S6 := Lib.hid S6
  have L9 := Lib.hid (fun (W : World) (k : Keep nob w11 W) => HLV.out W (HW1.out.then_ (HX6.out.then_ (HK11.out.then_ k))))
  clear m57 m67
  refine wp_region_kept (by kernel_rfl) (by kernel_rfl) (QV.out ?_)
  repeat (first
    | (refine kq_skip (by rfl) (fun K hK => ?_); go_simp; refine hK _ ?_; clear hK K)
    | (refine kq_want (by rfl) (fun K hK => ?_); first
        | (refine BigFrame.quiet_move _ rfl ?_; go_simp; refine hK _ ?_; clear hK K)
        | (refine kq_still ?_ (fun w' hw' => ?_) ?_; rotate_left; (obtain ⟨a0, a1, a2, a3, a4, a5, a6, a7⟩ := cells_val (range_keep hw' HM1.out); obtain ⟨-, -, -, -, -, -, -, m57⟩ := cells_val (range_keep hw' HM5.out); obtain ⟨-, -, -, -, -, -, -, m67⟩ := cells_val (range_keep hw' HM6.out); dsimp only at m57 m67; obtain ⟨e0, e1, e2, e3, e4, e5, e6, e7⟩ := cells_val' (range_keep hw' HM5k.out); obtain ⟨g0, g1, g2, g3, g4, g5, g6, g7⟩ := cells_val' (range_keep hw' HM6k.out); have m6c := hw'.cell HM6c.out (fun h => h); go_simp; first | done | exact rfl); go_simp; refine hK _ ?_; clear hK K)
        | (go_simp; apply Exists.intro; refine ⟨fun w' hw' => ?_, hK _ ?_⟩; (first | (go_at_call 14; have hx : Keep nob w11 w' := hw'; (with_reducible refine (S5.out w' hx).mono ?_)) | (go_at_call 14; have hx : Keep nob w11 w' := hw'; (with_reducible refine (S6.out w' hx).mono ?_)) | (go_at_call 10; refine (L9.out w' hw').mono ?_)); rintro e w'' ⟨rfl, hk''⟩; exact ⟨rfl, hw'.then_ hk''⟩; clear hK K)))
  refine ⟨wpQuiet_nil ?_⟩
  intro w12 hk12
  go_wp2
  go_ret
  exact ⟨rfl, HW1.out.then_ (HX6.out.then_ (HK11.out.then_ hk12))⟩
set_option maxRecDepth 100000 in
set_option maxHeartbeats 8000000 in
theorem lawM_nd (a b : ByteArray) (hs : a.size + b.size ≤ 524288) (v : V) (qa : Nat) (hX : readN Wd a = .ok v qa) (c2 p2 : Nat) (hY : readN Wd b = .bad c2 p2) (hE : depV v = 128) (B : Nat) (sa : Nat → Addr) (w : World) (g : GL B sa w) : Calls Tryz.prog 5 #[.string a, .string b] w fun e w' => e = .returned (.bool true) ∧ Keep nob w w' := by
  have hd1 : decide ((a.size : Int) + (b.size : Int) > 524288) = false := by rw [decide_eq_false_iff_not]; omega
  have hd2 : decide (524288 < (a.size : Int) + (b.size : Int)) = false := by rw [decide_eq_false_iff_not]; omega
  have i1 : IntKind.i64.wrap ((a.size : Int) + (b.size : Int)) = (a.size : Int) + (b.size : Int) := by rw [IntWalk.i64_left, IntWalk.wrap64_in _ ⟨by omega, by omega⟩]
  have qab : (9223372036854775807 < a.size + b.size) = False := eq_false (by omega)
  have q2a : (9223372036854775807 < 2 + a.size) = False := eq_false (by omega)
  have q7a : (9223372036854775807 < 7 + a.size) = False := eq_false (by omega)
  have HG := Lib.hid g
  have HV := read_own hX
  have HT := read_tx (by omega) hX
  have HD := read_dep flatWd hX
  have HSM := Lib.hid (fun (W : World) (r r' : Raw) (D D' : Nat → Prop) (h : Tr W D r v) (h' : Tr W D' r' v) => same_ok v r r' D D' W h h')
  have HCK := Lib.hid (fun (W : World) (r : Raw) (D : Nat → Prop) (g : GL B sa W) (h : Tr W D r v) (hb : ∀ b, D b → b < W.heap.size) => check_ok v HV.1 HT.2 HT.1 HD r D B sa W g h hb)
  have HOT := Lib.hid (fun (W : World) (r : Raw) (D : Nat → Prop) (h : Tr W D r v) => other_ok v HV.2 r D W h)
  have HDP := Lib.hid (fun (W : World) (r : Raw) (D : Nat → Prop) (h : Tr W D r v) => depth_ok v r D W h (by omega))
  have HLV : Hid (∀ W, Keep nob w W → Calls Tryz.prog 10 #[] W fun e w' => e = .returned (.bool true) ∧ Keep nob W w') := Lib.hid (fun W hk => lives_ok B sa W (HG.out.keep hk (fun _ h => h.elim)))
  have R1 : Hid (Calls Tryz.prog 7 #[.string a] w (fun e w2 => Keep nob w w2 ∧ ∃ r : Raw, e = .returned (.tuple #[.agg #[.int .i8 (r.kind : Int), .int .u64 (r.n : Int), .bool r.neg, .slice r.mA r.mL r.mC, .int .u64 (r.bits : Int), .int .i8 r.ext, .string r.text, .slice r.kA r.kL r.kC], .nilIface]) ∧ Tr w2 (fun k => w.heap.size ≤ k) r v)) := by
    have h := read_ok a (by omega) B sa w g
    rw [hX] at h
    exact Lib.hid h
  have N1 : Hid (∀ W, Keep nob w W → Calls Tryz.prog 17 #[.string (a ++ b), .int .i64 0] W (fun e w2 => Keep nob W w2 ∧ ∃ r : Raw, e = .returned (.tuple #[.agg #[.int .i8 (r.kind : Int), .int .u64 (r.n : Int), .bool r.neg, .slice r.mA r.mL r.mC, .int .u64 (r.bits : Int), .int .i8 r.ext, .string r.text, .slice r.kA r.kL r.kC], .int .i64 (a.size : Int), .nilIface]) ∧ Tr w2 (fun k => W.heap.size ≤ k) r v)) := by
    refine Lib.hid (fun W k => ?_)
    have h := next_ok (a ++ b) 0 (Nat.zero_le _) (by rw [ByteArray.size_append]; omega) B sa W (g.keep k (fun _ h => h.elim))
    rw [may_first hX] at h
    exact h
  have R2 : Hid (∀ W, Keep nob w W → Calls Tryz.prog 7 #[.string b] W (fun e w2 => ∃ ev, e = .returned (.tuple #[.agg #[.int .i8 0, .int .u64 0, .bool false, .slice none 0 0, .int .u64 0, .int .i8 0, .string ⟨#[]⟩, .slice none 0 0], ev]) ∧ Keep nob W w2 ∧ FErr sa w2 (fun k => W.heap.size ≤ k) ev c2 p2)) := by
    refine Lib.hid (fun W k => ?_)
    have h := read_ok b (by omega) B sa W (g.keep k (fun _ h => h.elim))
    rw [hY] at h
    exact h
  have N2 : Hid (∀ W, Keep nob w W → Calls Tryz.prog 17 #[.string (a ++ b), .int .i64 (a.size : Int)] W (fun e w2 => Keep nob W w2 ∧ ∃ (r : Raw) (n : Int) (ev : Value), e = .returned (.tuple #[.agg #[.int .i8 (r.kind : Int), .int .u64 (r.n : Int), .bool r.neg, .slice r.mA r.mL r.mC, .int .u64 (r.bits : Int), .int .i8 r.ext, .string r.text, .slice r.kA r.kL r.kC], .int .i64 n, ev]))) := by
    refine Lib.hid (fun W k => ?_)
    have h := next_ok (a ++ b) a.size (by rw [ByteArray.size_append]; omega) (by rw [ByteArray.size_append]; omega) B sa W (g.keep k (fun _ h => h.elim))
    refine h.mono fun e w2 hp => ?_
    cases hR : itemN Wd (a ++ b) 128 a.size with
    | ok x q => rw [hR] at hp; obtain ⟨h1, r, h2, -⟩ := hp; exact ⟨h1, r, _, _, h2⟩
    | bad c p => rw [hR] at hp; obtain ⟨ev, h1, h2, -⟩ := hp; exact ⟨h2, Raw.zero, _, _, h1⟩
  have R3 : Hid (∀ W, Keep nob w W → Calls Tryz.prog 7 #[.string (⟨#[146, 0]⟩ ++ a)] W (fun e w2 => ∃ ev p, e = .returned (.tuple #[.agg #[.int .i8 0, .int .u64 0, .bool false, .slice none 0 0, .int .u64 0, .int .i8 0, .string ⟨#[]⟩, .slice none 0 0], ev]) ∧ Keep nob W w2 ∧ FErr sa w2 (fun k => W.heap.size ≤ k) ev 5 p)) := by
    refine Lib.hid (fun W k => ?_)
    obtain ⟨p, hp⟩ := (may_list hX).2 hE
    have h := read_ok (Bt [146, 0] ++ a) (by rw [ByteArray.size_append, Bt_size]; simp only [List.length_cons, List.length_nil]; omega) B sa W (g.keep k (fun _ h => h.elim))
    rw [hp] at h
    rw [bt146]
    refine h.mono fun e w2 ⟨ev, h1, h2, h3⟩ => ⟨ev, p, h1, h2, h3⟩
  have R4 : Hid (∀ W, Keep nob w W → Calls Tryz.prog 7 #[.string (⟨#[223, 0, 0, 0, 1, 161, 107]⟩ ++ a)] W (fun e w2 => ∃ ev p, e = .returned (.tuple #[.agg #[.int .i8 0, .int .u64 0, .bool false, .slice none 0 0, .int .u64 0, .int .i8 0, .string ⟨#[]⟩, .slice none 0 0], ev]) ∧ Keep nob W w2 ∧ FErr sa w2 (fun k => W.heap.size ≤ k) ev 5 p)) := by
    refine Lib.hid (fun W k => ?_)
    obtain ⟨p, hp⟩ := (may_map hX).2 hE
    have h := read_ok (Bt [223, 0, 0, 0, 1, 161, 107] ++ a) (by rw [ByteArray.size_append, Bt_size]; simp only [List.length_cons, List.length_nil]; omega) B sa W (g.keep k (fun _ h => h.elim))
    rw [hp] at h
    rw [bt223]
    refine h.mono fun e w2 ⟨ev, h1, h2, h3⟩ => ⟨ev, p, h1, h2, h3⟩
  rw [hE] at HDP
  clear g hX HV HT HD hs hY hE
  go_enter Tryz.func5, Tryz.ntmps5
  go_upto_region 4 with (go_at_call 7; go_must (refine R1.out.mono ?_); rintro e w1 ⟨hk1, q1, rfl, ht1⟩; have HK1 := Lib.hid hk1; have HT1 := Lib.hid ht1; clear hk1 ht1)
  obtain ⟨x1, HX1⟩ : ∃ x1, Hid (w1.alloc (.cells #[.int .i8 (q1.kind : Int), .int .u64 (q1.n : Int), .bool q1.neg, .slice q1.mA q1.mL q1.mC, .int .u64 (q1.bits : Int), .int .i8 q1.ext, .string q1.text, .slice q1.kA q1.kL q1.kC] 31) = x1) := ⟨_, Lib.hid rfl⟩
  obtain ⟨b1, HB1⟩ : ∃ b1, Hid (w1.heap.size = b1) := ⟨_, Lib.hid rfl⟩
  have HA1 : Hid (Keep nob w1 x1) := by unfold Hid; rw [← HX1.out]; exact (Keep.refl _ _).alloc _
  have HN1 := Lib.hid (range_new w1 q1 31)
  rw [show w1.alloc (.cells (ER.cells q1).toArray 31) = x1 from HX1.out, HB1.out] at HN1
  rw [HX1.out, HB1.out]
  have HW1 : Hid (Keep nob w x1) := Lib.hid (HK1.out.then_ HA1.out)
  have HTX1 : Hid (∀ W, Keep nob x1 W → Tr W (fun k => w.heap.size ≤ k ∧ k < w1.heap.size) q1 v) := Lib.hid (fun W k => Tr.keep (HA1.out.then_ k) (nobD _) _ _ (Tr.mono (fun b h1 h2 => ⟨h2, h1⟩) _ _ HT1.out))
  obtain ⟨a0, a1, a2, a3, a4, a5, a6, a7⟩ := cells_val HN1.out
  go_upto_region 8 with (first | (go_at_call 15; go_must (refine (HCK.out _ q1 _ (HG.out.keep HW1.out (fun _ h => h.elim)) (HTX1.out _ (Keep.refl _ _)) (fun b hb => by have := HA1.out.size; omega)).mono ?_); rintro e w2 ⟨rfl, hk2⟩; have HK2 := Lib.hid hk2; obtain ⟨a0, a1, a2, a3, a4, a5, a6, a7⟩ := cells_val (range_keep hk2 HN1.out); clear hk2) | (go_at_call 16; go_must (refine (HOT.out _ q1 _ (HTX1.out _ HK2.out)).mono ?_); rintro e w3 ⟨rfl, hk3⟩; have HK3 := Lib.hid (HK2.out.then_ hk3); clear hk3))
  go_upto_region 9 with (go_at_call 17; go_must (refine (N1.out _ (HW1.out.then_ HK3.out)).mono ?_); rintro e w4 ⟨hk4, q2, rfl, ht2⟩; have HK4 := Lib.hid (HK3.out.then_ hk4); have HT2 := Lib.hid ht2; clear hk4 ht2)
  obtain ⟨x2, HX2⟩ : ∃ x2, Hid (w4.alloc (.cells #[.int .i8 (q2.kind : Int), .int .u64 (q2.n : Int), .bool q2.neg, .slice q2.mA q2.mL q2.mC, .int .u64 (q2.bits : Int), .int .i8 q2.ext, .string q2.text, .slice q2.kA q2.kL q2.kC] 31) = x2) := ⟨_, Lib.hid rfl⟩
  obtain ⟨b2, HB2⟩ : ∃ b2, Hid (w4.heap.size = b2) := ⟨_, Lib.hid rfl⟩
  have HA2 : Hid (Keep nob w4 x2) := by unfold Hid; rw [← HX2.out]; exact (Keep.refl _ _).alloc _
  have HN2 := Lib.hid (range_new w4 q2 31)
  rw [show w4.alloc (.cells (ER.cells q2).toArray 31) = x2 from HX2.out, HB2.out] at HN2
  rw [HX2.out, HB2.out]
  have HX2 : Hid (Keep nob x1 x2) := Lib.hid (HK4.out.then_ HA2.out)
  clear a0 a1 a2 a3 a4 a5 a6 a7
  obtain ⟨a0, a1, a2, a3, a4, a5, a6, a7⟩ := cells_val (range_keep HX2.out HN1.out)
  obtain ⟨c0, c1, c2, c3, c4, c5, c6, c7⟩ := cells_val HN2.out
  have HS2 := HSM.out x2 q2 q1 _ _ (Tr.keep HA2.out (nobD _) _ _ HT2.out) (HTX1.out _ HX2.out)
  simp only [ER] at HS2
  have HS2 := Lib.hid HS2
  go_upto_region 11 with (go_at_call 14; go_must (refine HS2.out.mono ?_); rintro e w5 ⟨rfl, hk5⟩; have HK5 := Lib.hid (HX2.out.then_ hk5); clear hk5)
  clear c0 c1 c2 c3 c4 c5 c6 c7
  go_upto_region 12 with (go_at_call 7; go_must (refine (R2.out _ (HW1.out.then_ HK5.out)).mono ?_); rintro e w6 ⟨ev, rfl, hk6, he6⟩; have HK6 := Lib.hid (HK5.out.then_ hk6); obtain ⟨bb, rfl, -⟩ := he6; clear hk6)
  obtain ⟨x3, HX3⟩ : ∃ x3, Hid (w6.alloc (.cells #[.int .i8 0, .int .u64 0, .bool false, .slice none 0 0, .int .u64 0, .int .i8 0, .string ⟨#[]⟩, .slice none 0 0] 31) = x3) := ⟨_, Lib.hid rfl⟩
  obtain ⟨b3, HB3⟩ : ∃ b3, Hid (w6.heap.size = b3) := ⟨_, Lib.hid rfl⟩
  have HA3 : Hid (Keep nob w6 x3) := by unfold Hid; rw [← HX3.out]; exact (Keep.refl _ _).alloc _
  have HN3 := Lib.hid (range_new w6 (Raw.zero) 31)
  rw [show w6.alloc (.cells (ER.cells (Raw.zero)).toArray 31) = x3 from HX3.out, HB3.out] at HN3
  rw [HX3.out, HB3.out]
  have HX3 : Hid (Keep nob x1 x3) := Lib.hid (HK6.out.then_ HA3.out)
  go_upto_region 13 with (go_at_call 17; go_must (refine (N2.out _ (HW1.out.then_ HX3.out)).mono ?_); rintro e w7 ⟨hk7, q4, n4, ev4, rfl⟩; have HK7 := Lib.hid hk7; clear hk7)
  obtain ⟨x4, HX4⟩ : ∃ x4, Hid (w7.alloc (.cells #[.int .i8 (q4.kind : Int), .int .u64 (q4.n : Int), .bool q4.neg, .slice q4.mA q4.mL q4.mC, .int .u64 (q4.bits : Int), .int .i8 q4.ext, .string q4.text, .slice q4.kA q4.kL q4.kC] 31) = x4) := ⟨_, Lib.hid rfl⟩
  obtain ⟨b4, HB4⟩ : ∃ b4, Hid (w7.heap.size = b4) := ⟨_, Lib.hid rfl⟩
  have HA4 : Hid (Keep nob w7 x4) := by unfold Hid; rw [← HX4.out]; exact (Keep.refl _ _).alloc _
  have HN4 := Lib.hid (range_new w7 q4 31)
  rw [show w7.alloc (.cells (ER.cells q4).toArray 31) = x4 from HX4.out, HB4.out] at HN4
  rw [HX4.out, HB4.out]
  have HX4 : Hid (Keep nob x1 x4) := Lib.hid (HX3.out.then_ (HK7.out.then_ HA4.out))
  go_upto_region 15 with (fail)
  have HK8 := Lib.hid HX4.out
  go_upto_region 16 with (go_at_call 7; go_must (refine (R3.out _ (HW1.out.then_ HK8.out)).mono ?_); rintro e w9 ⟨ev5, p5, rfl, hk9, he9⟩; have HK9 := Lib.hid (HK8.out.then_ hk9); have HE9 := Lib.hid he9; clear hk9 he9)
  obtain ⟨x5, HX5⟩ : ∃ x5, Hid (w9.alloc (.cells #[.int .i8 0, .int .u64 0, .bool false, .slice none 0 0, .int .u64 0, .int .i8 0, .string ⟨#[]⟩, .slice none 0 0] 31) = x5) := ⟨_, Lib.hid rfl⟩
  obtain ⟨b5, HB5⟩ : ∃ b5, Hid (w9.heap.size = b5) := ⟨_, Lib.hid rfl⟩
  have HA5 : Hid (Keep nob w9 x5) := by unfold Hid; rw [← HX5.out]; exact (Keep.refl _ _).alloc _
  have HN5 := Lib.hid (range_new w9 (Raw.zero) 31)
  rw [show w9.alloc (.cells (ER.cells (Raw.zero)).toArray 31) = x5 from HX5.out, HB5.out] at HN5
  rw [HX5.out, HB5.out]
  have HX5 : Hid (Keep nob x1 x5) := Lib.hid (HK9.out.then_ HA5.out)
  go_upto_region 17 with (go_at_call 7; go_must (refine (R4.out _ (HW1.out.then_ HX5.out)).mono ?_); rintro e w10 ⟨ev6, p6, rfl, hk10, he10⟩; have HK10 := Lib.hid hk10; have HE10 := Lib.hid he10; clear hk10 he10)
  obtain ⟨x6, HX6⟩ : ∃ x6, Hid (w10.alloc (.cells #[.int .i8 0, .int .u64 0, .bool false, .slice none 0 0, .int .u64 0, .int .i8 0, .string ⟨#[]⟩, .slice none 0 0] 31) = x6) := ⟨_, Lib.hid rfl⟩
  obtain ⟨b6, HB6⟩ : ∃ b6, Hid (w10.heap.size = b6) := ⟨_, Lib.hid rfl⟩
  have HA6 : Hid (Keep nob w10 x6) := by unfold Hid; rw [← HX6.out]; exact (Keep.refl _ _).alloc _
  have HN6 := Lib.hid (range_new w10 (Raw.zero) 31)
  rw [show w10.alloc (.cells (ER.cells (Raw.zero)).toArray 31) = x6 from HX6.out, HB6.out] at HN6
  rw [HX6.out, HB6.out]
  have HX6 : Hid (Keep nob x1 x6) := Lib.hid (HX5.out.then_ (HK10.out.then_ HA6.out))
  clear a0 a1 a2 a3 a4 a5 a6 a7
  obtain ⟨a0, a1, a2, a3, a4, a5, a6, a7⟩ := cells_val (range_keep HX6.out HN1.out)
  have HD6 := HDP.out x6 q1 _ (HTX1.out _ HX6.out)
  simp only [ER] at HD6
  rw [show ((128 : Nat) : Int) = 128 from rfl] at HD6
  have HD6 := Lib.hid HD6
  have HE5 : Hid (∀ W, Keep nob x6 W → FErr sa W (fun k => x4.heap.size ≤ k) ev5 5 p5) := Lib.hid (fun W k => HE9.out.keep (HA5.out.then_ (HK10.out.then_ (HA6.out.then_ k))) (fun _ _ h => h))
  have HE6 : Hid (∀ W, Keep nob x6 W → FErr sa W (fun k => x5.heap.size ≤ k) ev6 5 p6) := Lib.hid (fun W k => HE10.out.keep (HA6.out.then_ k) (fun _ _ h => h))
  have HC5 : Hid (∀ W, Keep nob x6 W → Calls Tryz.prog 19 #[ev5] W fun e w' => e = .returned (.int .i64 5) ∧ Keep nob W w') := Lib.hid (fun W k => code_fault ((HG.out.keep (HW1.out.then_ HX6.out) (fun _ h => h.elim)).keep k (fun _ h => h.elim)) (by decide) (by decide) (HE5.out W k))
  have HC6 : Hid (∀ W, Keep nob x6 W → Calls Tryz.prog 19 #[ev6] W fun e w' => e = .returned (.int .i64 5) ∧ Keep nob W w') := Lib.hid (fun W k => code_fault ((HG.out.keep (HW1.out.then_ HX6.out) (fun _ h => h.elim)).keep k (fun _ h => h.elim)) (by decide) (by decide) (HE6.out W k))
  have k60 : Keep nob x6 x6 := Keep.refl _ _
  go_wp2_with (first | (go_at_call 18; go_must (refine HD6.out.mono ?_); rintro e w11 ⟨rfl, k61⟩) | (go_at_call 19; (with_reducible refine (HC5.out _ (by assumption)).mono ?_); rintro e w12 ⟨rfl, hk12⟩; have k62 := k61.then_ hk12) | (go_at_call 19; (with_reducible refine (HC6.out _ (by assumption)).mono ?_); rintro e w13 ⟨rfl, hk13⟩; have k63 := k62.then_ hk13) | (go_at_call 10; go_must (refine (HLV.out _ (HW1.out.then_ (HX6.out.then_ k63))).mono ?_); rintro e w14 ⟨rfl, hk14⟩; have k64 := k63.then_ hk14))
  go_ret
  exact ⟨rfl, HW1.out.then_ (HX6.out.then_ k64)⟩
set_option maxRecDepth 100000 in
set_option maxHeartbeats 4000000 in
theorem lawM_a (a b : ByteArray) (hs : a.size + b.size ≤ 524288) (c p : Nat) (hX : readN Wd a = .bad c p) (B : Nat) (sa : Nat → Addr) (w : World) (g : GL B sa w) : Calls Tryz.prog 5 #[.string a, .string b] w fun e w' => e = .returned (.bool true) ∧ Keep nob w w' := by
  have hd1 : decide ((a.size : Int) + (b.size : Int) > 524288) = false := by rw [decide_eq_false_iff_not]; omega
  have hd2 : decide (524288 < (a.size : Int) + (b.size : Int)) = false := by rw [decide_eq_false_iff_not]; omega
  have i1 : IntKind.i64.wrap ((a.size : Int) + (b.size : Int)) = (a.size : Int) + (b.size : Int) := by rw [IntWalk.i64_left, IntWalk.wrap64_in _ ⟨by omega, by omega⟩]
  have HG := Lib.hid g
  have HLV : Hid (∀ W, Keep nob w W → Calls Tryz.prog 10 #[] W fun e w' => e = .returned (.bool true) ∧ Keep nob W w') := Lib.hid (fun W hk => lives_ok B sa W (HG.out.keep hk (fun _ h => h.elim)))
  have R1 : Hid (Calls Tryz.prog 7 #[.string a] w (fun e w2 => ∃ ev, e = .returned (.tuple #[.agg #[.int .i8 0, .int .u64 0, .bool false, .slice none 0 0, .int .u64 0, .int .i8 0, .string ⟨#[]⟩, .slice none 0 0], ev]) ∧ Keep nob w w2 ∧ FErr sa w2 (fun k => w.heap.size ≤ k) ev c p)) := by
    have h := read_ok a (by omega) B sa w g
    rw [hX] at h
    exact Lib.hid h
  have HZS : Hid (∀ W, Calls Tryz.prog 14 #[.agg #[.int .i8 0, .int .u64 0, .bool false, .slice none 0 0, .int .u64 0, .int .i8 0, .string ⟨#[]⟩, .slice none 0 0], .agg #[.int .i8 0, .int .u64 0, .bool false, .slice none 0 0, .int .u64 0, .int .i8 0, .string ⟨#[]⟩, .slice none 0 0]] W fun e w' => e = .returned (.bool true) ∧ Keep nob W w') := Lib.hid (fun W => same_ok _ Raw.zero Raw.zero nob nob W (Tr.flat W nob 0 0 false 0 0 ⟨#[]⟩) (Tr.flat W nob 0 0 false 0 0 ⟨#[]⟩))
  clear g hX hs
  go_enter Tryz.func5, Tryz.ntmps5
  go_upto_region 4 with (go_at_call 7; go_must (refine R1.out.mono ?_); rintro e w1 ⟨ev, rfl, hk1, he1⟩; have HK1 := Lib.hid hk1; obtain ⟨bb, rfl, -⟩ := he1; clear hk1)
  obtain ⟨x1, HX1⟩ : ∃ x1, Hid (w1.alloc (.cells #[.int .i8 0, .int .u64 0, .bool false, .slice none 0 0, .int .u64 0, .int .i8 0, .string ⟨#[]⟩, .slice none 0 0] 31) = x1) := ⟨_, Lib.hid rfl⟩
  obtain ⟨b1, HB1⟩ : ∃ b1, Hid (w1.heap.size = b1) := ⟨_, Lib.hid rfl⟩
  have HA1 : Hid (Keep nob w1 x1) := by unfold Hid; rw [← HX1.out]; exact (Keep.refl _ _).alloc _
  have HN1 := Lib.hid (range_new w1 (Raw.zero) 31)
  rw [show w1.alloc (.cells (ER.cells (Raw.zero)).toArray 31) = x1 from HX1.out, HB1.out] at HN1
  rw [HX1.out, HB1.out]
  have HW1 : Hid (Keep nob w x1) := Lib.hid (HK1.out.then_ HA1.out)
  obtain ⟨a0, a1, a2, a3, a4, a5, a6, a7⟩ := cells_val HN1.out
  dsimp only [Raw.zero] at a0 a1 a2 a3 a4 a5 a6 a7
  go_wp2_with (first | (go_at_call 14; go_must (refine (HZS.out _).mono ?_); rintro e w2 ⟨rfl, hk2⟩; have HK2 := Lib.hid (HW1.out.then_ hk2); clear hk2) | (go_at_call 10; go_must (refine (HLV.out _ HK2.out).mono ?_); rintro e w3 ⟨rfl, hk3⟩; have HK3 := Lib.hid (HK2.out.then_ hk3); clear hk3))
  go_ret
  exact ⟨rfl, HK3.out⟩
set_option maxRecDepth 100000 in
theorem lawM_big (a b : ByteArray) (ha : a.size ≤ 4611686018427387903) (hb : b.size ≤ 4611686018427387903) (hs : 524288 < a.size + b.size) (w : World) : Calls Tryz.prog 5 #[.string a, .string b] w fun e w' => e = .returned (.bool true) ∧ Keep nob w w' := by
  have hd1 : decide ((a.size : Int) + (b.size : Int) > 524288) = true := by rw [decide_eq_true_iff]; omega
  have hd2 : decide (524288 < (a.size : Int) + (b.size : Int)) = true := by rw [decide_eq_true_iff]; omega
  have i1 : IntKind.i64.wrap ((a.size : Int) + (b.size : Int)) = (a.size : Int) + (b.size : Int) := by rw [IntWalk.i64_left, IntWalk.wrap64_in _ ⟨by omega, by omega⟩]
  clear ha hb hs
  go_enter Tryz.func5, Tryz.ntmps5
  go_wp2
  go_ret
  exact ⟨rfl, Keep.refl _ _⟩
theorem lawM_ok (a b : ByteArray) (ha : a.size ≤ 4611686018427387903) (hb : b.size ≤ 4611686018427387903) (B : Nat) (sa : Nat → Addr) (w : World) (g : GL B sa w) : Calls Tryz.prog 5 #[.string a, .string b] w fun e w' => e = .returned (.bool true) ∧ Keep nob w w' := by
  by_cases hs : 524288 < a.size + b.size
  · exact lawM_big a b ha hb hs w
  have hs' : a.size + b.size ≤ 524288 := by omega
  cases hX : readN Wd a with
  | bad c p => exact lawM_a a b hs' c p hX B sa w g
  | ok v qa =>
    have hd := read_dep flatWd hX
    cases hY : readN Wd b with
    | ok v2 qb =>
      rcases Nat.lt_or_ge (depV v) 128 with h | h
      · exact lawM_bf a b hs' v qa hX v2 qb hY (by omega) B sa w g
      · exact lawM_bd a b hs' v qa hX v2 qb hY (by omega) B sa w g
    | bad c2 p2 =>
      rcases Nat.lt_or_ge (depV v) 128 with h | h
      · exact lawM_nf a b hs' v qa hX c2 p2 hY (by omega) B sa w g
      · exact lawM_nd a b hs' v qa hX c2 p2 hY (by omega) B sa w g
end Go.Proofs.YtfpkjmpkhokodaaGreatDoor
